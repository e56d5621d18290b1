/- What the laws below rest on: a framework for Go programs, and contracts of the functions that they reach. -/
import Derived.Test.YtagglahlkknacaaGreatDoorDhB
import Derived.Deep.Slices
import Derived.WideShapes
import Derived.ChangeArms
import Derived.OpenShut
import Derived.Test.YtagglahlkknacaaGreatDoorProg
import Derived.KernelRfl
set_option maxRecDepth 20000
set_option linter.unusedVariables false
set_option linter.unusedSimpArgs false
section
namespace Go.TVF
open Go.IntKind(i64 u8)
open Go.RowKit (Below)
theorem Kv {P:Program} {Q:Exit->Act->World->Prop} {a:Act} {w:World} {c:Code} (I:Nat->Act->World->Prop) (h₀:∃m,I m a w)
  (round:∀m a w,I m a w->c.wp P (Exit.then (fun a' w'=>∃m',m'<m/\I m' a' w') Q) a w):(Code.loop c).wp P Q a w:=by
 intro b k cs
 have key:∀m a w,I m a w->∃e a' w',Q e a' w'/\Arrives P (lone (b.at a (.code c:: .inLoop c::k)) cs w) b k cs e a' w':=by
  intro m
  induction m using Nat.strongRecOn with
  | _ m ih=>
   intro a w hI
   obtain⟨e,a₁,w₁,hq,harr⟩:=round m a w hI b (.inLoop c::k) cs
   cases e with
   | normal=>
    obtain⟨m',hlt,hI₁⟩:=hq
    obtain⟨e₂,a₂,w₂,hq₂,harr₂⟩:=ih m' hlt a₁ w₁ hI₁
    exact⟨e₂,a₂,w₂,hq₂,.of_steps (Steps.trans harr (.one step_inLoop)) harr₂⟩
   | exit id=>exact⟨_,a₁,w₁,hq,.pass (x:= .inLoop c) rfl (fun _ _=> .inl (by simp)) harr⟩
   | goto l=>exact⟨_,a₁,w₁,hq,.pass (x:= .inLoop c) rfl (fun _ _=> .inl (by simp)) harr⟩
   | ret=>exact⟨_,a₁,w₁,hq,.pass (x:= .inLoop c) rfl (fun _ _=> .inl (by simp)) harr⟩
   | panic ch=>exact⟨_,a₁,w₁,hq,.pass (x:= .inLoop c) rfl (fun _ _=> .inl (by simp)) harr⟩
   | outgrown=>exact⟨_,a₁,w₁,hq,.pass (x:= .inLoop c) rfl (fun _ _=> .inl (by simp)) harr⟩
 obtain⟨m,hm⟩:=h₀
 obtain⟨e,a',w',hq,harr⟩:=key m a w hm
 exact⟨e,a',w',hq,.of_steps (.one step_loop) harr⟩
theorem Jd:∀{cs:List CTy} {vs:List TV} {I:Fun cs (St->Prop)} {M:Fun cs (St->Nat)} {B:List TV->Nat->St->Prop} {st:St},AllC cs I M B->Gh cs vs I (fun p=>p st)->∃m,B vs m st
 | [],[],I,M,B,st,h,hd=>⟨_,h st hd⟩
 | [],_::_,I,M,B,st,h,hd=>hd.elim
 | _::_,[],I,M,B,st,h,hd=>hd.elim
 | c::cs,v::vs,I,M,B,st,h,hd=>by
  obtain⟨y,rfl,hd2⟩:=Cl hd
  exact Jd (B:=fun l=>B (enc c y::l)) (h y) hd2
theorem JS:∀{cs:List CTy} {vs:List TV} {I:Fun cs (St->Prop)} {M:Fun cs (St->Nat)} {B:List TV->Nat->St->Prop} {st:St} {m:Nat},AllC cs I M B->Ln cs vs I M (fun p q=>p st/\q st<m)->∃m',m'<m/\B vs m' st
 | [],[],I,M,B,st,m,h,hd=>⟨_,hd.2,h st hd.1⟩
 | [],_::_,I,M,B,st,m,h,hd=>hd.elim
 | _::_,[],I,M,B,st,m,h,hd=>hd.elim
 | c::cs,v::vs,I,M,B,st,m,h,hd=>by
  obtain⟨y,rfl,hd2⟩:=Cl hd
  exact JS (B:=fun l=>B (enc c y::l)) (h y) hd2
theorem HY:∀{cs:List CTy} {vs:List TV} {I:Fun cs (St->Prop)} {B:List TV->St->Prop} {st:St},O8 cs I B->Gh cs vs I (fun p=>p st)->B vs st
 | [],[],I,B,st,h,hd=>h st hd
 | [],_::_,I,B,st,h,hd=>hd.elim
 | _::_,[],I,B,st,h,hd=>hd.elim
 | c::cs,v::vs,I,B,st,h,hd=>by
  obtain⟨y,rfl,hd2⟩:=Cl hd
  exact HY (B:=fun l=>B (enc c y::l)) (h y) hd2
def QPost (g:Af) (w:World) (a0:Act) (Q:Exit->Fr->St->Prop) (e:Exit) (a:Act) (w':World):Prop:=Gj g w a0 (Q e) a w'
section
variable {P:Program} {cfg:Cfg} {ns nl:Nat}
theorem NL (hm:P.follows .mixedOrders=true):∀(c:Code) (h:FJ) (Q:Exit->Fr->St->Prop) (fr:Fr) (st:St) (g:Af) (w:World) (a:Act),cwp cfg P ns nl c h Q fr st->Sim g st fr.loc w->DG g w fr a.tmps->a.tmps.size=ns->
  c.wp P (QPost g w a Q) a w:=by
 intro c
 induction c with
 | skip=>intro h Q fr st g w a hc s hf hn;exact wp_skip ⟨fr,st,g,hc,s,hf,Ext.refl _ _,rfl,rfl⟩
 | region id ops draw=>
  intro h Q fr st g w a hc s hf hn
  cases draw with
  | false=>exact wp_region_list (HM ops.toList fr st g w a hc s hf fun a' w' hp=>hp)
  | true=>exact Ki hm hc s hf fun a' w' hp=>hp
 | seq x y ihx ihy=>
  intro h Q fr st g w a hc s hf hn
  have key:∀(hx hy:FJ),cwp cfg P ns nl x hx (KE (cwp cfg P ns nl y hy Q) Q) fr st->(Code.seq x y).wp P (QPost g w a Q) a w:=by
   intro hx hy hcx
   refine wp_seq (wp_mono (ihx hx _ fr st g w a hcx s hf hn) fun e a' w' hq=>?_)
   obtain⟨fr',st',g',h1,h2,h3,h4,h5⟩:=hq
   cases e with
   | normal=>
    refine wp_mono (ihy hy Q fr' st' g' w' a' h1 h2 h3 (h5.2.trans hn)) fun e a'' w'' hq2=>?_
    exact hq2.ext h4 h5
   | _=>exact⟨fr',st',g',h1,h2,h3,h4,h5⟩
  cases h with
  | cut k hx hy=>
   obtain⟨R,h1,h2⟩:=hc
   refine wp_seq (wp_mono (ihx hx _ fr st g w a h1 s hf hn) fun e a' w' hq=>?_)
   obtain⟨fr',st',g',q1,q2,q3,q4,q5⟩:=hq
   cases e with
   | normal=>
    have q1':need (k.ok nl fr') (Gh k.tys (k.vals fr') R fun p=>p st'):=q1
    rw[Ah]at q1'
    obtain⟨w1,w2⟩:=CX.weak (ns:=ns) q1'.1 q2 q3 (q5.2.trans hn)
    have hb:=HY h2 q1'.2
    exact wp_mono (ihy hy Q _ st' g' w' a' hb w1 w2 (q5.2.trans hn)) fun e a'' w'' hq2=>hq2.ext q4 q5
   | _=>exact⟨fr',st',g',q1,q2,q3,q4,q5⟩
  | none=>exact key _ _ hc
  | seq p q=>exact key _ _ hc
  | cond p q=>exact key _ _ hc
  | block p=>exact key _ _ hc
  | loop k p=>exact key _ _ hc
 | cond c x y ihx ihy=>
  intro h Q fr st g w a hc s hf hn
  simp only[cwp]at hc
  split at hc
  ·rename_i b hb
   have hr:=J2 hf c
   rw[hb]at hr
   have hr':Rel g w (.bool b) (a.eval c):=hr
   have hev:a.eval c= .bool b:=by generalize a.eval c=q at hr';cases hr';rfl
   cases b with
   | true=>exact wp_cond_true hev (ihx h.l Q fr st g w a hc s hf hn)
   | false=>exact wp_cond_false hev (ihy h.r Q fr st g w a hc s hf hn)
  ·exact hc.elim
 | block id x ih=>
  intro h Q fr st g w a hc s hf hn
  refine wp_block (wp_mono (ih h.l (Mu id Q) fr st g w a hc s hf hn) fun e a' w' hq=>?_)
  obtain⟨fr',st',g',h1,h2,h3,h4,h5⟩:=hq
  cases e with
  | exit id'=>
   simp only[Mu]at h1
   by_cases hid:id'=id
   ·subst hid
    have hbe:(id'.beq id')=true:=Nat.beq_refl id'
    simp only[hbe]at h1
    simp only[Exit.inBlock,if_true]
    exact⟨fr',st',g',h1,h2,h3,h4,h5⟩
   ·have hbe:(id'.beq id)=false:=by
     cases hq:id'.beq id with
     | false=>rfl
     | true=>exact absurd (Nat.eq_of_beq_eq_true hq) hid
    simp only[hbe]at h1
    simp only[Exit.inBlock,hid,if_false]
    exact⟨fr',st',g',h1,h2,h3,h4,h5⟩
  | _=>exact⟨fr',st',g',h1,h2,h3,h4,h5⟩
 | loop x ih=>
  intro h Q fr st g w a hc s hf hn
  cases h with
  | loop k hx=>
   obtain⟨I,M,h1,h2⟩:=hc
   rw[Ah]at h1
   refine Kv (fun m a' w'=>∃vals st' g',cwp cfg P ns nl x hx (KE (fun fr st=>need (k.ok nl fr) (Ln k.tys (k.vals fr) I M fun p q=>p st/\q st<m)) Q) (k.frame ns nl vals) st'/\
    Sim g' st' (k.frame ns nl vals).loc w'/\DG g' w' (k.frame ns nl vals) a'.tmps/\Ext g w g' w'/\a'.defers=a.defers/\a'.tmps.size=a.tmps.size) ?_ ?_
   ·obtain⟨m,hm⟩:=Jd h2 h1.2
    obtain⟨w1,w2⟩:=CX.weak (ns:=ns) h1.1 s hf hn
    exact⟨m,_,st,g,hm,w1,w2,Ext.refl _ _,rfl,rfl⟩
   ·rintro m a' w' ⟨vals,st',g',q1,q2,q3,q4,q5⟩
    refine wp_mono (ih hx _ _ st' g' w' a' q1 q2 q3 (q5.2.trans hn)) fun e a'' w'' hq=>?_
    obtain⟨fr2,st2,g2,r1,r2,r3,r4,r5⟩:=hq
    cases e with
    | normal=>
     have r1':need (k.ok nl fr2) (Ln k.tys (k.vals fr2) I M fun p q=>p st2/\q st2<m):=r1
     rw[Ah]at r1'
     obtain⟨m',hlt,hB⟩:=JS h2 r1'.2
     obtain⟨w1,w2⟩:=CX.weak (ns:=ns) r1'.1 r2 r3 (r5.2.trans (q5.2.trans hn))
     exact⟨m',hlt,_,st2,g2,hB,w1,w2,q4.trans r4,r5.1.trans q5.1,r5.2.trans q5.2⟩
    | _=>exact⟨fr2,st2,g2,r1,r2,r3,q4.trans r4,r5.1.trans q5.1,r5.2.trans q5.2⟩
  | _=>exact hc.elim
 | exit id=>intro h Q fr st g w a hc s hf hn;exact wp_exit ⟨fr,st,g,hc,s,hf,Ext.refl _ _,rfl,rfl⟩
 | ret=>intro h Q fr st g w a hc s hf hn;exact wp_ret ⟨fr,st,g,hc,s,hf,Ext.refl _ _,rfl,rfl⟩
 | _=>intro h Q fr st g w a hc s hf hn;exact hc.elim
def Ht (P:Program) (fr:Fr) (st:St):ResultVar->Option TV
 | .tmp t=>some (Hp fr t)
 | .cell a t=>match GC P t with
  | some true=>match P.cellsOf t with
   | 0=>none
   | n=>(Aq st fr.loc (fr.slots.f a) 0 n).map .agg
  | some false=>Ag st fr.loc (fr.slots.f a) 0
  | none=>none
def Fx (P:Program) (fr:Fr) (st:St):List ResultVar->Option (List TV)
 | []=>some []
 | r::rs=>match Ht P fr st r with
  | some v=>(Fx P fr st rs).map (v::·)
  | none=>none
def LB:List TV->TV
 | [v]=>v
 | vs=> .tuple vs
def resT (P:Program) (fn:Func) (fr:Fr) (st:St):Option TV:=(Fx P fr st fn.results.toList).map LB
def J5 (P:Program) (fr:Fr) (st:St) (r:ResultVar) (k:TV->Prop):Prop:=
 match r with
 | .tmp t=>k (Hp fr t)
 | .cell a t=>match GC P t with
  | some true=>match P.cellsOf t with
   | 0=>False
   | n=>At ((Aq st fr.loc (fr.slots.f a) 0 n).map .agg) k
  | some false=>At (Ag st fr.loc (fr.slots.f a) 0) k
  | none=>False
def GW (P:Program) (fr:Fr) (st:St):List ResultVar->(List TV->Prop)->Prop
 | [],k=>k []
 | r::rs,k=>J5 P fr st r fun v=>GW P fr st rs fun vs=>k (v::vs)
theorem Jg {P:Program} {fr:Fr} {st:St} {r:ResultVar} {k:TV->Prop} (h:J5 P fr st r k):∃v,Ht P fr st r=some v/\k v:=by
 cases r with
 | tmp t=>exact⟨_,rfl,h⟩
 | cell a t=>
  unfold J5 at h
  unfold Ht
  simp only at h⊢
  cases ha:GC P t with
  | none=>rw[ha]at h;exact h.elim
  | some b=>
   rw[ha]at h
   cases b with
   | true=>
    simp only at h⊢
    cases hn:P.cellsOf t with
    | zero=>rw[hn]at h;exact h.elim
    | succ n=>
     rw[hn]at h
     exact Ce.1 h
   | false=>exact Ce.1 h
theorem F8 {P:Program} {fr:Fr} {st:St}:∀{rs:List ResultVar} {k:List TV->Prop},GW P fr st rs k->∃vs,Fx P fr st rs=some vs/\k vs
 | [],k,h=>⟨[],rfl,h⟩
 | r::rs,k,h=>by
  obtain⟨v,h1,h2⟩:=Jg h
  obtain⟨vs,h3,h4⟩:=F8 h2
  exact⟨v::vs,by simp[Fx,h1,h3],h4⟩
def retQ (P:Program) (fn:Func) (R:TV->St->Prop):Exit->Fr->St->Prop
 | .normal,fr,st=>GW P fr st fn.results.toList fun vs=>R (LB vs) st
 | .ret,fr,st=>GW P fr st fn.results.toList fun vs=>R (LB vs) st
 | _,_,_=>False
def EI (cfg:Cfg) (fn:Func) (args:List TV):Fr:=⟨⟨fn.ntmps,fun i=>match args[i]? with | some v=> .t v | none=> .t .undef⟩,cfg.loc.map fun _=>none⟩
theorem J4 {g:Af} {st:St} {w:World} {fr:Fr} {tmps:Array Value} (s:Sim g st fr.loc w) (hf:DG g w fr tmps) {r:ResultVar} {v:TV} (h:Ht P fr st r=some v):
  ∃u,(match r with | .tmp t=>pure (tmps.getD t Go.undef) | .cell a t=>do loadVar t (<-asAddr (tmps.getD a Go.undef)):Sem Value).run P w= .ok u w/\Rel g w v u:=by
 cases r with
 | tmp t=>
  simp only[Ht,Option.some.injEq]at h
  subst h
  exact⟨_,rfl,(hf.2 t).tv⟩
 | cell a t=>
  simp only[Ht]at h
  have hld:∀p,AV g w fr.loc p (tmps.getD a Go.undef)->(Cx P st fr.loc t p).Is (.t v)->∃u,(do loadVar t (<-asAddr (tmps.getD a Go.undef)):Sem Value).run P w= .ok u w/\Rel g w v u:=by
   intro p hp hl
   have hl':=hl
   obtain⟨u,hu,hr⟩:=II (P:=P) s hp hl'
   have hsa:(Instr.loadAt t (tmps.getD a Go.undef)).run P w=(do loadVar t (<-asAddr (tmps.getD a Go.undef)):Sem Value).run P w:=by
    generalize hq:tmps.getD a Go.undef=q at hp hu
    simp only[Instr.loadAt,Sem.run_bind]
    cases q with
    | pointer o=>cases o with
     | none=>simp[Instr.loadAt,Instr.sureAddr]at hu
     | some ad=>simp[Instr.sureAddr,asAddr]
    | _=>simp[Instr.loadAt,Instr.sureAddr]at hu
   exact⟨u,by rw[<-hsa];exact hu,hr⟩
  split at h
  ·rename_i ha
   split at h
   ·cases h
   ·rename_i n hn
    refine hld _ (hf.2 a) ?_
    unfold Cx
    rw[ha]
    exact⟨v,by
     split
     ·rename_i h0;exact absurd h0 hn
     ·exact h,rfl⟩
  ·rename_i ha
   refine hld _ (hf.2 a) ?_
   unfold Cx
   rw[ha]
   exact⟨v,h,rfl⟩
  ·cases h
theorem GV {g:Af} {st:St} {w:World} {fr:Fr} {tmps:Array Value} (s:Sim g st fr.loc w) (hf:DG g w fr tmps):∀{rs:List ResultVar} {vs:List TV},Fx P fr st rs=some vs->
  ∃us:List Value,(rs.mapM (fun r=>match r with | .tmp t=>pure (tmps.getD t Go.undef) | .cell a t=>do loadVar t (<-asAddr (tmps.getD a Go.undef))):Sem (List Value)).run P w= .ok us w/\AA g w vs us
 | [],vs,h=>by simp only[Fx,Option.some.injEq]at h;subst h;exact⟨[],rfl,.nil _ _⟩
 | r::rs,vs,h=>by
  simp only[Fx]at h
  split at h
  ·rename_i v hv
   obtain⟨vs',hvs',rfl⟩:=Option.map_eq_some_iff.1 h
   obtain⟨u,hu,hr⟩:=J4 s hf hv
   obtain⟨us,hus,hrs⟩:=GV s hf hvs'
   refine⟨u::us,?_,.cons hr hrs⟩
   rw[List.mapM_cons]
   simp only[Sem.run_bind,hu,Result.andThen_ok,hus,Sem.run_pure]
  ·cases h
theorem LL {g:Af} {st:St} {w:World} {fr:Fr} {tmps:Array Value} (s:Sim g st fr.loc w) (hf:DG g w fr tmps) {fn:Func} {v:TV} (h:resT P fn fr st=some v):∃u,(results fn tmps).run P w= .ok u w/\Rel g w v u:=by
 unfold resT at h
 cases hr:Fx P fr st fn.results.toList with
 | none=>rw[hr]at h;cases h
 | some vs=>
  rw[hr]at h
  obtain⟨us,hus,hrel⟩:=GV s hf hr
  have hrun:(fn.results.mapM (fun r=>match r with | .tmp t=>pure (tmps.getD t Go.undef) | .cell a t=>do loadVar t (<-asAddr (tmps.getD a Go.undef))):Sem (Array Value)).run P w= .ok us.toArray w:=by
   rw[<-Array.toArray_toList (xs:=fn.results),List.mapM_toArray]
   simp only[Sem.run_map,hus,Result.andThen_ok]
  refine⟨if h:us.toArray.size=1 then us.toArray[0]else .tuple us.toArray,?_,?_⟩
  ·have hres:results fn tmps=(do
     let vs<-(fn.results.mapM (fun r=>match r with | .tmp t=>pure (tmps.getD t Go.undef) | .cell a t=>do loadVar t (<-asAddr (tmps.getD a Go.undef))):Sem (Array Value))
     pure (if h:vs.size=1 then vs[0]else .tuple vs)):=rfl
   rw[hres,Sem.run_bind,hrun]
   rfl
  ·cases vs with
   | nil=>
    simp only[Option.map_some,Option.some.injEq,LB]at h;subst h
    have:us=[]:=List.eq_nil_of_length_eq_zero hrel.1.symm
    subst this
    exact Rel.tuple [] [] rfl (fun i hi=>absurd hi (Nat.not_lt_zero _))
   | cons v1 vs1=>cases vs1 with
    | nil=>
     simp only[Option.map_some,Option.some.injEq,LB]at h;subst h
     cases us with
     | nil=>have:=hrel.1;simp at this
     | cons u1 us1=>
      have:us1=[]:=List.eq_nil_of_length_eq_zero (by have:=hrel.1;simpa using this.symm)
      subst this
      simpa using hrel.2 0 (by simp)
    | cons v2 vs2=>
     simp only[Option.map_some,Option.some.injEq,LB]at h;subst h
     have hl:us.toArray.size≠1:=by have:=hrel.1;simp at this⊢;omega
     rw[dif_neg hl]
     exact Rel.tuple _ us hrel.1 hrel.2
theorem Nh (hm:P.follows .mixedOrders=true) {f:FuncId} {fn:Func} {c:Code} (hcall:∀(vs:Array Value) (w:World),(callFunc f vs).run P w= .ok (.enter f vs) w) (hf:P.funcs[f]? =some fn) (hb:fn.body=some c)
  (cfg:Cfg) (h:FJ) {args:List TV} {st:St} {R:TV->St->Prop} (hn:args.length<=fn.ntmps)
  (hc:cwp cfg P fn.ntmps cfg.loc.length c h (retQ P fn R) (EI cfg fn args) st):DF P f args st R:=by
 refine Cv hcall fun g w vargs s hr=>?_
 refine calls_of_wp hf hb ?_
 have hlen:vargs.length=args.length:=hr.1.symm
 have hsize:(vargs.toArray++Array.replicate (fn.ntmps-vargs.toArray.size) Go.undef).size=fn.ntmps:=by simp;omega
 have hsim:Sim g st (EI cfg fn args).loc w:=s.weakLoc fun j x' hx'=>by
  simp only[EI,List.getElem?_map]at hx'
  cases hq:cfg.loc[j]? with
  | none=>rw[hq]at hx';cases hx'
  | some q=>rw[hq]at hx';simp at hx'
 have hfr:DG g w (EI cfg fn args) (vargs.toArray++Array.replicate (fn.ntmps-vargs.toArray.size) Go.undef):=by
  refine⟨by rw[hsize];rfl,fun i=>?_⟩
  by_cases hia:i<args.length
  ·have h1:(EI cfg fn args).slots.f i= .t args[i]:=by simp[EI,hia]
   have h2:(vargs.toArray++Array.replicate (fn.ntmps-vargs.toArray.size) Go.undef).getD i Go.undef=vargs.getD i Go.undef:=by
    have:i<vargs.length:=by omega
    have hin:i<fn.ntmps:=by omega
    simp[Array.getD,Array.getElem_append,this,hin,List.getD_eq_getElem?_getD]
    omega
   rw[h1,h2]
   exact hr.2 i hia
  ·have h1:(EI cfg fn args).slots.f i= .t .undef:=by simp[EI,hia]
   have h2:(vargs.toArray++Array.replicate (fn.ntmps-vargs.toArray.size) Go.undef).getD i Go.undef=Go.undef:=by
    have:¬i<vargs.length:=by omega
    simp[Array.getD,Array.getElem_append,this]
   rw[h1,h2]
   exact Rel.undef
 refine wp_mono (NL hm c h _ _ st g w {tmps:=vargs.toArray++Array.replicate (fn.ntmps-vargs.toArray.size) Go.undef,defers:=[]} hc hsim hfr hsize) fun e a' w' hq=>?_
 obtain⟨fr',st',g',h1,h2,h3,h4,h5,h6⟩:=hq
 have fin:GW P fr' st' fn.results.toList (fun vs=>R (LB vs) st')->a'.defers=[]/\∃v,(results fn a'.tmps).run P w'= .ok v w'/\∃v',Ending.returned v= .returned v'/\∃r st' g',R r st'/\Sim g' st' [] w'/\Rel g' w' r v'/\Ext g w g' w':=by
  intro ho
  obtain⟨vs,hvs,hR⟩:=F8 ho
  obtain⟨u,hu,hrel⟩:=LL (fn:=fn) h2 h3 (by unfold resT;rw[hvs];rfl)
  exact⟨h5,u,hu,u,rfl,_,st',g',hR,h2.dropLoc (fun j x hx=>by simp at hx),hrel,h4⟩
 cases e with
 | normal=>exact fin h1
 | ret=>exact fin h1
 | _=>exact h1.elim
def St.zero:St:={nb:=0,box:=fun _=> .dead,nt:=0,live:=fun _=>false,ty:=fun _=>none,bt:=fun _=>none}
def Af.start (w:World):Af:={base:=w.heap.size,w0:=w,nb:=0,bk:=fun _=>0,lam:=fun _=>0,nt:=0,sp:=fun _=>none,S:=fun a=>a.spot=none/\∃v,w.cell? a=some v,prot:=fun _=>False}
theorem Sim.start (w:World) (hG:∀w',Below w.heap.size w w'->Ks w'):Sim (Af.start w) St.zero [] w:=by
 have hd:∀k,¬Dom St.zero [] k:=by
  intro k d
  cases k with
  | box i=>exact absurd d (Nat.not_lt_zero _)
  | loc i=>obtain⟨x,hx⟩:=d;simp at hx
 exact⟨rfl,rfl,Below.refl _ _,Nat.le_refl _,fun k d=>absurd d (hd k),fun k k' d=>absurd d (hd k),fun k d=>absurd d (hd k),fun id h=>absurd h (Nat.not_lt_zero _),
  fun id b l h hh=>(by cases hh),fun i j b l h l' h' _ hh=>(by cases hh),fun id _=>rfl,fun a ha=>⟨ha.1,ha.2,fun k d=>absurd d (hd k),fun id l h hh=>(by cases hh)⟩,fun b hb=>hb.elim,fun id b l h hh=>(by cases hh),fun id b l h T hh=>(by cases hh),fun b T hb=>absurd hb (Nat.not_lt_zero _),hG⟩
theorem Mq {f:FuncId} {args:List TV} (hcall:∀(vs:Array Value) (w:World),(callFunc f vs).run P w= .ok (.enter f vs) w) (h:DF P f args St.zero fun r _=>r= .bool true) (w:World) (hG:∀w',Below w.heap.size w w'->Ks w') (vargs:List Value) (hr:AA (Af.start w) w args vargs):
  Calls P f vargs.toArray w fun e w'=>e= .returned (.bool true)/\Below w.heap.size w w':=by
 have h1:=h.run (Af.start w) w vargs (Sim.start w hG) hr
 unfold B2 at h1
 rw[hcall]at h1
 refine Calls.mono h1 ?_
 rintro e w' ⟨v,rfl,r,st',g',rfl,s',hrel,e'⟩
 have hb:=s'.below
 rw[e'.base,e'.w0]at hb
 cases hrel
 exact⟨rfl,hb⟩
end
def Mt (fn:Func):Code:=match fn.body with | some c=>c | none=> .skip
def Fw (cfg:Cfg) (P:Program) (h:FJ) (fn:Func) (args:List TV) (st:St) (R:TV->St->Prop):Prop:=
 cwp cfg P fn.ntmps cfg.loc.length (Mt fn) h (retQ P fn R) (EI cfg fn args) st
def fits (fn:Func) (args:List TV):Bool:=(fn.body.isSome).and (args.length.ble fn.ntmps)
theorem Ad {P:Program} (hm:P.follows .mixedOrders=true) {f:FuncId} {fn:Func} (hcall:∀(vs:Array Value) (w:World),(callFunc f vs).run P w= .ok (.enter f vs) w) (hf:P.funcs[f]? =some fn)
  {cfg:Cfg} {h:FJ} {args:List TV} {st:St} {R:TV->St->Prop} (hn:fits fn args=true) {V:Prop} (he:Fw cfg P h fn args st R=V) (hV:V):DF P f args st R:=by
 simp only[fits,Bool.and_eq_true]at hn
 obtain⟨c,hc⟩:=Option.isSome_iff_exists.1 hn.1
 have hb:fn.body=some (Mt fn):=by rw[Mt,hc]
 rw[<-he]at hV
 exact Nh hm hcall hf hb cfg h (Nat.le_of_ble_eq_true hn.2) hV
def Mi (cs:List CTy) (v:TV) (f:Fun cs Prop):Prop:=
 match v with
 | .agg l=>decL cs l f
 | _=>False
def stB (st:St) (p:TV) (xs:List TV) (k:St->Prop):Prop:=
 match p with
 | .box b off=>∃l,st.box b= .cells l/\off+xs.length<=l.length/\k (st.put b (.cells (setAll l off xs)))
 | _=>False
theorem Aa {p:Prop} [Decidable p] {x y:Prop} (h1:p->x) (h2:¬p->y):BIf (decide p) x y:=by
 by_cases h:p
 ·simp only[h,decide_true,BIf];exact h1 h
 ·simp only[h,decide_false,BIf];exact h2 h
theorem Ay {b:Bool} {x y:Prop} (h1:b=true->x) (h2:b=false->y):BIf b x y:=by
 cases b
 ·exact h2 rfl
 ·exact h1 rfl
end Go.TVF
end
section
namespace Go.TVF
open Go.IntKind(i64 u8)
structure Ax (a b:St):Prop where
 nb:a.nb<=b.nb
 box:∀i,i<a.nb->b.box i=a.box i
 nt:a.nt<=b.nt
 live:∀i,i<a.nt->b.live i=a.live i
 ty:∀i,i<a.nt->b.ty i=a.ty i
 bt:∀i,i<a.nb->b.bt i=a.bt i
theorem Ax.refl (a:St):Ax a a:=⟨Nat.le_refl _,fun _ _=>rfl,Nat.le_refl _,fun _ _=>rfl,fun _ _=>rfl,fun _ _=>rfl⟩
theorem Ax.trans {a b c:St} (h:Ax a b) (k:Ax b c):Ax a c:=
 ⟨Nat.le_trans h.nb k.nb,fun i hi=>(k.box i (Nat.lt_of_lt_of_le hi h.nb)).trans (h.box i hi),Nat.le_trans h.nt k.nt,fun i hi=>(k.live i (Nat.lt_of_lt_of_le hi h.nt)).trans (h.live i hi),fun i hi=>(k.ty i (Nat.lt_of_lt_of_le hi h.nt)).trans (h.ty i hi),fun i hi=>(k.bt i (Nat.lt_of_lt_of_le hi h.nb)).trans (h.bt i hi)⟩
theorem Ax.fresh {a b:St} (h:Ax a b) (T:Option Nat):Ax a (b.fresh T):=
 h.trans ⟨Nat.le_refl _,fun _ _=>rfl,Nat.le_succ _,fun i hi=>by simp only[St.fresh];rw[if_neg (by omega)],fun i hi=>by simp only[St.fresh];rw[if_neg (by omega)],fun _ _=>rfl⟩
theorem Ax.push {a b:St} (h:Ax a b) (o:GE) (T:Option Nat):Ax a (b.push o T):=
 h.trans ⟨Nat.le_succ _,fun i hi=>by simp only[St.push];rw[if_neg (by omega)],Nat.le_refl _,fun _ _=>rfl,fun _ _=>rfl,fun i hi=>by simp only[St.push];rw[if_neg (by omega)]⟩
theorem Ax.retire {a b:St} (h:Ax a b) {id:Nat} (hid:a.nt<=id):Ax a (b.retire id):=
 ⟨h.nb,h.box,h.nt,fun i hi=>by simp only[St.retire];rw[if_neg (by omega)];exact h.live i hi,h.ty,h.bt⟩
theorem Ax.put {a b:St} (h:Ax a b) {i:Nat} (hi:a.nb<=i) (o:GE):Ax a (b.put i o):=
 ⟨h.nb,fun j hj=>by simp only[St.put];rw[if_neg (by omega)];exact h.box j hj,h.nt,h.live,h.ty,h.bt⟩
theorem Ji (l:B8):(AE l).length=l.length:=by simp[AE]
theorem BZ:∀l:B8,Dq (AE l)=some l
 | []=>rfl
 | c::l=>by
  have:=BZ l
  simp only[AE]at this
  simp[AE,Dq,FH,Mw,this]
theorem LU (l:B8):(AE l).all BR=true:=by simp[AE,FH,BR]
theorem Jq (a b:B8):AE a++AE b=AE (a++b):=by simp[AE]
def Rd (sz:Nat) (v:TV) (n:Nat) (xs:List TV):Prop:=
 (v= .nilSlice/\n=0/\xs=[])∨∃tip,v= .list sz tip n xs
def RdB (v:TV) (l:B8):Prop:=Rd 1 v l.length (AE l)
def Own (b sz:Nat) (st:St) (v:TV) (n:Nat) (xs:List TV):Prop:=
 (v= .nilSlice/\n=0/\xs=[])∨∃tip,v= .list sz tip n xs/\(tip= .full∨∃id,tip= .own id/\b<=id/\id<st.nt/\st.live id=true)
def HJ (b:Nat) (st:St) (v:TV) (l:B8):Prop:=Own b 1 st v l.length (AE l)
theorem Own.rd {b sz:Nat} {st:St} {v:TV} {n:Nat} {xs:List TV} (h:Own b sz st v n xs):Rd sz v n xs:=by
 rcases h with h | ⟨tip,h,_⟩
 ·exact .inl h
 ·exact .inr ⟨tip,h⟩
theorem HJ.rd {b:Nat} {st:St} {v:TV} {l:B8} (h:HJ b st v l):RdB v l:=Own.rd h
theorem Own.nil (b sz:Nat) (st:St):Own b sz st .nilSlice 0 []:= .inl ⟨rfl,rfl,rfl⟩
theorem HJ.nil (b:Nat) (st:St):HJ b st .nilSlice []:=Own.nil b 1 st
theorem Own.full (b sz:Nat) (st:St) (n:Nat) (xs:List TV):Own b sz st (.list sz .full n xs) n xs:= .inr ⟨_,rfl,.inl rfl⟩
theorem Own.fresh {b sz:Nat} {st:St} {T:Option Nat} (n:Nat) (xs:List TV) (hb:b<=st.nt):Own b sz (st.fresh T) (.list sz (.own st.nt) n xs) n xs:=
 .inr ⟨_,rfl,.inr ⟨st.nt,rfl,hb,Nat.lt_succ_self _,by simp[St.fresh]⟩⟩
theorem RdB.toBytes {v:TV} {l:B8} (h:RdB v l) (st:St):TVF.toBytes st v=some l:=by
 rcases h with⟨rfl,h1,h2⟩ | ⟨tip,rfl⟩
 ·have:l=[]:=List.eq_nil_of_length_eq_zero h1
  subst this;rfl
 ·simp[TVF.toBytes,BZ]
theorem O6 {T b sz bytes:Nat} {st0 st:St} {v:TV} {n k:Nat} {xs ys:List TV} {K:TV->St->Prop} (e:Ax st0 st) (hb:b=st0.nt) (h:Own b sz st v n xs) (hby:(n+k)*bytes<=140737488355328) (hys:k=0->ys=[])
  (hK:∀v' st',Ax st0 st'->st'.box=st.box->Own b sz st' v' (n+k) (xs++ys)->K v' st'):B0 T sz bytes v k ys st K:=by
 subst hb
 rcases h with⟨rfl,rfl,rfl⟩ | ⟨tip,rfl,ht⟩
 ·simp only[B0]
  cases k with
  | zero=>rw[hys rfl]at hK;exact hK _ _ e rfl (.nil _ _ _)
  | succ m=>
   simp only[Ah]
   refine⟨by simpa using hby,hK _ _ (e.fresh _) rfl ?_⟩
   simp only[List.nil_append,Nat.zero_add]
   exact Own.fresh _ _ e.nt
 ·simp only[B0,Nat.beq_refl]
  refine⟨hby,?_⟩
  rcases ht with rfl | ⟨id,rfl,h1,h2,h3⟩
  ·cases k with
   | zero=>rw[hys rfl]at hK;simp only[List.append_nil]at hK;exact hK _ _ e rfl (Own.full _ _ _ _ _)
   | succ m=>exact hK _ _ (e.fresh _) rfl (Own.fresh _ _ e.nt)
  ·exact⟨h3,hK _ _ ((e.retire h1).fresh _) rfl (Own.fresh (st:=st.retire id) _ _ e.nt)⟩
theorem Mx {T:Nat} {st0 st:St} {v:TV} {l ys:B8} {K:TV->St->Prop} (e:Ax st0 st) (h:HJ st0.nt st v l) (hby:l.length+ys.length<=140737488355328)
  (hK:∀v' st',Ax st0 st'->st'.box=st.box->HJ st0.nt st' v' (l++ys)->K v' st'):B0 T 1 1 v ys.length (AE ys) st K:=
 O6 e rfl h (by omega) (fun h0=>by rw[List.eq_nil_of_length_eq_zero h0];rfl) fun v' st' h1 h2 h3=>hK v' st' h1 h2 (by
  unfold HJ
  rw[List.length_append,<-Jq];exact h3)
theorem Ae {b:Bool} {k:Prop} (h:b=true) (hk:k):need b k:=Ah.2 ⟨h,hk⟩
theorem Ac {α:Type} {o:Option α} {x:α} {k:α->Prop} (h:o=some x) (hk:k x):At o k:=by rw[h];exact hk
theorem Ab (x:Int) (h1: -9223372036854775808<=x) (h2:x<=9223372036854775807):IntKind.wrap .i64 x=x:=by
 unfold IntKind.wrap
 simp only[IntKind.signed,IntKind.bits]
 simp
 omega
theorem Gl (x:Int) (h1:0<=x) (h2:x<=255):IntKind.wrap .u8 x=x:=by
 unfold IntKind.wrap
 simp only[IntKind.signed,IntKind.bits]
 simp
 omega
end Go.TVF
end
section
namespace Go.TVF
open Go.IntKind(i64 u8)
open Go.RowKit (Below)
theorem OZ {r:TV} {st':St} (h:D3 [.one .bool] r (fun (b:Bool) (_:St)=>b=true) (fun p=>p st')):r= .bool true:=by
 cases r<;>simp only[D3,DD,Au]at h<;>first | exact h.elim | skip
 subst h;rfl
theorem calls_law {P:Program} {f:FuncId} {args:List TV} (hcall:∀(vs:Array Value) (w:World),(callFunc f vs).run P w= .ok (.enter f vs) w) (h:CallT P f args [.one .bool] St.zero (fun r _=>r=true)) (w:World) (hG:∀w',Below w.heap.size w w'->Ks w') (vargs:List Value) (hr:AA (Af.start w) w args vargs):
  Calls P f vargs.toArray w fun e w'=>e= .returned (.bool true)/\Below w.heap.size w w':=
 Mq hcall (DF.mono h fun r st' hd=>OZ hd) w hG vargs hr
theorem rel_string (g:Af) (w:World) (s:ByteArray):Rel g w (.str s.data.toList) (.string s):=by
 have:=Rel.str (g:=g) (w:=w) s.data.toList
 simpa using this
section
variable {H:Type} {enc:TypeId×Value->H} {P:Program} {w:World} {base:Nat} {sp:Nat->Bool} {held:Bool}
end
end Go.TVF
end
namespace Go.TVF
open Go.IntKind(i64 u8)
open Go Go.Proofs
theorem mixed:Tryz.prog.follows .mixedOrders=true:=by kernel_rfl
noncomputable def PR:Program:=Tryz.prog
abbrev V13(X:Type):=Int->Bool->Bool->B8->Int->Int->Int->Int->Int->B8->TV->TV->TV->X
abbrev sV:RTy:=.agg [.int .i64,.bool,.bool,.str,.int .i64,.int .i64,.int .i64,.int .i64,.int .i64,.str,.tv,.tv,.tv]
abbrev cV(a:Int)(b c:Bool)(d:B8)(e f g h i:Int)(j:B8)(k l m:TV):List TV:=[.int .i64 a,.bool b,.bool c,.str d,.int .i64 e,.int .i64 f,.int .i64 g,.int .i64 h,.int .i64 i,.str j,k,l,m]
abbrev BId(p:Prop)[Decidable p](a b:Prop):Prop:=BIf (decide p) a b
def fn_datakitlaw24_TablelexScalars:Nat:=6
def AZ:Nat:=18
def Bh:Nat:=27
def Cj:Nat:=28
def By:Nat:=29
def CN:Nat:=43
def B4:Nat:=63
def A5:Nat:=64
def B5:Nat:=65
def Ch:Nat:=66
def A1:Nat:=67
def AW:Nat:=68
def Bf:Nat:=69
def Be:Nat:=70
def A4:Nat:=88
def A2:Nat:=89
def CZ:Nat:=111
def AU:Nat:=112
def AF:Nat:=113
def BV:Nat:=114
def CO:Nat:=115
def B9:Nat:=116
def BG:Nat:=117
def BJ:Nat:=118
def Db:Nat:=119
def Cu:Nat:=120
def Bx:Nat:=121
def Ao:Nat:=122
def A6:Nat:=123
def BK:Nat:=124
def BD:Nat:=125
def AM:Nat:=126
def Aw:Nat:=127
def Ca:Nat:=128
def Ai:Nat:=129
def AC:Nat:=130
def AL:Nat:=138
def AP:Nat:=167
def AB:Nat:=168
def BI:Nat:=169
def BO:Nat:=205
def B3:Nat:=206
def B7:Nat:=207
def Cy:Nat:=208
def Bw:Nat:=209
def Bv:Nat:=210
def Cg:Nat:=211
def C9:Nat:=212
def Da:Nat:=217
def AQ:Nat:=218
def Bc:Nat:=219
def Ap:Nat:=220
def A0:Nat:=221
def BQ:Nat:=222
def Cz:Nat:=223
def BA:Nat:=224
def AR:Nat:=225
def Bd:Nat:=226
def Bg:Nat:=227
def BN:Nat:=228
def BL:Nat:=229
def AT:Nat:=230
def BC:Nat:=231
def C0:Nat:=232
def BB:Nat:=246
def Bp:Nat:=279
def Bl:Nat:=280
def BU:Nat:=281
def CU:Nat:=284
def Al:Nat:=285
def Bj:Nat:=286
def BP:Nat:=287
def CP:Nat:=288
def Bz:Nat:=289
def Ar:Nat:=290
def BM:Nat:=291
def AN:Nat:=292
def DZ:Nat:=293
def BW:Nat:=317
def Bk:Nat:=318
def BE:Nat:=319
def AY:Nat:=331
def Bq:Nat:=334
def N5:B8:=[97,46,98,32,61,32,49,46,53]
def str1:B8:=[50,48,50,52,45,48,50,45,50,57,32,49,48,58,48,48,58,48,48,90,93]
def str2:B8:=[39,97,92,98,39]
def str3:B8:=[97,46,98]
def str4:B8:=[50,48,50,52,45,48,50,45,50,57,32,49,48,58,48,48,58,48,48,90]
def str5:B8:=[97,92,98]
def str6:B8:=[97,45,49]
def Hn:B8:=[116,114,117,101]
def NZ:B8:=[102,97,108,115,101]
def str9:B8:=[45]
def str10:B8:=[46]
def str11:B8:=[43]
def N4:B8:=[48]
def str13:B8:=[100,100,100,100,45,100,100,45,100,100]
def str20:B8:=[48,49,50,51,52,53,54,55,56,57,97,98,99,100,101,102]
def N3:B8:=[91,93,123,125,44,61]
def Fp:B8:=[34,92,47,98,102,110,114,116]
def Jw:B8:=[34,92,47,8,12,10,13,9]
def str27:B8:=[84,116,32]
def str28:B8:=[100,100,58,100,100,58,100,100]
def CS:B8:=[48,48,48,48,48,48,48,48,48]
def str30:B8:=[90]
def str31:B8:=[122]
def str32:B8:=[43,100,100,58,100,100]
def str33:B8:=[45,100,100,58,100,100]
def MG:B8:=[58]
def Jv:B8:=[13,10]
def N2:B8:=[48,48,48,48,45,48,48,45,48,48]
def N1:B8:=[32,48,48,58]
def str55:B8:=[90,122,43,45]
def str56:B8:=[57,50,50,51,51,55,50,48,51,54,56,53,52,55,55,53,56,48,55]
def N0:B8:=[48,49,50,51,52,53,54,55,56,57,97,98,99,100,101,102,65,66,67,68,69,70]
theorem CE (s:B8) (st:St) (K:Bool->St->Prop) (h:BId ((2000:Int)<(s.length:Int)) (CallT PR Bh [] [.one .bool] st (fun (b1:Bool) k=>K b1 k)) (CallT PR Cj [.str s] [sV,.one (.int .i64)] st (fun (n1:Int) (b2 b3:Bool) (s1:B8) (n2 n3 n4 n5 n6:Int) (s2:B8) (v1 v2 v3:TV) (n7:Int) f=>need (List.all (cV n1 b2 b3 s1 n2 n3 n4 n5 n6 s2 v1 v2 v3) BR) (CallT PR By [.str s] [sV,.one (.int .i64)] f (fun (n8:Int) (b4 b5:Bool) (s3:B8) (n9 c e b d:Int) (s4:B8) (v4 v5 v6:TV) (i:Int) g=>need (List.all (cV n8 b4 b5 s3 n9 c e b d s4 v4 v5 v6) BR) (CallT PR AZ [(.agg (cV n1 b2 b3 s1 n2 n3 n4 n5 n6 s2 v1 v2 v3)),(.agg (cV n8 b4 b5 s3 n9 c e b d s4 v4 v5 v6))] [.one .bool] g (fun (b6:Bool) a=>BIf b6 (BId (n7=i) (CallT PR Bh [] [.one .bool] a (fun (b7:Bool) j=>K b7 j)) (K false a)) (K false a)))))))):CallT PR fn_datakitlaw24_TablelexScalars [.str s] [.one .bool] st K:=
 Ad (cfg:=⟨[3,5],[],[]⟩) (h:= .none) mixed (fun _ _=>Tryz.call6 _ _) Tryz.func6 (by kernel_rfl) (by kernel_rfl) h
theorem Fk (a_0:Int) (a_1:Bool) (a_2:Bool) (a_3:B8) (a_4:Int) (a_5:Int) (a_6:Int) (a_7:Int) (a_8:Int) (a_9:B8) (a_10:TV) (a_11:TV) (a_12:TV) (b_0:Int) (b_1:Bool) (b_2:Bool) (b_3:B8) (b_4:Int) (b_5:Int) (b_6:Int) (b_7:Int) (b_8:Int) (b_9:B8) (b_10:TV) (b_11:TV) (b_12:TV) (st:St) (K:Bool->St->Prop) (h:BId (a_0≠b_0) (K false st) (BIf (!(a_1==b_1)) (K false st) (BIf (!((a_2==b_2)&&(decide (a_3=b_3)&&(decide (a_4=b_4)&&true)))) (K false st) (BIf (!(decide (a_5=b_5)&&(decide (a_6=b_6)&&(decide (a_7=b_7)&&(decide (a_8=b_8)&&true))))) (K false st) (BId (a_9≠b_9) (K false st) (At ((toBytes st a_10).map TV.str) (fun (x1:TV)=>Au .str x1 (fun (s1:B8)=>At ((toBytes st b_10).map TV.str) (fun (x2:TV)=>Au .str x2 (fun (s2:B8)=>BId (s1≠s2) (K false st) (need (isSl a_11) (need (isSl b_11) (BId ((lenS a_11:Int)≠(lenS b_11:Int)) (K false st) (need (isSl a_12) (need (isSl b_12) (BId ((lenS a_12:Int)≠(lenS b_12:Int)) (K false st) (∃(I1:Int->V13 (V13 (St->Prop))) (M1:Int->V13 (V13 (St->Nat))),(I1 0 a_0 a_1 a_2 a_3 a_4 a_5 a_6 a_7 a_8 a_9 a_10 a_11 a_12 b_0 b_1 b_2 b_3 b_4 b_5 b_6 b_7 b_8 b_9 b_10 b_11 b_12 st)/\∀d n1 b1 b2 s3 n2 n3 n4 n5 n6 s4 v1 v2 v3 n7 b3 b4 s5 n8 n9 i k g s6 v4 v5 v6 f,I1 d n1 b1 b2 s3 n2 n3 n4 n5 n6 s4 v1 v2 v3 n7 b3 b4 s5 n8 n9 i k g s6 v4 v5 v6 f->(need (isSl v2) (BId (d<(lenS v2:Int)) (((0<=d/\d<(lenZ 13 v2:Int))/\At ((Aq f [] (.t (ixT 13 v2 d.toNat)) 0 13).map TV.agg) (fun (x3:TV)=>Mi [.int .i64,.bool,.bool,.str,.int .i64,.int .i64,.int .i64,.int .i64,.int .i64,.str,.tv,.tv,.tv] x3 (fun (e2:Int) (b5 b6:Bool) (s7:B8) (e4 e7 c6 c4 c9:Int) (s8:B8) (v7 v8 v9:TV)=>((0<=d/\d<(lenZ 13 v5:Int))/\At ((Aq f [] (.t (ixT 13 v5 d.toNat)) 0 13).map TV.agg) (fun (x4:TV)=>Mi [.int .i64,.bool,.bool,.str,.int .i64,.int .i64,.int .i64,.int .i64,.int .i64,.str,.tv,.tv,.tv] x4 (fun (d5:Int) (b7 b8:Bool) (s9:B8) (d8 d9 f0 f3 c5:Int) (e8:B8) (e3 f5 d1:TV)=>CallT PR AZ [(.agg (cV e2 b5 b6 s7 e4 e7 c6 c4 c9 s8 v7 v8 v9)),(.agg (cV d5 b7 b8 s9 d8 d9 f0 f3 c5 e8 e3 f5 d1))] [.one .bool] f (fun (b9:Bool) c1=>BIf (!b9) (K false c1) ((I1 ((i64.wrap (d+(1:Int)))) n1 b1 b2 s3 n2 n3 n4 n5 n6 s4 v1 v2 v3 n7 b3 b4 s5 n8 n9 i k g s6 v4 v5 v6 c1/\M1 ((i64.wrap (d+(1:Int)))) n1 b1 b2 s3 n2 n3 n4 n5 n6 s4 v1 v2 v3 n7 b3 b4 s5 n8 n9 i k g s6 v4 v5 v6 c1<M1 d n1 b1 b2 s3 n2 n3 n4 n5 n6 s4 v1 v2 v3 n7 b3 b4 s5 n8 n9 i k g s6 v4 v5 v6 f)))))))))) (∃(I2:Int->V13 (V13 (St->Prop))) (M2:Int->V13 (V13 (St->Nat))),(I2 0 n1 b1 b2 s3 n2 n3 n4 n5 n6 s4 v1 v2 v3 n7 b3 b4 s5 n8 n9 i k g s6 v4 v5 v6 f)/\∀a z s l x a9 a2 u n o q a7 a0 b a5 y a3 r p m a4 w a8 a1 v a6 c e,I2 a z s l x a9 a2 u n o q a7 a0 b a5 y a3 r p m a4 w a8 a1 v a6 c e->(need (isSl b) (BId (a<(lenS b:Int)) (((0<=a/\a<(lenZ 14 b:Int))/\need (isPtr (ixT 14 b a.toNat)) (At (Ag e [] (.t (Bo (ixT 14 b a.toNat) 0)) 0) (fun (x5:TV)=>Au .str x5 (fun (c0:B8)=>((0<=a/\a<(lenZ 14 c:Int))/\need (isPtr (ixT 14 c a.toNat)) (At (Ag e [] (.t (Bo (ixT 14 c a.toNat) 0)) 0) (fun (x6:TV)=>Au .str x6 (fun (b0:B8)=>BId (c0≠b0) ((Ag e [] (.t (Bo (ixT 14 c a.toNat) 0)) 0=some (.str b0)/\(Ag e [] (.t (Bo (ixT 14 b a.toNat) 0)) 0=some (.str c0)/\K false e))) (((0<=a/\a<(lenZ 14 b:Int))/\need (isPtr (ixT 14 b a.toNat)) (At ((Aq e [] (.t (Bo (ixT 14 b a.toNat) 1)) 0 13).map TV.agg) (fun (x7:TV)=>Mi [.int .i64,.bool,.bool,.str,.int .i64,.int .i64,.int .i64,.int .i64,.int .i64,.str,.tv,.tv,.tv] x7 (fun (f6:Int) (d2 f7:Bool) (d4:B8) (c8 g3 d7 d0 g2:Int) (c2:B8) (e6 c7 f8:TV)=>((0<=a/\a<(lenZ 14 c:Int))/\need (isPtr (ixT 14 c a.toNat)) (At ((Aq e [] (.t (Bo (ixT 14 c a.toNat) 1)) 0 13).map TV.agg) (fun (x8:TV)=>Mi [.int .i64,.bool,.bool,.str,.int .i64,.int .i64,.int .i64,.int .i64,.int .i64,.str,.tv,.tv,.tv] x8 (fun (f2:Int) (d6 e9:Bool) (f1:B8) (g1 g0 d3 c3 e0:Int) (f4:B8) (e1 g4 f9:TV)=>CallT PR AZ [(.agg (cV f6 d2 f7 d4 c8 g3 d7 d0 g2 c2 e6 c7 f8)),(.agg (cV f2 d6 e9 f1 g1 g0 d3 c3 e0 f4 e1 g4 f9))] [.one .bool] e (fun (e5:Bool) j=>(Ag j [] (.t (Bo (ixT 14 c a.toNat) 0)) 0=some (.str b0)/\(Ag j [] (.t (Bo (ixT 14 b a.toNat) 0)) 0=some (.str c0)/\BIf (!e5) (K false j) ((I2 ((i64.wrap (a+(1:Int)))) z s l x a9 a2 u n o q a7 a0 b a5 y a3 r p m a4 w a8 a1 v a6 c j/\M2 ((i64.wrap (a+(1:Int)))) z s l x a9 a2 u n o q a7 a0 b a5 y a3 r p m a4 w a8 a1 v a6 c j<M2 a z s l x a9 a2 u n o q a7 a0 b a5 y a3 r p m a4 w a8 a1 v a6 c e))))))))))))))))))))))) (K true e))))))))))))))))))))))):CallT PR AZ [(.agg (cV a_0 a_1 a_2 a_3 a_4 a_5 a_6 a_7 a_8 a_9 a_10 a_11 a_12)),(.agg (cV b_0 b_1 b_2 b_3 b_4 b_5 b_6 b_7 b_8 b_9 b_10 b_11 b_12))] [.one .bool] st K:=
 Ad (cfg:=⟨[2,3],[],[78,83,98,104,112,118]⟩) (h:=(.seq .none (.seq .none (.seq (.seq .none (.block (.loop ⟨[(5,.int .i64)],[(2,0,0),(3,1,0)],[(0,13),(1,13)],[(0,0,.int .i64),(0,1,.bool),(0,2,.bool),(0,3,.str),(0,4,.int .i64),(0,5,.int .i64),(0,6,.int .i64),(0,7,.int .i64),(0,8,.int .i64),(0,9,.str),(0,10,.tv),(0,11,.tv),(0,12,.tv),(1,0,.int .i64),(1,1,.bool),(1,2,.bool),(1,3,.str),(1,4,.int .i64),(1,5,.int .i64),(1,6,.int .i64),(1,7,.int .i64),(1,8,.int .i64),(1,9,.str),(1,10,.tv),(1,11,.tv),(1,12,.tv)]⟩ .none))) (.seq (.seq .none (.block (.loop ⟨[(6,.int .i64)],[(2,0,0),(3,1,0)],[(0,13),(1,13)],[(0,0,.int .i64),(0,1,.bool),(0,2,.bool),(0,3,.str),(0,4,.int .i64),(0,5,.int .i64),(0,6,.int .i64),(0,7,.int .i64),(0,8,.int .i64),(0,9,.str),(0,10,.tv),(0,11,.tv),(0,12,.tv),(1,0,.int .i64),(1,1,.bool),(1,2,.bool),(1,3,.str),(1,4,.int .i64),(1,5,.int .i64),(1,6,.int .i64),(1,7,.int .i64),(1,8,.int .i64),(1,9,.str),(1,10,.tv),(1,11,.tv),(1,12,.tv)]⟩ .none))) .none))))) mixed (fun _ _=>Tryz.call18 _ _) Tryz.func18 (by kernel_rfl) (by kernel_rfl) h
theorem Fc (st:St) (K:Bool->St->Prop) (h:CallT PR B4 [.str N5,.int .i64 0] [.agg [.int .i64,.str,.int .i64],.one (.int .i64)] st (fun (n1:Int) (s1:B8) (n2 n3:Int) d=>CallT PR B4 [.str str1,.int .i64 0] [.agg [.int .i64,.str,.int .i64],.one (.int .i64)] d (fun (n4:Int) (s2:B8) (n5 n6:Int) b=>CallT PR A5 [.str str2] [.one .str,.one (.int .i64)] b (fun (s3:B8) (n7:Int) a=>BIf (decide (n1=(6:Int))&&(decide (s1=str3)&&(decide (n2=(0:Int))&&true))) (BId (n3=0) (BId (s2=str4) (BId (n6=0) (BId (s3=str5) (BId (n7=0) (CallT PR CN [.str str6] [.one .bool] a (fun (b1:Bool) c=>K b1 c)) (K false a)) (K false a)) (K false a)) (K false a)) (K false a)) (K false a))))):CallT PR Bh [] [.one .bool] st K:=
 Ad (cfg:=⟨[1,3],[],[]⟩) (h:= .none) mixed (fun _ _=>Tryz.call27 _ _) Tryz.func27 (by kernel_rfl) (by kernel_rfl) h
theorem Gq (s:B8) (st:St) (K:V13 (Int->St->Prop)) (h:BId (s≠([]:B8)) (((0<=(0:Int)/\(0:Int)<(s.length:Int))/\BId (((List.getD s (Int.toNat (0:Int)) 0).toNat:Int)=(34:Int)) (CallT PR A5 [.str s] [.one .str,.one (.int .i64)] st (fun (s1:B8) (n1:Int) b=>BId (n1=0) (BId ((65536:Int)<(s1.length:Int)) (BId ((10:Int)≠(0:Int)) (K 0 false false [] 0 0 0 0 0 [] .nilSlice .nilSlice .nilSlice 10 b) (K 4 false false [] 0 0 0 0 0 s1 .nilSlice .nilSlice .nilSlice 0 b)) (BId (n1≠0) (K 0 false false [] 0 0 0 0 0 [] .nilSlice .nilSlice .nilSlice n1 b) (K 4 false false [] 0 0 0 0 0 s1 .nilSlice .nilSlice .nilSlice 0 b))) (BId (n1≠0) (K 0 false false [] 0 0 0 0 0 [] .nilSlice .nilSlice .nilSlice n1 b) (K 4 false false [] 0 0 0 0 0 s1 .nilSlice .nilSlice .nilSlice 0 b)))) (((0<=(0:Int)/\(0:Int)<(s.length:Int))/\BId (((List.getD s (Int.toNat (0:Int)) 0).toNat:Int)=(39:Int)) (CallT PR A5 [.str s] [.one .str,.one (.int .i64)] st (fun (s2:B8) (n2:Int) a=>BId (n2=0) (BId ((65536:Int)<(s2.length:Int)) (BId ((10:Int)≠(0:Int)) (K 0 false false [] 0 0 0 0 0 [] .nilSlice .nilSlice .nilSlice 10 a) (K 4 false false [] 0 0 0 0 0 s2 .nilSlice .nilSlice .nilSlice 0 a)) (BId (n2≠0) (K 0 false false [] 0 0 0 0 0 [] .nilSlice .nilSlice .nilSlice n2 a) (K 4 false false [] 0 0 0 0 0 s2 .nilSlice .nilSlice .nilSlice 0 a))) (BId (n2≠0) (K 0 false false [] 0 0 0 0 0 [] .nilSlice .nilSlice .nilSlice n2 a) (K 4 false false [] 0 0 0 0 0 s2 .nilSlice .nilSlice .nilSlice 0 a)))) (BId (s=Hn) (K 1 ((decide (s=Hn))) false [] 0 0 0 0 0 [] .nilSlice .nilSlice .nilSlice 0 st) (BId (s=NZ) (K 1 ((decide (s=Hn))) false [] 0 0 0 0 0 [] .nilSlice .nilSlice .nilSlice 0 st) (CallT PR B5 [.str s] [.agg [.bool,.str,.int .i64],.one (.int .i64)] st (fun (b1:Bool) (s3:B8) (n3 n4:Int) c=>BId (n4=0) (K 2 false b1 s3 n3 0 0 0 0 [] .nilSlice .nilSlice .nilSlice 0 c) (BId (n4≠3) (K 0 false false [] 0 0 0 0 0 [] .nilSlice .nilSlice .nilSlice n4 c) (CallT PR Ch [.str s] [.agg [.int .i64,.int .i64,.int .i64,.int .i64],.one (.int .i64)] c (fun (n5 n6 n7 n8 n9:Int) g=>BId (n9≠0) (K 0 false false [] 0 0 0 0 0 [] .nilSlice .nilSlice .nilSlice n9 g) (K 3 false false [] 0 n5 n6 n7 n8 [] .nilSlice .nilSlice .nilSlice 0 g)))))))))))) (BId (s=Hn) (K 1 ((decide (s=Hn))) false [] 0 0 0 0 0 [] .nilSlice .nilSlice .nilSlice 0 st) (BId (s=NZ) (K 1 ((decide (s=Hn))) false [] 0 0 0 0 0 [] .nilSlice .nilSlice .nilSlice 0 st) (CallT PR B5 [.str s] [.agg [.bool,.str,.int .i64],.one (.int .i64)] st (fun (b2:Bool) (s4:B8) (l e:Int) d=>BId (e=0) (K 2 false b2 s4 l 0 0 0 0 [] .nilSlice .nilSlice .nilSlice 0 d) (BId (e≠3) (K 0 false false [] 0 0 0 0 0 [] .nilSlice .nilSlice .nilSlice e d) (CallT PR Ch [.str s] [.agg [.int .i64,.int .i64,.int .i64,.int .i64],.one (.int .i64)] d (fun (k n j m i:Int) f=>BId (i≠0) (K 0 false false [] 0 0 0 0 0 [] .nilSlice .nilSlice .nilSlice i f) (K 3 false false [] 0 k n j m [] .nilSlice .nilSlice .nilSlice 0 f))))))))):CallT PR Cj [.str s] [sV,.one (.int .i64)] st K:=
 Ad (cfg:=⟨[2,6,8],[],[]⟩) (h:= .none) mixed (fun _ _=>Tryz.call28 _ _) Tryz.func28 (by kernel_rfl) (by kernel_rfl) h
theorem Eq (s:B8) (st:St) (K:V13 (Int->St->Prop)) (h:BId (s≠([]:B8)) (((0<=(0:Int)/\(0:Int)<(s.length:Int))/\BId (((List.getD s (Int.toNat (0:Int)) 0).toNat:Int)=(34:Int)) (CallT PR A1 [.str s] [.one .str,.one (.int .i64)] st (fun (s1:B8) (n1:Int) b=>BId (n1=0) (BId ((65536:Int)<(s1.length:Int)) (BId ((10:Int)≠(0:Int)) (K 0 false false [] 0 0 0 0 0 [] .nilSlice .nilSlice .nilSlice 10 b) (K 4 false false [] 0 0 0 0 0 s1 .nilSlice .nilSlice .nilSlice 0 b)) (BId (n1≠0) (K 0 false false [] 0 0 0 0 0 [] .nilSlice .nilSlice .nilSlice n1 b) (K 4 false false [] 0 0 0 0 0 s1 .nilSlice .nilSlice .nilSlice 0 b))) (BId (n1≠0) (K 0 false false [] 0 0 0 0 0 [] .nilSlice .nilSlice .nilSlice n1 b) (K 4 false false [] 0 0 0 0 0 s1 .nilSlice .nilSlice .nilSlice 0 b)))) (((0<=(0:Int)/\(0:Int)<(s.length:Int))/\BId (((List.getD s (Int.toNat (0:Int)) 0).toNat:Int)=(39:Int)) (CallT PR A1 [.str s] [.one .str,.one (.int .i64)] st (fun (s2:B8) (n2:Int) a=>BId (n2=0) (BId ((65536:Int)<(s2.length:Int)) (BId ((10:Int)≠(0:Int)) (K 0 false false [] 0 0 0 0 0 [] .nilSlice .nilSlice .nilSlice 10 a) (K 4 false false [] 0 0 0 0 0 s2 .nilSlice .nilSlice .nilSlice 0 a)) (BId (n2≠0) (K 0 false false [] 0 0 0 0 0 [] .nilSlice .nilSlice .nilSlice n2 a) (K 4 false false [] 0 0 0 0 0 s2 .nilSlice .nilSlice .nilSlice 0 a))) (BId (n2≠0) (K 0 false false [] 0 0 0 0 0 [] .nilSlice .nilSlice .nilSlice n2 a) (K 4 false false [] 0 0 0 0 0 s2 .nilSlice .nilSlice .nilSlice 0 a)))) (BId (s=Hn) (K 1 ((decide (s=Hn))) false [] 0 0 0 0 0 [] .nilSlice .nilSlice .nilSlice 0 st) (BId (s=NZ) (K 1 ((decide (s=Hn))) false [] 0 0 0 0 0 [] .nilSlice .nilSlice .nilSlice 0 st) (CallT PR AW [.str s] [.one .bool,.one .bool] st (fun (b1 b2:Bool) d=>BIf b1 (CallT PR Bf [.str s] [.agg [.bool,.str,.int .i64],.one (.int .i64)] d (fun (b3:Bool) (s3:B8) (n3 n4:Int) i=>BId (n4≠0) (K 0 false false [] 0 0 0 0 0 [] .nilSlice .nilSlice .nilSlice 2 i) (K 2 false b3 s3 n3 0 0 0 0 [] .nilSlice .nilSlice .nilSlice 0 i))) (CallT PR Be [.str s] [.agg [.int .i64,.int .i64,.int .i64,.int .i64],.one (.int .i64)] d (fun (n5 n6 n7 n8 n9:Int) f=>BId (n9≠0) (K 0 false false [] 0 0 0 0 0 [] .nilSlice .nilSlice .nilSlice n9 f) (K 3 false false [] 0 n5 n6 n7 n8 [] .nilSlice .nilSlice .nilSlice 0 f))))))))))) (BId (s=Hn) (K 1 ((decide (s=Hn))) false [] 0 0 0 0 0 [] .nilSlice .nilSlice .nilSlice 0 st) (BId (s=NZ) (K 1 ((decide (s=Hn))) false [] 0 0 0 0 0 [] .nilSlice .nilSlice .nilSlice 0 st) (CallT PR AW [.str s] [.one .bool,.one .bool] st (fun (b4 b5:Bool) g=>BIf b4 (CallT PR Bf [.str s] [.agg [.bool,.str,.int .i64],.one (.int .i64)] g (fun (b6:Bool) (s4:B8) (m p:Int) e=>BId (p≠0) (K 0 false false [] 0 0 0 0 0 [] .nilSlice .nilSlice .nilSlice 2 e) (K 2 false b6 s4 m 0 0 0 0 [] .nilSlice .nilSlice .nilSlice 0 e))) (CallT PR Be [.str s] [.agg [.int .i64,.int .i64,.int .i64,.int .i64],.one (.int .i64)] g (fun (l o k n j:Int) c=>BId (j≠0) (K 0 false false [] 0 0 0 0 0 [] .nilSlice .nilSlice .nilSlice j c) (K 3 false false [] 0 l o k n [] .nilSlice .nilSlice .nilSlice 0 c)))))))):CallT PR By [.str s] [sV,.one (.int .i64)] st K:=
 Ad (cfg:=⟨[2,8,10],[],[]⟩) (h:= .none) mixed (fun _ _=>Tryz.call29 _ _) Tryz.func29 (by kernel_rfl) (by kernel_rfl) h
theorem Hg (s:B8) (st:St) (K:Bool->St->Prop) (h:CallT PR A4 [] [.one .tv,.one .tv] st (fun (v1 v2:TV) a=>BId (s≠([]:B8)) (CallT PR A2 [.str s,.int .i64 0,v1] [.one (.int .i64)] a (fun (n1:Int) b=>K ((decide (n1=(s.length:Int)))) b)) (K false a))):CallT PR CN [.str s] [.one .bool] st K:=
 Ad (cfg:=⟨[],[],[]⟩) (h:= .none) mixed (fun _ _=>Tryz.call43 _ _) Tryz.func43 (by kernel_rfl) (by kernel_rfl) h
theorem Hf (src:B8) (atx:Int) (st:St) (K:Int->B8->Int->Int->St->Prop) (h:BId (atx<0) (K 0 [] 0 1 st) (BId ((src.length:Int)<atx) (K 0 [] 0 1 st) (BId (atx=(src.length:Int)) (K 0 [] 0 7 st) (CallT PR CZ [.str src,.int .i64 atx] [.one (.int .i64),.one (.int .i64),.one (.int .i64)] st (fun (n1 n2 n3:Int) a=>BId (n3≠0) (K 0 [] 0 n3 a) (((0<=atx/\atx<=n2/\n2<=(src.length:Int))/\K n1 ((List.drop atx.toNat (List.take n2.toNat src))) atx 0 a))))))):CallT PR B4 [.str src,.int .i64 atx] [.agg [.int .i64,.str,.int .i64],.one (.int .i64)] st K:=
 Ad (cfg:=⟨[4],[],[]⟩) (h:= .none) mixed (fun _ _=>Tryz.call63 _ _) Tryz.func63 (by kernel_rfl) (by kernel_rfl) h
theorem FW (s:B8) (st:St) (K:B8->Int->St->Prop) (h:BId (s=([]:B8)) (K [] 4 st) (((0<=(0:Int)/\(0:Int)<(s.length:Int))/\BId (((List.getD s (Int.toNat (0:Int)) 0).toNat:Int)≠(34:Int)) (((0<=(0:Int)/\(0:Int)<(s.length:Int))/\BId (((List.getD s (Int.toNat (0:Int)) 0).toNat:Int)≠(39:Int)) (K [] 3 st) (CallT PR AU [.str s,.int .i64 0] [.one .str,.one (.int .i64),.one (.int .i64)] st (fun (s1:B8) (n1 n2:Int) b=>BId (n2≠0) (K [] n2 b) (BId (n1≠(s.length:Int)) (K [] 3 b) (K s1 0 b)))))) (CallT PR AU [.str s,.int .i64 0] [.one .str,.one (.int .i64),.one (.int .i64)] st (fun (s2:B8) (n3 n4:Int) a=>BId (n4≠0) (K [] n4 a) (BId (n3≠(s.length:Int)) (K [] 3 a) (K s2 0 a))))))):CallT PR A5 [.str s] [.one .str,.one (.int .i64)] st K:=
 Ad (cfg:=⟨[],[],[]⟩) (h:= .none) mixed (fun _ _=>Tryz.call64 _ _) Tryz.func64 (by kernel_rfl) (by kernel_rfl) h
theorem Hi (s:B8) (st:St) (K:Bool->B8->Int->Int->St->Prop) (h:CallT PR AF [.str s,.str str9] [.one .bool] st (fun (b1:Bool) a3=>∃(C1:B8->Bool->Bool->B8->Int->St->Prop),(BIf b1 (((0<=(1:Int)/\(1:Int)<=(s.length:Int))/\C1 ((List.drop (Int.toNat (1:Int)) s)) b1 false [] 0 a3)) (C1 s b1 false [] 0 a3))/\∀l n b2 s1 n1 z,C1 l n b2 s1 n1 z->(CallT PR BV [.str l] [.one (.int .i64)] z (fun (n2:Int) t=>∃(C2:B8->Bool->Int->Bool->B8->Int->St->Prop),(BId (n2=0) (K false [] 0 3 t) (BId ((1:Int)<n2) (((0<=(0:Int)/\(0:Int)<(l.length:Int))/\BId (((List.getD l (Int.toNat (0:Int)) 0).toNat:Int)=(48:Int)) (K false [] 0 3 t) (C2 l n n2 b2 s1 n1 t))) (C2 l n n2 b2 s1 n1 t)))/\∀b m a b3 s2 n3 a1,C2 b m a b3 s2 n3 a1->(((0<=a/\a<=(b.length:Int))/\((0<=a/\a<=(b.length:Int))/\∃(C3:B8->B8->Int->Bool->Bool->B8->Int->St->Prop),(CallT PR AF [(.str (List.drop a.toNat b)),.str str10] [.one .bool] a1 (fun (b4:Bool) a0=>BIf b4 (((0<=(1:Int)/\(1:Int)<=(((List.drop a.toNat b)).length:Int))/\CallT PR BV [(.str (List.drop (Int.toNat (1:Int)) (List.drop a.toNat b)))] [.one (.int .i64)] a0 (fun (n4:Int) a4=>BId (n4=0) (K false [] 0 3 a4) (((0<=(1:Int)/\(1:Int)<=(i64.wrap (n4+(1:Int)))/\(i64.wrap (n4+(1:Int)))<=(((List.drop a.toNat b)).length:Int))/\(((List.take a.toNat b)).length+((List.drop (Int.toNat (1:Int)) (List.take (Int.toNat (i64.wrap (n4+(1:Int)))) (List.drop a.toNat b)))).length<=9223372036854775807/\((0<=(i64.wrap (n4+(1:Int)))/\(i64.wrap (n4+(1:Int)))<=(((List.drop a.toNat b)).length:Int))/\C3 ((List.drop (Int.toNat (i64.wrap (n4+(1:Int)))) (List.drop a.toNat b))) (((List.take a.toNat b)++(List.drop (Int.toNat (1:Int)) (List.take (Int.toNat (i64.wrap (n4+(1:Int)))) (List.drop a.toNat b))))) ((i64.wrap (0-n4))) m b3 s2 n3 a4))))))) (C3 ((List.drop a.toNat b)) ((List.take a.toNat b)) 0 m b3 s2 n3 a0)))/\∀d i g k b5 s3 n5 q,C3 d i g k b5 s3 n5 q->(BId (d≠([]:B8)) (∃(C4:B8->Bool->B8->Int->Bool->B8->Int->St->Prop),(((0<=(0:Int)/\(0:Int)<(d.length:Int))/\BId (((List.getD d (Int.toNat (0:Int)) 0).toNat:Int)≠(101:Int)) (((0<=(0:Int)/\(0:Int)<(d.length:Int))/\BId (((List.getD d (Int.toNat (0:Int)) 0).toNat:Int)≠(69:Int)) (K false [] 0 3 q) (C4 d k i g b5 s3 n5 q))) (C4 d k i g b5 s3 n5 q)))/\∀c f j e b6 s4 n6 a5,C4 c f j e b6 s4 n6 a5->(((0<=(1:Int)/\(1:Int)<=(c.length:Int))/\CallT PR AF [(.str (List.drop (Int.toNat (1:Int)) c)),.str str9] [.one .bool] a5 (fun (b7:Bool) a2=>∃(C5:B8->Bool->B8->Int->Bool->Bool->B8->Int->St->Prop),(BIf b7 (((0<=(1:Int)/\(1:Int)<=(((List.drop (Int.toNat (1:Int)) c)).length:Int))/\C5 ((List.drop (Int.toNat (1:Int)) (List.drop (Int.toNat (1:Int)) c))) f j e b7 b6 s4 n6 a2)) (CallT PR AF [(.str (List.drop (Int.toNat (1:Int)) c)),.str str11] [.one .bool] a2 (fun (b8:Bool) x=>BIf b8 (((0<=(1:Int)/\(1:Int)<=(((List.drop (Int.toNat (1:Int)) c)).length:Int))/\C5 ((List.drop (Int.toNat (1:Int)) (List.drop (Int.toNat (1:Int)) c))) f j e b7 b6 s4 n6 x)) (C5 ((List.drop (Int.toNat (1:Int)) c)) f j e b7 b6 s4 n6 x))))/\∀o w v u p b9 s5 n7 r,C5 o w v u p b9 s5 n7 r->(BId (o=([]:B8)) (K false [] 0 3 r) (CallT PR BV [.str o] [.one (.int .i64)] r (fun (n8:Int) y=>BId (n8≠(o.length:Int)) (K false [] 0 3 y) (CallT PR B9 [.str o,.str N4] [.one .str] y (fun (s6:B8) a7=>CallT PR CO [.int .i64 u,.bool p,.str s6] [.one (.int .i64)] a7 (fun (n9:Int) a8=>CallT PR BG [.bool w,.str v,.int .i64 n9] [.agg [.bool,.str,.int .i64],.one (.int .i64)] a8 (fun (b0:Bool) (s7:B8) (c4 c2:Int) a9=>K b0 s7 c4 c2 a9))))))))))) (CallT PR BG [.bool k,.str i,.int .i64 g] [.agg [.bool,.str,.int .i64],.one (.int .i64)] q (fun (c1:Bool) (s8:B8) (c3 c0:Int) a6=>K c1 s8 c3 c0 a6)))))))))):CallT PR B5 [.str s] [.agg [.bool,.str,.int .i64],.one (.int .i64)] st K:=
 Ad (cfg:=⟨[2],[],[]⟩) (h:=(.seq .none (.seq .none (.cut ⟨[(0,.str),(4,.bool)],[(2,0,0)],[(0,3)],[(0,0,.bool),(0,1,.str),(0,2,.int .i64)]⟩ .none (.seq .none (.cut ⟨[(0,.str),(4,.bool),(5,.int .i64)],[(2,0,0)],[(0,3)],[(0,0,.bool),(0,1,.str),(0,2,.int .i64)]⟩ .none (.seq .none (.seq .none (.seq .none (.cut ⟨[(0,.str),(6,.str),(7,.int .i64),(4,.bool)],[(2,0,0)],[(0,3)],[(0,0,.bool),(0,1,.str),(0,2,.int .i64)]⟩ .none (.seq (.seq .none (.cond (.cut ⟨[(0,.str),(4,.bool),(6,.str),(7,.int .i64)],[(2,0,0)],[(0,3)],[(0,0,.bool),(0,1,.str),(0,2,.int .i64)]⟩ .none (.seq .none (.seq .none (.cut ⟨[(0,.str),(4,.bool),(6,.str),(7,.int .i64),(8,.bool)],[(2,0,0)],[(0,3)],[(0,0,.bool),(0,1,.str),(0,2,.int .i64)]⟩ .none .none)))) .none)) .none))))))))))) mixed (fun _ _=>Tryz.call65 _ _) Tryz.func65 (by kernel_rfl) (by kernel_rfl) h
theorem H3 (s:B8) (st:St) (K:Int->Int->Int->Int->Int->St->Prop) (h:CallT PR BJ [(.box st.nb 0),(.box (st.push (.cells [.str s,.bool false]) (some 170)).nb 0)] [.one (.int .i64)] ((st.push (.cells [.str s,.bool false]) (some 170)).push (.cells [.int .i64 0,.int .i64 0,.int .i64 0,.int .i64 0,.int .i64 0,.int .i64 0,.int .i64 0,.int .u8 0,.int .i64 0,.int .i64 0]) (some 172)) (fun (n1:Int) a=>At (Ag a [] (.t (.box st.nb 1)) 0) (fun (x1:TV)=>Au .bool x1 (fun (b1:Bool)=>BIf b1 (K 0 0 0 0 3 a) (At (Ag a [] (.t (.box st.nb 0)) 0) (fun (x2:TV)=>Au .str x2 (fun (s1:B8)=>BId (s1≠([]:B8)) (K 0 0 0 0 3 a) (BId (n1≠2) (At (Ag a [] (.t (.box (st.push (.cells [.str s,.bool false]) (some 170)).nb 0)) 0) (fun (x3:TV)=>Au (.int .i64) x3 (fun (n2:Int)=>At (Ag a [] (.t (.box (st.push (.cells [.str s,.bool false]) (some 170)).nb 1)) 0) (fun (x4:TV)=>Au (.int .i64) x4 (fun (n3:Int)=>At (Ag a [] (.t (.box (st.push (.cells [.str s,.bool false]) (some 170)).nb 2)) 0) (fun (x5:TV)=>Au (.int .i64) x5 (fun (n4:Int)=>CallT PR Db [.int .i64 n2,.int .i64 n3,.int .i64 n4] [.one (.int .i64),.one (.int .i64)] a (fun (n5 n6:Int) b=>BId (n6≠0) (K 0 0 0 0 2 b) (At (Ag b [] (.t (.box (st.push (.cells [.str s,.bool false]) (some 170)).nb 3)) 0) (fun (x6:TV)=>Au (.int .i64) x6 (fun (n7:Int)=>BId ((23:Int)<n7) (K 0 0 0 0 2 b) (At (Ag b [] (.t (.box (st.push (.cells [.str s,.bool false]) (some 170)).nb 4)) 0) (fun (x7:TV)=>Au (.int .i64) x7 (fun (n8:Int)=>BId ((59:Int)<n8) (K 0 0 0 0 2 b) (At (Ag b [] (.t (.box (st.push (.cells [.str s,.bool false]) (some 170)).nb 5)) 0) (fun (x8:TV)=>Au (.int .i64) x8 (fun (n9:Int)=>BId ((59:Int)<n9) (K 0 0 0 0 2 b) (At (Ag b [] (.t (.box (st.push (.cells [.str s,.bool false]) (some 170)).nb 8)) 0) (fun (x9:TV)=>Au (.int .i64) x9 (fun (a5:Int)=>BId ((23:Int)<a5) (K 0 0 0 0 2 b) (At (Ag b [] (.t (.box (st.push (.cells [.str s,.bool false]) (some 170)).nb 9)) 0) (fun (z:TV)=>Au (.int .i64) z (fun (w:Int)=>BId ((59:Int)<w) (K 0 0 0 0 2 b) (At (Ag b [] (.t (.box (st.push (.cells [.str s,.bool false]) (some 170)).nb 3)) 0) (fun (a7:TV)=>Au (.int .i64) a7 (fun (g:Int)=>At (Ag b [] (.t (.box (st.push (.cells [.str s,.bool false]) (some 170)).nb 4)) 0) (fun (b2:TV)=>Au (.int .i64) b2 (fun (d:Int)=>At (Ag b [] (.t (.box (st.push (.cells [.str s,.bool false]) (some 170)).nb 5)) 0) (fun (y:TV)=>Au (.int .i64) y (fun (f:Int)=>At (Ag b [] (.t (.box (st.push (.cells [.str s,.bool false]) (some 170)).nb 6)) 0) (fun (x:TV)=>Au (.int .i64) x (fun (j:Int)=>At (Ag b [] (.t (.box (st.push (.cells [.str s,.bool false]) (some 170)).nb 8)) 0) (fun (c0:TV)=>Au (.int .i64) c0 (fun (k:Int)=>At (Ag b [] (.t (.box (st.push (.cells [.str s,.bool false]) (some 170)).nb 9)) 0) (fun (p:TV)=>Au (.int .i64) p (fun (e:Int)=>At (Ag b [] (.t (.box (st.push (.cells [.str s,.bool false]) (some 170)).nb 7)) 0) (fun (b0:TV)=>Au (.int .u8) b0 (fun (b3:Int)=>BId (b3=45) (K n1 n5 ((i64.wrap ((i64.wrap ((i64.wrap ((i64.wrap ((i64.wrap ((i64.wrap (g*(60:Int)))+d))*(60:Int)))+f))*(1000000000:Int)))+j))) ((i64.wrap (0-(i64.wrap ((i64.wrap (k*(60:Int)))+e))))) 0 b) (K n1 n5 ((i64.wrap ((i64.wrap ((i64.wrap ((i64.wrap ((i64.wrap ((i64.wrap (g*(60:Int)))+d))*(60:Int)))+f))*(1000000000:Int)))+j))) ((i64.wrap ((i64.wrap (k*(60:Int)))+e))) 0 b))))))))))))))))))))))))))))))))))))))) (At (Ag a [] (.t (.box (st.push (.cells [.str s,.bool false]) (some 170)).nb 3)) 0) (fun (r:TV)=>Au (.int .i64) r (fun (a4:Int)=>BId ((23:Int)<a4) (K 0 0 0 0 2 a) (At (Ag a [] (.t (.box (st.push (.cells [.str s,.bool false]) (some 170)).nb 4)) 0) (fun (a1:TV)=>Au (.int .i64) a1 (fun (b6:Int)=>BId ((59:Int)<b6) (K 0 0 0 0 2 a) (At (Ag a [] (.t (.box (st.push (.cells [.str s,.bool false]) (some 170)).nb 5)) 0) (fun (b4:TV)=>Au (.int .i64) b4 (fun (b9:Int)=>BId ((59:Int)<b9) (K 0 0 0 0 2 a) (At (Ag a [] (.t (.box (st.push (.cells [.str s,.bool false]) (some 170)).nb 8)) 0) (fun (a6:TV)=>Au (.int .i64) a6 (fun (a9:Int)=>BId ((23:Int)<a9) (K 0 0 0 0 2 a) (At (Ag a [] (.t (.box (st.push (.cells [.str s,.bool false]) (some 170)).nb 9)) 0) (fun (b8:TV)=>Au (.int .i64) b8 (fun (b7:Int)=>BId ((59:Int)<b7) (K 0 0 0 0 2 a) (At (Ag a [] (.t (.box (st.push (.cells [.str s,.bool false]) (some 170)).nb 3)) 0) (fun (b5:TV)=>Au (.int .i64) b5 (fun (l:Int)=>At (Ag a [] (.t (.box (st.push (.cells [.str s,.bool false]) (some 170)).nb 4)) 0) (fun (a8:TV)=>Au (.int .i64) a8 (fun (n:Int)=>At (Ag a [] (.t (.box (st.push (.cells [.str s,.bool false]) (some 170)).nb 5)) 0) (fun (a3:TV)=>Au (.int .i64) a3 (fun (o:Int)=>At (Ag a [] (.t (.box (st.push (.cells [.str s,.bool false]) (some 170)).nb 6)) 0) (fun (q:TV)=>Au (.int .i64) q (fun (m:Int)=>At (Ag a [] (.t (.box (st.push (.cells [.str s,.bool false]) (some 170)).nb 8)) 0) (fun (a0:TV)=>Au (.int .i64) a0 (fun (c:Int)=>At (Ag a [] (.t (.box (st.push (.cells [.str s,.bool false]) (some 170)).nb 9)) 0) (fun (u:TV)=>Au (.int .i64) u (fun (i:Int)=>At (Ag a [] (.t (.box (st.push (.cells [.str s,.bool false]) (some 170)).nb 7)) 0) (fun (v:TV)=>Au (.int .u8) v (fun (a2:Int)=>BId (a2=45) (K n1 0 ((i64.wrap ((i64.wrap ((i64.wrap ((i64.wrap ((i64.wrap ((i64.wrap (l*(60:Int)))+n))*(60:Int)))+o))*(1000000000:Int)))+m))) ((i64.wrap (0-(i64.wrap ((i64.wrap (c*(60:Int)))+i))))) 0 a) (K n1 0 ((i64.wrap ((i64.wrap ((i64.wrap ((i64.wrap ((i64.wrap ((i64.wrap (l*(60:Int)))+n))*(60:Int)))+o))*(1000000000:Int)))+m))) ((i64.wrap ((i64.wrap (c*(60:Int)))+i))) 0 a))))))))))))))))))))))))))))))))))))))):CallT PR Ch [.str s] [.agg [.int .i64,.int .i64,.int .i64,.int .i64],.one (.int .i64)] st K:=
 Ad (cfg:=⟨[2,7],[],[]⟩) (h:= .none) mixed (fun _ _=>Tryz.call66 _ _) Tryz.func66 (by kernel_rfl) (by kernel_rfl) h
theorem Eb (s:B8) (st:St) (K:B8->Int->St->Prop) (h:BId (s=([]:B8)) (K [] 4 st) (((0<=(0:Int)/\(0:Int)<(s.length:Int))/\BId (((List.getD s (Int.toNat (0:Int)) 0).toNat:Int)≠(39:Int)) (CallT PR Cu [.str s] [.one .str,.one (.int .i64)] st (fun (s1:B8) (n1:Int) b=>K s1 n1 b)) (CallT PR Bx [.str s,.int .i64 0] [.one (.int .i64),.one (.int .i64)] st (fun (n2 n3:Int) a=>BId (n3≠0) (K [] n3 a) (BId (n2≠(s.length:Int)) (K [] 3 a) (((0<=(1:Int)/\(1:Int)<=(i64.wrap (n2-(1:Int)))/\(i64.wrap (n2-(1:Int)))<=(s.length:Int))/\K ((List.drop (Int.toNat (1:Int)) (List.take (Int.toNat (i64.wrap (n2-(1:Int)))) s))) 0 a)))))))):CallT PR A1 [.str s] [.one .str,.one (.int .i64)] st K:=
 Ad (cfg:=⟨[],[],[]⟩) (h:= .none) mixed (fun _ _=>Tryz.call67 _ _) Tryz.func67 (by kernel_rfl) (by kernel_rfl) h
theorem DW (s:B8) (st:St) (K:Bool->Bool->St->Prop) (h:∃(C1:Int->B8->St->Prop),(BId ((0:Int)<(s.length:Int)) (((0<=(0:Int)/\(0:Int)<(s.length:Int))/\BId (((List.getD s (Int.toNat (0:Int)) 0).toNat:Int)=(45:Int)) (C1 ((i64.wrap ((0:Int)+(1:Int)))) s st) (C1 0 s st))) (C1 0 s st))/\∀f g l,C1 f g l->(BId (f=(g.length:Int)) (K false true l) (CallT PR Ao [.str g,.int .i64 f] [.one (.int .i64)] l (fun (n1:Int) i=>∃(C2:B8->Int->St->Prop),(BId (n1=f) (K false false i) (((0<=f/\f<(g.length:Int))/\BId (((List.getD g f.toNat 0).toNat:Int)=(48:Int)) (BId ((i64.wrap (f+(1:Int)))<n1) (K false false i) (C2 g n1 i)) (C2 g n1 i))))/\∀e d j,C2 e d j->(∃(C3:Int->B8->St->Prop),(BId (d<(e.length:Int)) (((0<=d/\d<(e.length:Int))/\BId (((List.getD e d.toNat 0).toNat:Int)=(46:Int)) (CallT PR Ao [.str e,(.int .i64 (i64.wrap (d+(1:Int))))] [.one (.int .i64)] j (fun (n2:Int) q=>BId (n2=(i64.wrap (d+(1:Int)))) (K false ((decide (n2=(e.length:Int)))) q) (C3 n2 e q))) (C3 d e j))) (C3 d e j))/\∀b a c,C3 b a c->(BId (b<(a.length:Int)) (((0<=b/\b<(a.length:Int))/\BId (((List.getD a b.toNat 0).toNat:Int)=(101:Int)) (BId ((i64.wrap (b+(1:Int)))<(a.length:Int)) (((0<=(i64.wrap (b+(1:Int)))/\(i64.wrap (b+(1:Int)))<(a.length:Int))/\BId (((List.getD a (Int.toNat (i64.wrap (b+(1:Int)))) 0).toNat:Int)=(43:Int)) (CallT PR Ao [.str a,(.int .i64 (i64.wrap ((i64.wrap (b+(1:Int)))+(1:Int))))] [.one (.int .i64)] c (fun (n3:Int) t=>BId (n3=(i64.wrap ((i64.wrap (b+(1:Int)))+(1:Int)))) (K false ((decide (n3=(a.length:Int)))) t) (K ((decide (n3=(a.length:Int)))) ((decide (n3=(a.length:Int)))) t))) (((0<=(i64.wrap (b+(1:Int)))/\(i64.wrap (b+(1:Int)))<(a.length:Int))/\BId (((List.getD a (Int.toNat (i64.wrap (b+(1:Int)))) 0).toNat:Int)=(45:Int)) (CallT PR Ao [.str a,(.int .i64 (i64.wrap ((i64.wrap (b+(1:Int)))+(1:Int))))] [.one (.int .i64)] c (fun (n4:Int) v=>BId (n4=(i64.wrap ((i64.wrap (b+(1:Int)))+(1:Int)))) (K false ((decide (n4=(a.length:Int)))) v) (K ((decide (n4=(a.length:Int)))) ((decide (n4=(a.length:Int)))) v))) (CallT PR Ao [.str a,(.int .i64 (i64.wrap (b+(1:Int))))] [.one (.int .i64)] c (fun (n5:Int) u=>BId (n5=(i64.wrap (b+(1:Int)))) (K false ((decide (n5=(a.length:Int)))) u) (K ((decide (n5=(a.length:Int)))) ((decide (n5=(a.length:Int)))) u))))))) (CallT PR Ao [.str a,(.int .i64 (i64.wrap (b+(1:Int))))] [.one (.int .i64)] c (fun (n6:Int) r=>BId (n6=(i64.wrap (b+(1:Int)))) (K false ((decide (n6=(a.length:Int)))) r) (K ((decide (n6=(a.length:Int)))) ((decide (n6=(a.length:Int)))) r)))) (((0<=b/\b<(a.length:Int))/\BId (((List.getD a b.toNat 0).toNat:Int)=(69:Int)) (BId ((i64.wrap (b+(1:Int)))<(a.length:Int)) (((0<=(i64.wrap (b+(1:Int)))/\(i64.wrap (b+(1:Int)))<(a.length:Int))/\BId (((List.getD a (Int.toNat (i64.wrap (b+(1:Int)))) 0).toNat:Int)=(43:Int)) (CallT PR Ao [.str a,(.int .i64 (i64.wrap ((i64.wrap (b+(1:Int)))+(1:Int))))] [.one (.int .i64)] c (fun (n7:Int) o=>BId (n7=(i64.wrap ((i64.wrap (b+(1:Int)))+(1:Int)))) (K false ((decide (n7=(a.length:Int)))) o) (K ((decide (n7=(a.length:Int)))) ((decide (n7=(a.length:Int)))) o))) (((0<=(i64.wrap (b+(1:Int)))/\(i64.wrap (b+(1:Int)))<(a.length:Int))/\BId (((List.getD a (Int.toNat (i64.wrap (b+(1:Int)))) 0).toNat:Int)=(45:Int)) (CallT PR Ao [.str a,(.int .i64 (i64.wrap ((i64.wrap (b+(1:Int)))+(1:Int))))] [.one (.int .i64)] c (fun (n8:Int) m=>BId (n8=(i64.wrap ((i64.wrap (b+(1:Int)))+(1:Int)))) (K false ((decide (n8=(a.length:Int)))) m) (K ((decide (n8=(a.length:Int)))) ((decide (n8=(a.length:Int)))) m))) (CallT PR Ao [.str a,(.int .i64 (i64.wrap (b+(1:Int))))] [.one (.int .i64)] c (fun (n9:Int) p=>BId (n9=(i64.wrap (b+(1:Int)))) (K false ((decide (n9=(a.length:Int)))) p) (K ((decide (n9=(a.length:Int)))) ((decide (n9=(a.length:Int)))) p))))))) (CallT PR Ao [.str a,(.int .i64 (i64.wrap (b+(1:Int))))] [.one (.int .i64)] c (fun (k:Int) n=>BId (k=(i64.wrap (b+(1:Int)))) (K false ((decide (k=(a.length:Int)))) n) (K ((decide (k=(a.length:Int)))) ((decide (k=(a.length:Int)))) n)))) (K ((decide (b=(a.length:Int)))) ((decide (b=(a.length:Int)))) c))))) (K ((decide (b=(a.length:Int)))) ((decide (b=(a.length:Int)))) c))))))):CallT PR AW [.str s] [.one .bool,.one .bool] st K:=
 Ad (cfg:=⟨[],[],[]⟩) (h:=(.seq .none (.seq .none (.cut ⟨[(4,.int .i64),(0,.str)],[],[],[]⟩ .none (.seq .none (.seq .none (.cut ⟨[(0,.str),(5,.int .i64)],[],[],[]⟩ .none (.seq .none (.cut ⟨[(4,.int .i64),(0,.str)],[],[],[]⟩ .none .none))))))))) mixed (fun _ _=>Tryz.call68 _ _) Tryz.func68 (by kernel_rfl) (by kernel_rfl) h
theorem E7 (s:B8) (st:St) (K:Bool->B8->Int->Int->St->Prop) (h:∃(C1:Int->B8->Bool->B8->Int->St->Prop),(BId ((0:Int)<(s.length:Int)) (((0<=(0:Int)/\(0:Int)<(s.length:Int))/\BId (((List.getD s (Int.toNat (0:Int)) 0).toNat:Int)=(45:Int)) (C1 1 s false [] 0 st) (C1 0 s false [] 0 st))) (C1 0 s false [] 0 st))/\∀f a1 b1 s1 n1 d7,C1 f a1 b1 s1 n1 d7->(CallT PR A6 [.str a1,.int .i64 f] [.one (.int .i64)] d7 (fun (n2:Int) c1=>∃(C2:B8->Int->Bool->Int->Bool->B8->Int->St->Prop),(BId (n2=f) (K false [] 0 3 c1) (((0<=f/\f<(a1.length:Int))/\BId (((List.getD a1 f.toNat 0).toNat:Int)=(48:Int)) (BId ((i64.wrap (f+(1:Int)))<n2) (K false [] 0 3 c1) (C2 a1 f ((decide (f=1))) n2 b1 s1 n1 c1)) (C2 a1 f ((decide (f=1))) n2 b1 s1 n1 c1))))/\∀n a8 a7 g b2 s2 n3 c7,C2 n a8 a7 g b2 s2 n3 c7->(((0<=a8/\a8<=g/\g<=(n.length:Int))/\∃(C3:Int->B8->Int->B8->Bool->Bool->B8->Int->St->Prop),(∃(C4:Bool->B8->Bool->Int->B8->Int->Bool->B8->Int->St->Prop),(BId (g<(n.length:Int)) (((0<=g/\g<(n.length:Int))/\C4 ((decide (((List.getD n g.toNat 0).toNat:Int)=(46:Int)))) n a7 g ((List.drop a8.toNat (List.take g.toNat n))) 0 b2 s2 n3 c7)) (C4 false n a7 g ((List.drop a8.toNat (List.take g.toNat n))) 0 b2 s2 n3 c7))/\∀d3 x a6 o d c4 b3 s3 n4 c8,C4 d3 x a6 o d c4 b3 s3 n4 c8->(BIf d3 (CallT PR A6 [.str x,(.int .i64 (i64.wrap (o+(1:Int))))] [.one (.int .i64)] c8 (fun (n5:Int) d1=>BId (n5=(i64.wrap (o+(1:Int)))) (K false [] 0 3 d1) (((0<=(i64.wrap (o+(1:Int)))/\(i64.wrap (o+(1:Int)))<=n5/\n5<=(x.length:Int))/\(d.length+((List.drop (Int.toNat (i64.wrap (o+(1:Int)))) (List.take n5.toNat x))).length<=9223372036854775807/\C3 n5 ((d++(List.drop (Int.toNat (i64.wrap (o+(1:Int)))) (List.take n5.toNat x)))) ((i64.wrap ((i64.wrap (o+(1:Int)))-n5))) x a6 b3 s3 n4 d1))))) (C3 o d c4 x a6 b3 s3 n4 c8)))/\∀j b t p w b4 s4 n6 c2,C3 j b t p w b4 s4 n6 c2->(∃(C5:Int->Int->B8->Bool->B8->Bool->B8->Int->St->Prop),(∃(C6:Bool->B8->Bool->Int->B8->Int->Bool->B8->Int->St->Prop),(BId (j<(p.length:Int)) (((0<=j/\j<(p.length:Int))/\BId (((List.getD p j.toNat 0).toNat:Int)=(101:Int)) (C6 true p w j b t b4 s4 n6 c2) (((0<=j/\j<(p.length:Int))/\C6 ((decide (((List.getD p j.toNat 0).toNat:Int)=(69:Int)))) p w j b t b4 s4 n6 c2)))) (C6 false p w j b t b4 s4 n6 c2))/\∀d2 z v r c u b5 s5 n7 c3,C6 d2 z v r c u b5 s5 n7 c3->(BIf d2 (∃(C7:Bool->B8->Bool->Int->B8->Int->Bool->B8->Int->St->Prop),(BId ((i64.wrap (r+(1:Int)))<(z.length:Int)) (((0<=(i64.wrap (r+(1:Int)))/\(i64.wrap (r+(1:Int)))<(z.length:Int))/\C7 ((decide (((List.getD z (Int.toNat (i64.wrap (r+(1:Int)))) 0).toNat:Int)=(45:Int)))) z v ((i64.wrap (r+(1:Int)))) c u b5 s5 n7 c3)) (C7 false z v ((i64.wrap (r+(1:Int)))) c u b5 s5 n7 c3))/\∀i k q e a m b6 s6 n8 b0,C7 i k q e a m b6 s6 n8 b0->(∃(C8:Int->B8->Bool->B8->Int->Bool->Bool->B8->Int->St->Prop),(BId (e<(k.length:Int)) (((0<=e/\e<(k.length:Int))/\BId (((List.getD k e.toNat 0).toNat:Int)=(45:Int)) (C8 ((i64.wrap (e+(1:Int)))) k q a m i b6 s6 n8 b0) (((0<=e/\e<(k.length:Int))/\BId (((List.getD k e.toNat 0).toNat:Int)=(43:Int)) (C8 ((i64.wrap (e+(1:Int)))) k q a m i b6 s6 n8 b0) (C8 e k q a m i b6 s6 n8 b0))))) (C8 e k q a m i b6 s6 n8 b0))/\∀a3 a0 a4 l a5 a9 b7 s7 n9 d6,C8 a3 a0 a4 l a5 a9 b7 s7 n9 d6->(CallT PR A6 [.str a0,.int .i64 a3] [.one (.int .i64)] d6 (fun (a2:Int) d0=>BId (a2=a3) (K false [] 0 3 d0) (((0<=a3/\a3<=a2/\a2<=(a0.length:Int))/\CallT PR BK [(.str (List.drop a3.toNat (List.take a2.toNat a0)))] [.one (.int .i64)] d0 (fun (d5:Int) c9=>BIf a9 (C5 a2 ((i64.wrap (a5+(i64.wrap (0-d5))))) a0 a4 l b7 s7 n9 c9) (C5 a2 ((i64.wrap (a5+d5))) a0 a4 l b7 s7 n9 c9)))))))) (C5 r u z v c b5 s5 n7 c3)))/\∀d8 c6 d4 c5 y b8 s8 e2 c0,C5 d8 c6 d4 c5 y b8 s8 e2 c0->(BId (d8<(d4.length:Int)) (K false [] 0 3 c0) (CallT PR BD [.bool c5,.str y,.int .i64 c6] [.agg [.bool,.str,.int .i64],.one (.int .i64)] c0 (fun (b9:Bool) (s9:B8) (e0 e1:Int) d9=>K b9 s9 e0 e1 d9))))))))):CallT PR Bf [.str s] [.agg [.bool,.str,.int .i64],.one (.int .i64)] st K:=
 Ad (cfg:=⟨[2],[],[]⟩) (h:=(.seq .none (.seq .none (.cut ⟨[(4,.int .i64),(0,.str)],[(2,0,0)],[(0,3)],[(0,0,.bool),(0,1,.str),(0,2,.int .i64)]⟩ .none (.seq .none (.seq .none (.cut ⟨[(0,.str),(4,.int .i64),(5,.bool),(6,.int .i64)],[(2,0,0)],[(0,3)],[(0,0,.bool),(0,1,.str),(0,2,.int .i64)]⟩ .none (.seq .none (.seq .none (.cut ⟨[(6,.int .i64),(7,.str),(8,.int .i64),(0,.str),(5,.bool)],[(2,0,0)],[(0,3)],[(0,0,.bool),(0,1,.str),(0,2,.int .i64)]⟩ (.cut ⟨[(55,.bool),(0,.str),(5,.bool),(6,.int .i64),(7,.str),(8,.int .i64)],[(2,0,0)],[(0,3)],[(0,0,.bool),(0,1,.str),(0,2,.int .i64)]⟩ .none .none) (.cut ⟨[(6,.int .i64),(8,.int .i64),(0,.str),(5,.bool),(7,.str)],[(2,0,0)],[(0,3)],[(0,0,.bool),(0,1,.str),(0,2,.int .i64)]⟩ (.cut ⟨[(92,.bool),(0,.str),(5,.bool),(6,.int .i64),(7,.str),(8,.int .i64)],[(2,0,0)],[(0,3)],[(0,0,.bool),(0,1,.str),(0,2,.int .i64)]⟩ .none (.cond (.seq .none (.cut ⟨[(10,.bool),(0,.str),(5,.bool),(6,.int .i64),(7,.str),(8,.int .i64)],[(2,0,0)],[(0,3)],[(0,0,.bool),(0,1,.str),(0,2,.int .i64)]⟩ .none (.cut ⟨[(6,.int .i64),(0,.str),(5,.bool),(7,.str),(8,.int .i64),(10,.bool)],[(2,0,0)],[(0,3)],[(0,0,.bool),(0,1,.str),(0,2,.int .i64)]⟩ .none .none))) .none)) .none))))))))))) mixed (fun _ _=>Tryz.call69 _ _) Tryz.func69 (by kernel_rfl) (by kernel_rfl) h
theorem E3 (s:B8) (st:St) (K:Int->Int->Int->Int->Int->St->Prop) (h:CallT PR AM [.str s,.str str13] [.one .bool] st (fun (b1:Bool) k=>BIf (!b1) (CallT PR Aw [.str s] [.one (.int .i64),.one .str,.one .bool,.one .bool] k (fun (n1:Int) (s1:B8) (b2 b3:Bool) i=>BIf (!b2) (K 0 0 0 0 3 i) (BId (s1≠([]:B8)) (K 0 0 0 0 3 i) (BIf (!b3) (K 0 0 0 0 2 i) (K 2 0 n1 0 0 i))))) (((0<=(4:Int)/\(4:Int)<=(s.length:Int))/\((0<=(5:Int)/\(5:Int)<=(7:Int)/\(7:Int)<=(s.length:Int))/\((0<=(8:Int)/\(8:Int)<=(10:Int)/\(10:Int)<=(s.length:Int))/\CallT PR Ai [(.str (List.take (Int.toNat (4:Int)) s))] [.one (.int .i64)] k (fun (n2:Int) n=>CallT PR Ai [(.str (List.drop (Int.toNat (5:Int)) (List.take (Int.toNat (7:Int)) s)))] [.one (.int .i64)] n (fun (n3:Int) r=>CallT PR Ai [(.str (List.drop (Int.toNat (8:Int)) (List.take (Int.toNat (10:Int)) s)))] [.one (.int .i64)] r (fun (n4:Int) o=>CallT PR Ca [.int .i64 n2,.int .i64 n3,.int .i64 n4] [.one (.int .i64),.one (.int .i64)] o (fun (n5 n6:Int) d=>((0<=(10:Int)/\(10:Int)<=(s.length:Int))/\BId ((List.drop (Int.toNat (10:Int)) s)=([]:B8)) (BId (n6≠0) (K 0 0 0 0 n6 d) (K 1 n5 0 0 0 d)) (((0<=(0:Int)/\(0:Int)<(((List.drop (Int.toNat (10:Int)) s)).length:Int))/\BId (((List.getD (List.drop (Int.toNat (10:Int)) s) (Int.toNat (0:Int)) 0).toNat:Int)≠(84:Int)) (((0<=(0:Int)/\(0:Int)<(((List.drop (Int.toNat (10:Int)) s)).length:Int))/\BId (((List.getD (List.drop (Int.toNat (10:Int)) s) (Int.toNat (0:Int)) 0).toNat:Int)≠(116:Int)) (((0<=(0:Int)/\(0:Int)<(((List.drop (Int.toNat (10:Int)) s)).length:Int))/\BId (((List.getD (List.drop (Int.toNat (10:Int)) s) (Int.toNat (0:Int)) 0).toNat:Int)≠(32:Int)) (K 0 0 0 0 3 d) (((0<=(1:Int)/\(1:Int)<=(((List.drop (Int.toNat (10:Int)) s)).length:Int))/\CallT PR Aw [(.str (List.drop (Int.toNat (1:Int)) (List.drop (Int.toNat (10:Int)) s)))] [.one (.int .i64),.one .str,.one .bool,.one .bool] d (fun (n7:Int) (s2:B8) (b4 b5:Bool) g=>BIf (!b4) (K 0 0 0 0 3 g) (BId (s2≠([]:B8)) (CallT PR AC [.str s2] [.one (.int .i64),.one .bool,.one .bool] g (fun (n8:Int) (b6 b7:Bool) e=>BIf (!b6) (K 0 0 0 0 3 e) (BIf b5 (BId (n6≠0) (K 0 0 0 0 2 e) (BIf (!b7) (K 0 0 0 0 2 e) (K 4 n5 n7 n8 0 e))) (BId (n6≠0) (K 0 0 0 0 2 e) (K 0 0 0 0 2 e))))) (BId (n6≠0) (K 0 0 0 0 2 g) (BIf (!b5) (K 0 0 0 0 2 g) (K 3 n5 n7 0 0 g))))))))) (((0<=(1:Int)/\(1:Int)<=(((List.drop (Int.toNat (10:Int)) s)).length:Int))/\CallT PR Aw [(.str (List.drop (Int.toNat (1:Int)) (List.drop (Int.toNat (10:Int)) s)))] [.one (.int .i64),.one .str,.one .bool,.one .bool] d (fun (n9:Int) (s3:B8) (b8 b9:Bool) f=>BIf (!b8) (K 0 0 0 0 3 f) (BId (s3≠([]:B8)) (CallT PR AC [.str s3] [.one (.int .i64),.one .bool,.one .bool] f (fun (v:Int) (q t:Bool) a=>BIf (!q) (K 0 0 0 0 3 a) (BIf b9 (BId (n6≠0) (K 0 0 0 0 2 a) (BIf (!t) (K 0 0 0 0 2 a) (K 4 n5 n9 v 0 a))) (BId (n6≠0) (K 0 0 0 0 2 a) (K 0 0 0 0 2 a))))) (BId (n6≠0) (K 0 0 0 0 2 f) (BIf (!b9) (K 0 0 0 0 2 f) (K 3 n5 n9 0 0 f))))))))) (((0<=(1:Int)/\(1:Int)<=(((List.drop (Int.toNat (10:Int)) s)).length:Int))/\CallT PR Aw [(.str (List.drop (Int.toNat (1:Int)) (List.drop (Int.toNat (10:Int)) s)))] [.one (.int .i64),.one .str,.one .bool,.one .bool] d (fun (j:Int) (s4:B8) (w l:Bool) c=>BIf (!w) (K 0 0 0 0 3 c) (BId (s4≠([]:B8)) (CallT PR AC [.str s4] [.one (.int .i64),.one .bool,.one .bool] c (fun (u:Int) (p m:Bool) b=>BIf (!p) (K 0 0 0 0 3 b) (BIf l (BId (n6≠0) (K 0 0 0 0 2 b) (BIf (!m) (K 0 0 0 0 2 b) (K 4 n5 j u 0 b))) (BId (n6≠0) (K 0 0 0 0 2 b) (K 0 0 0 0 2 b))))) (BId (n6≠0) (K 0 0 0 0 2 c) (BIf (!l) (K 0 0 0 0 2 c) (K 3 n5 j 0 0 c)))))))))))))))))))):CallT PR Be [.str s] [.agg [.int .i64,.int .i64,.int .i64,.int .i64],.one (.int .i64)] st K:=
 Ad (cfg:=⟨[2,14],[],[]⟩) (h:= .none) mixed (fun _ _=>Tryz.call70 _ _) Tryz.func70 (by kernel_rfl) (by kernel_rfl) h
theorem FV (st:St) (K:TV->TV->St->Prop) (h:stB (st.push (.cells [.nilFunc]) (some 138)) (.box st.nb 0) [(.func AB [])] (fun b=>At (Ag b [] (.t (.box st.nb 0)) 0) (fun (v1:TV)=>need (List.all [v1] BR) (stB b (.box st.nb 0) [v1] (fun a=>At (Ag a [] (.t (.box st.nb 0)) 0) (fun (x2:TV)=>K x2 ((.func BI [(.box st.nb 0)])) a)))))):CallT PR A4 [] [.one .tv,.one .tv] st K:=
 Ad (cfg:=⟨[],[],[]⟩) (h:= .none) mixed (fun _ _=>Tryz.call88 _ _) Tryz.func88 (by kernel_rfl) (by kernel_rfl) h
theorem HZ (s:B8) (i:Int) (classx:TV) (st:St) (K:Int->St->Prop) (h:∃(I1:Int->B8->TV->St->Prop) (M1:Int->B8->TV->St->Nat),(I1 i s classx st)/\∀b c a d,I1 b c a d->(BId (b<(c.length:Int)) (((0<=b/\b<(c.length:Int))/\Ja PR a [(.int .u8 ((List.getD c b.toNat 0).toNat:Int))] [.one .bool] d (fun (b1:Bool) e=>BIf b1 ((I1 ((i64.wrap (b+(1:Int)))) c a e/\M1 ((i64.wrap (b+(1:Int)))) c a e<M1 b c a d)) (K b e)))) (K b d))):CallT PR A2 [.str s,.int .i64 i,classx] [.one (.int .i64)] st K:=
 Ad (cfg:=⟨[],[],[]⟩) (h:=(.seq .none (.seq (.block (.loop ⟨[(1,.int .i64),(0,.str),(2,.tv)],[],[],[]⟩ .none)) .none))) mixed (fun _ _=>Tryz.call89 _ _) Tryz.func89 (by kernel_rfl) (by kernel_rfl) h
theorem H2 (s:B8) (atx:Int) (st:St) (K:Int->Int->Int->St->Prop) (h:CallT PR A4 [] [.one .tv,.one .tv] st (fun (v1 v2:TV) a=>((0<=atx/\atx<(s.length:Int))/\BId (((List.getD s atx.toNat 0).toNat:Int)=(32:Int)) (CallT PR A2 [.str s,.int .i64 atx,(.func BO [])] [.one (.int .i64)] a (fun (n1:Int) f=>K 1 n1 0 f)) (BId (((List.getD s atx.toNat 0).toNat:Int)=(9:Int)) (CallT PR A2 [.str s,.int .i64 atx,(.func BO [])] [.one (.int .i64)] a (fun (n2:Int) g=>K 1 n2 0 g)) (BId (((List.getD s atx.toNat 0).toNat:Int)=(10:Int)) (CallT PR B3 [.str s,.int .i64 atx] [.one (.int .i64),.one (.int .i64)] a (fun (n3 n4:Int) o=>K 2 n3 n4 o)) (BId (((List.getD s atx.toNat 0).toNat:Int)=(13:Int)) (CallT PR B3 [.str s,.int .i64 atx] [.one (.int .i64),.one (.int .i64)] a (fun (n5 n6:Int) l=>K 2 n5 n6 l)) (BId (((List.getD s atx.toNat 0).toNat:Int)=(35:Int)) (CallT PR B7 [.str s,.int .i64 atx] [.one (.int .i64),.one (.int .i64)] a (fun (n7 n8:Int) n=>K 3 n7 n8 n)) (CallT PR AL [.str N3,(.int .u8 ((List.getD s atx.toNat 0).toNat:Int))] [.one (.int .i64)] a (fun (n9:Int) b=>BId ((0:Int)<=n9) (K 4 ((i64.wrap (atx+(1:Int)))) 0 b) (BId (((List.getD s atx.toNat 0).toNat:Int)=(34:Int)) (CallT PR AU [.str s,.int .i64 atx] [.one .str,.one (.int .i64),.one (.int .i64)] b (fun (s1:B8) (k q:Int) e=>K 5 k q e)) (BId (((List.getD s atx.toNat 0).toNat:Int)=(39:Int)) (CallT PR AU [.str s,.int .i64 atx] [.one .str,.one (.int .i64),.one (.int .i64)] b (fun (s2:B8) (j p:Int) m=>K 5 j p m)) (Ja PR v2 [(.int .u8 ((List.getD s atx.toNat 0).toNat:Int))] [.one .bool] b (fun (b1:Bool) c=>BIf b1 (CallT PR Cy [.str s,.int .i64 atx] [.one (.int .i64)] c (fun (i:Int) d=>K 6 i 0 d)) (K 0 0 3 c)))))))))))))):CallT PR CZ [.str s,.int .i64 atx] [.one (.int .i64),.one (.int .i64),.one (.int .i64)] st K:=
 Ad (cfg:=⟨[],[],[]⟩) (h:= .none) mixed (fun _ _=>Tryz.call111 _ _) Tryz.func111 (by kernel_rfl) (by kernel_rfl) h
theorem Gn (s:B8) (i:Int) (st:St) (K:B8->Int->Int->St->Prop) (h:((0<=i/\i<(s.length:Int))/\∃(I1:Int->TV->B8->Int->St->Prop) (M1:Int->TV->B8->Int->St->Nat),(I1 ((i64.wrap (i+(1:Int)))) .nilSlice s (((List.getD s i.toNat 0).toNat:Int)) st)/\∀a d c b f,I1 a d c b f->(BId (a<(c.length:Int)) (((0<=a/\a<=(c.length:Int))/\CallT PR AP [(.str (List.drop a.toNat c))] [.one (.int .i32),.one (.int .i64)] f (fun (n1 n2:Int) e=>((0<=a/\a<(c.length:Int))/\BId (((List.getD c a.toNat 0).toNat:Int)=b) (At ((toBytes e d).map TV.str) (fun (x1:TV)=>Au .str x1 (fun (s1:B8)=>K s1 ((i64.wrap (a+(1:Int)))) 0 e))) (((0<=a/\a<(c.length:Int))/\BId (((List.getD c a.toNat 0).toNat:Int)<(32:Int)) (K [] 0 5 e) (BId (n1=65533) (BId (n2=1) (K [] 0 5 e) (((0<=a/\a<(c.length:Int))/\BId (((List.getD c a.toNat 0).toNat:Int)≠(92:Int)) (((0<=a/\a<=(i64.wrap (a+n2))/\(i64.wrap (a+n2))<=(c.length:Int))/\At (D5 e 1 (.str (List.drop a.toNat (List.take (Int.toNat (i64.wrap (a+n2))) c)))) (fun (q1:Nat×List TV)=>need (List.all q1.2 BR) (B0 5 1 1 d q1.1 q1.2 e (fun (v1:TV) o=>(I1 ((i64.wrap (a+n2))) v1 c b o/\M1 ((i64.wrap (a+n2))) v1 c b o<M1 a d c b f)))))) (BId (b=39) (((0<=a/\a<=(i64.wrap (a+n2))/\(i64.wrap (a+n2))<=(c.length:Int))/\At (D5 e 1 (.str (List.drop a.toNat (List.take (Int.toNat (i64.wrap (a+n2))) c)))) (fun (q2:Nat×List TV)=>need (List.all q2.2 BR) (B0 5 1 1 d q2.1 q2.2 e (fun (v2:TV) q=>(I1 ((i64.wrap (a+n2))) v2 c b q/\M1 ((i64.wrap (a+n2))) v2 c b q<M1 a d c b f)))))) (BId ((c.length:Int)<=(i64.wrap (a+(1:Int)))) (K [] 0 4 e) (((0<=(i64.wrap (a+(1:Int)))/\(i64.wrap (a+(1:Int)))<(c.length:Int))/\BId (((List.getD c (Int.toNat (i64.wrap (a+(1:Int)))) 0).toNat:Int)=(117:Int)) (CallT PR Bw [.str c,(.int .i64 (i64.wrap (a+(2:Int))))] [.one (.int .i32),.one (.int .i64),.one (.int .i64)] e (fun (n3 n4 n5:Int) p=>BId (n5≠0) (K [] 0 n5 p) (CallT PR Bv [d,.int .i32 n3] [.one .tv] p (fun (v3:TV) t=>(I1 n4 v3 c b t/\M1 n4 v3 c b t<M1 a d c b f))))) (((0<=(i64.wrap (a+(1:Int)))/\(i64.wrap (a+(1:Int)))<(c.length:Int))/\CallT PR AL [.str Fp,(.int .u8 ((List.getD c (Int.toNat (i64.wrap (a+(1:Int)))) 0).toNat:Int))] [.one (.int .i64)] e (fun (n6:Int) v=>BId (n6<0) (K [] 0 3 v) (((0<=n6/\n6<(Jw.length:Int))/\B0 5 1 1 d 1 [(.int .u8 ((List.getD Jw n6.toNat 0).toNat:Int))] v (fun (v4:TV) u=>(I1 ((i64.wrap (a+(2:Int)))) v4 c b u/\M1 ((i64.wrap (a+(2:Int)))) v4 c b u<M1 a d c b f)))))))))))))) (((0<=a/\a<(c.length:Int))/\BId (((List.getD c a.toNat 0).toNat:Int)≠(92:Int)) (((0<=a/\a<=(i64.wrap (a+n2))/\(i64.wrap (a+n2))<=(c.length:Int))/\At (D5 e 1 (.str (List.drop a.toNat (List.take (Int.toNat (i64.wrap (a+n2))) c)))) (fun (q3:Nat×List TV)=>need (List.all q3.2 BR) (B0 5 1 1 d q3.1 q3.2 e (fun (v5:TV) r=>(I1 ((i64.wrap (a+n2))) v5 c b r/\M1 ((i64.wrap (a+n2))) v5 c b r<M1 a d c b f)))))) (BId (b=39) (((0<=a/\a<=(i64.wrap (a+n2))/\(i64.wrap (a+n2))<=(c.length:Int))/\At (D5 e 1 (.str (List.drop a.toNat (List.take (Int.toNat (i64.wrap (a+n2))) c)))) (fun (q4:Nat×List TV)=>need (List.all q4.2 BR) (B0 5 1 1 d q4.1 q4.2 e (fun (v6:TV) m=>(I1 ((i64.wrap (a+n2))) v6 c b m/\M1 ((i64.wrap (a+n2))) v6 c b m<M1 a d c b f)))))) (BId ((c.length:Int)<=(i64.wrap (a+(1:Int)))) (K [] 0 4 e) (((0<=(i64.wrap (a+(1:Int)))/\(i64.wrap (a+(1:Int)))<(c.length:Int))/\BId (((List.getD c (Int.toNat (i64.wrap (a+(1:Int)))) 0).toNat:Int)=(117:Int)) (CallT PR Bw [.str c,(.int .i64 (i64.wrap (a+(2:Int))))] [.one (.int .i32),.one (.int .i64),.one (.int .i64)] e (fun (n7 n8 n9:Int) j=>BId (n9≠0) (K [] 0 n9 j) (CallT PR Bv [d,.int .i32 n7] [.one .tv] j (fun (v7:TV) n=>(I1 n8 v7 c b n/\M1 n8 v7 c b n<M1 a d c b f))))) (((0<=(i64.wrap (a+(1:Int)))/\(i64.wrap (a+(1:Int)))<(c.length:Int))/\CallT PR AL [.str Fp,(.int .u8 ((List.getD c (Int.toNat (i64.wrap (a+(1:Int)))) 0).toNat:Int))] [.one (.int .i64)] e (fun (g:Int) k=>BId (g<0) (K [] 0 3 k) (((0<=g/\g<(Jw.length:Int))/\B0 5 1 1 d 1 [(.int .u8 ((List.getD Jw g.toNat 0).toNat:Int))] k (fun (v8:TV) l=>(I1 ((i64.wrap (a+(2:Int)))) v8 c b l/\M1 ((i64.wrap (a+(2:Int)))) v8 c b l<M1 a d c b f)))))))))))))))))))) (K [] 0 4 f)))):CallT PR AU [.str s,.int .i64 i] [.one .str,.one (.int .i64),.one (.int .i64)] st K:=
 Ad (cfg:=⟨[],[],[]⟩) (h:=(.seq .none (.seq .none (.seq .none (.seq (.seq .none (.block (.loop ⟨[(1,.int .i64),(8,.tv),(0,.str),(7,.int .u8)],[],[],[]⟩ .none))) .none))))) mixed (fun _ _=>Tryz.call112 _ _) Tryz.func112 (by kernel_rfl) (by kernel_rfl) h
theorem Fg (s:B8) (prefixx:B8) (st:St) (K:Bool->St->Prop) (h:CallT PR Cg [.str s,.str prefixx] [.one .bool] st (fun (b1:Bool) a=>K b1 a)):CallT PR AF [.str s,.str prefixx] [.one .bool] st K:=
 Ad (cfg:=⟨[],[],[]⟩) (h:= .none) mixed (fun _ _=>Tryz.call113 _ _) Tryz.func113 (by kernel_rfl) (by kernel_rfl) h
theorem Il (s:B8) (st:St) (K:Int->St->Prop) (h:∃(I1:Int->B8->St->Prop) (M1:Int->B8->St->Nat),(I1 0 s st)/\∀a b c,I1 a b c->(BId (a<(b.length:Int)) (((0<=a/\a<(b.length:Int))/\BId ((48:Int)<=((List.getD b a.toNat 0).toNat:Int)) (((0<=a/\a<(b.length:Int))/\BId (((List.getD b a.toNat 0).toNat:Int)<=(57:Int)) ((I1 ((i64.wrap (a+(1:Int)))) b c/\M1 ((i64.wrap (a+(1:Int)))) b c<M1 a b c)) (K a c))) (K a c))) (K a c))):CallT PR BV [.str s] [.one (.int .i64)] st K:=
 Ad (cfg:=⟨[],[],[]⟩) (h:=(.seq .none (.seq .none (.seq (.block (.loop ⟨[(3,.int .i64),(0,.str)],[],[],[]⟩ .none)) .none)))) mixed (fun _ _=>Tryz.call114 _ _) Tryz.func114 (by kernel_rfl) (by kernel_rfl) h
theorem Hh (exp:Int) (less:Bool) (byx:B8) (st:St) (K:Int->St->Prop) (h:BId ((byx.length:Int)<=(12:Int)) (CallT PR C9 [.str byx] [.one (.int .i64),.one (.int .i64)] st (fun (n1 n2:Int) a=>BIf less (K ((i64.wrap (exp-n1))) a) (K ((i64.wrap (exp+n1))) a))) (BIf less (K ((i64.wrap (exp-(1099511627776:Int)))) st) (K ((i64.wrap (exp+(1099511627776:Int)))) st))):CallT PR CO [.int .i64 exp,.bool less,.str byx] [.one (.int .i64)] st K:=
 Ad (cfg:=⟨[],[],[]⟩) (h:= .none) mixed (fun _ _=>Tryz.call115 _ _) Tryz.func115 (by kernel_rfl) (by kernel_rfl) h
theorem H7 (neg:Bool) (s:B8) (exp:Int) (st:St) (K:Bool->B8->Int->Int->St->Prop) (h:∃(I1:Int->Bool->B8->Int->Int->Bool->B8->Int->St->Prop) (M1:Int->Bool->B8->Int->Int->Bool->B8->Int->St->Nat),(I1 0 neg s exp ((s.length:Int)) false [] 0 st)/\∀a b d c f b1 s1 n1 e,I1 a b d c f b1 s1 n1 e->(BId (a<f) (((0<=a/\a<(d.length:Int))/\BId (((List.getD d a.toNat 0).toNat:Int)<(48:Int)) (K false [] 0 3 e) (((0<=a/\a<(d.length:Int))/\BId ((57:Int)<((List.getD d a.toNat 0).toNat:Int)) (K false [] 0 3 e) ((I1 ((i64.wrap (a+(1:Int)))) b d c f b1 s1 n1 e/\M1 ((i64.wrap (a+(1:Int)))) b d c f b1 s1 n1 e<M1 a b d c f b1 s1 n1 e)))))) (CallT PR B9 [.str d,.str N4] [.one .str] e (fun (s2:B8) g=>CallT PR Da [.bool b,.str s2,.int .i64 c] [.agg [.bool,.str,.int .i64],.one (.int .i64)] g (fun (b2:Bool) (s3:B8) (n2 n3:Int) i=>K b2 s3 n2 n3 i))))):CallT PR BG [.bool neg,.str s,.int .i64 exp] [.agg [.bool,.str,.int .i64],.one (.int .i64)] st K:=
 Ad (cfg:=⟨[6],[],[]⟩) (h:=(.seq .none (.seq (.seq .none (.block (.loop ⟨[(11,.int .i64),(0,.bool),(1,.str),(2,.int .i64),(10,.int .i64)],[(6,0,0)],[(0,3)],[(0,0,.bool),(0,1,.str),(0,2,.int .i64)]⟩ .none))) .none))) mixed (fun _ _=>Tryz.call117 _ _) Tryz.func117 (by kernel_rfl) (by kernel_rfl) h
theorem EY (r:Nat) (f:Nat) (st:St) (K:Int->St->Prop) (h:At (Ag st [] (.t (.box r 0)) 0) (fun (x1:TV)=>Au .str x1 (fun (s1:B8)=>BId ((2:Int)<(s1.length:Int)) (At (Ag st [] (.t (.box r 0)) 0) (fun (x2:TV)=>Au .str x2 (fun (s2:B8)=>((0<=(2:Int)/\(2:Int)<(s2.length:Int))/\BId (((List.getD s2 (Int.toNat (2:Int)) 0).toNat:Int)=(58:Int)) (CallT PR AQ [(.box r 0),(.box f 0)] [] st (fun (k:St)=>K 2 k)) (CallT PR Bc [(.box r 0),(.box f 0)] [] st (fun (b:St)=>At (Ag b [] (.t (.box r 0)) 0) (fun (x3:TV)=>Au .str x3 (fun (s3:B8)=>BId (s3=([]:B8)) (K 1 b) (CallT PR Ap [(.box r 0),.str str27] [.one (.int .u8)] b (fun (n1:Int) e=>CallT PR AQ [(.box r 0),(.box f 0)] [] e (fun (d:St)=>At (Ag d [] (.t (.box r 0)) 0) (fun (x4:TV)=>Au .str x4 (fun (s4:B8)=>BId (s4=([]:B8)) (K 3 d) (CallT PR A0 [(.box r 0),(.box f 0)] [] d (fun (i:St)=>K 4 i))))))))))))))) (CallT PR Bc [(.box r 0),(.box f 0)] [] st (fun (c:St)=>At (Ag c [] (.t (.box r 0)) 0) (fun (x5:TV)=>Au .str x5 (fun (s5:B8)=>BId (s5=([]:B8)) (K 1 c) (CallT PR Ap [(.box r 0),.str str27] [.one (.int .u8)] c (fun (n2:Int) g=>CallT PR AQ [(.box r 0),(.box f 0)] [] g (fun (a:St)=>At (Ag a [] (.t (.box r 0)) 0) (fun (x6:TV)=>Au .str x6 (fun (s6:B8)=>BId (s6=([]:B8)) (K 3 a) (CallT PR A0 [(.box r 0),(.box f 0)] [] a (fun (j:St)=>K 4 j)))))))))))))):CallT PR BJ [(.box r 0),(.box f 0)] [.one (.int .i64)] st K:=
 Ad (cfg:=⟨[],[],[]⟩) (h:= .none) mixed (fun _ _=>Tryz.call118 _ _) Tryz.func118 (by kernel_rfl) (by kernel_rfl) h
theorem H8 (year:Int) (month:Int) (day:Int) (st:St) (K:Int->Int->St->Prop) (h:BId (day<1) (K 0 2 st) (CallT PR BQ [.int .i64 year,.int .i64 month] [.one (.int .i64)] st (fun (n1:Int) f=>BId (n1<day) (K 0 2 f) (CallT PR Cz [.int .i64 year] [.one (.int .i64)] f (fun (n2:Int) i=>∃(I1:Int->Int->Int->Int->St->Prop) (M1:Int->Int->Int->Int->St->Nat),(I1 ((i64.wrap ((i64.wrap (n2+day))-(1:Int)))) 1 year month i)/\∀d c b a e,I1 d c b a e->(BId (c<a) (CallT PR BQ [.int .i64 b,.int .i64 c] [.one (.int .i64)] e (fun (n3:Int) g=>(I1 ((i64.wrap (d+n3))) ((i64.wrap (c+(1:Int)))) b a g/\M1 ((i64.wrap (d+n3))) ((i64.wrap (c+(1:Int)))) b a g<M1 d c b a e))) (K d 0 e))))))):CallT PR Db [.int .i64 year,.int .i64 month,.int .i64 day] [.one (.int .i64),.one (.int .i64)] st K:=
 Ad (cfg:=⟨[],[],[]⟩) (h:=(.seq .none (.seq .none (.seq .none (.seq (.seq .none (.block (.loop ⟨[(8,.int .i64),(9,.int .i64),(0,.int .i64),(1,.int .i64)],[],[],[]⟩ .none))) .none))))) mixed (fun _ _=>Tryz.call119 _ _) Tryz.func119 (by kernel_rfl) (by kernel_rfl) h
theorem Ec (s:B8) (st:St) (K:B8->Int->St->Prop) (h:BId (s=([]:B8)) (K [] 4 st) (((0<=(0:Int)/\(0:Int)<(s.length:Int))/\BId (((List.getD s (Int.toNat (0:Int)) 0).toNat:Int)≠(34:Int)) (K [] 3 st) (CallT PR BA [.str s,.int .i64 0] [.one .str,.one (.int .i64),.one (.int .i64)] st (fun (s1:B8) (n1 n2:Int) a=>BId (n2≠0) (K [] n2 a) (BId (n1≠(s.length:Int)) (K [] 3 a) (K s1 0 a))))))):CallT PR Cu [.str s] [.one .str,.one (.int .i64)] st K:=
 Ad (cfg:=⟨[],[],[]⟩) (h:= .none) mixed (fun _ _=>Tryz.call120 _ _) Tryz.func120 (by kernel_rfl) (by kernel_rfl) h
theorem Ep (s:B8) (i:Int) (st:St) (K:Int->Int->St->Prop) (h:∃(I1:Int->B8->St->Prop) (M1:Int->B8->St->Nat),(I1 ((i64.wrap (i+(1:Int)))) s st)/\∀a b c,I1 a b c->(BId (a<(b.length:Int)) (((0<=a/\a<(b.length:Int))/\BId (((List.getD b a.toNat 0).toNat:Int)=(39:Int)) (K ((i64.wrap (a+(1:Int)))) 0 c) (CallT PR AR [.str b,.int .i64 a] [.one (.int .i64),.one (.int .i64)] c (fun (n1 n2:Int) d=>BId (n2=0) (K 0 5 d) (BId (n1<32) (K 0 5 d) ((I1 ((i64.wrap (a+n2))) b d/\M1 ((i64.wrap (a+n2))) b d<M1 a b c))))))) (K 0 4 c))):CallT PR Bx [.str s,.int .i64 i] [.one (.int .i64),.one (.int .i64)] st K:=
 Ad (cfg:=⟨[],[],[]⟩) (h:=(.seq .none (.seq (.seq .none (.block (.loop ⟨[(6,.int .i64),(0,.str)],[],[],[]⟩ .none))) .none))) mixed (fun _ _=>Tryz.call121 _ _) Tryz.func121 (by kernel_rfl) (by kernel_rfl) h
theorem FX (s:B8) (i:Int) (st:St) (K:Int->St->Prop) (h:∃(I1:Int->B8->St->Prop) (M1:Int->B8->St->Nat),(I1 i s st)/\∀a b c,I1 a b c->(BId (a<(b.length:Int)) (((0<=a/\a<(b.length:Int))/\CallT PR Bd [(.int .u8 ((List.getD b a.toNat 0).toNat:Int))] [.one .bool] c (fun (b1:Bool) d=>BIf b1 ((I1 ((i64.wrap (a+(1:Int)))) b d/\M1 ((i64.wrap (a+(1:Int)))) b d<M1 a b c)) (K a d)))) (K a c))):CallT PR Ao [.str s,.int .i64 i] [.one (.int .i64)] st K:=
 Ad (cfg:=⟨[],[],[]⟩) (h:=(.seq .none (.seq (.block (.loop ⟨[(1,.int .i64),(0,.str)],[],[],[]⟩ .none)) .none))) mixed (fun _ _=>Tryz.call122 _ _) Tryz.func122 (by kernel_rfl) (by kernel_rfl) h
theorem F0 (s:B8) (atx:Int) (st:St) (K:Int->St->Prop) (h:∃(I1:Int->B8->St->Prop) (M1:Int->B8->St->Nat),(I1 atx s st)/\∀a b c,I1 a b c->(BId (a<(b.length:Int)) (((0<=a/\a<(b.length:Int))/\BId ((48:Int)<=((List.getD b a.toNat 0).toNat:Int)) (((0<=a/\a<(b.length:Int))/\BId (((List.getD b a.toNat 0).toNat:Int)<=(57:Int)) ((I1 ((i64.wrap (a+(1:Int)))) b c/\M1 ((i64.wrap (a+(1:Int)))) b c<M1 a b c)) (K a c))) (K a c))) (K a c))):CallT PR A6 [.str s,.int .i64 atx] [.one (.int .i64)] st K:=
 Ad (cfg:=⟨[],[],[]⟩) (h:=(.seq .none (.seq (.block (.loop ⟨[(1,.int .i64),(0,.str)],[],[],[]⟩ .none)) .none))) mixed (fun _ _=>Tryz.call123 _ _) Tryz.func123 (by kernel_rfl) (by kernel_rfl) h
theorem E6 (s:B8) (st:St) (K:Int->St->Prop) (h:CallT PR Bg [.str s] [.one .str] st (fun (s1:B8) a=>BId ((9:Int)<(s1.length:Int)) (K 1000000000 a) (CallT PR BN [.str s1] [.one (.int .i64),.one (.int .i64)] a (fun (n1 n2:Int) b=>K n1 b)))):CallT PR BK [.str s] [.one (.int .i64)] st K:=
 Ad (cfg:=⟨[],[],[]⟩) (h:= .none) mixed (fun _ _=>Tryz.call124 _ _) Tryz.func124 (by kernel_rfl) (by kernel_rfl) h
theorem Ey (neg:Bool) (s:B8) (exp:Int) (st:St) (K:Bool->B8->Int->Int->St->Prop) (h:CallT PR Bg [.str s] [.one .str] st (fun (s1:B8) b=>BId (s1=([]:B8)) (K false [] 0 0 b) (CallT PR BL [.str s1] [.one (.int .i64)] b (fun (n1:Int) a=>((0<=(i64.wrap ((s1.length:Int)-n1))/\(i64.wrap ((s1.length:Int)-n1))<=(s1.length:Int))/\BId ((120:Int)<(((List.take (Int.toNat (i64.wrap ((s1.length:Int)-n1))) s1)).length:Int)) (K false [] 0 2 a) (BId ((400:Int)<exp) (K false [] 0 2 a) (BId ((400:Int)<(i64.wrap (exp+n1))) (K false [] 0 2 a) (BId ((i64.wrap (exp+n1))<(-400:Int)) (K false [] 0 2 a) (K neg ((List.take (Int.toNat (i64.wrap ((s1.length:Int)-n1))) s1)) ((i64.wrap (exp+n1))) 0 a))))))))):CallT PR BD [.bool neg,.str s,.int .i64 exp] [.agg [.bool,.str,.int .i64],.one (.int .i64)] st K:=
 Ad (cfg:=⟨[6],[],[]⟩) (h:= .none) mixed (fun _ _=>Tryz.call125 _ _) Tryz.func125 (by kernel_rfl) (by kernel_rfl) h
theorem Fl (s:B8) (form:B8) (st:St) (K:Bool->St->Prop) (h:BId ((s.length:Int)<(form.length:Int)) (K false st) (∃(I1:Int->B8->B8->St->Prop) (M1:Int->B8->B8->St->Nat),(I1 0 s form st)/\∀b c a d,I1 b c a d->(BId (b<(a.length:Int)) (((0<=b/\b<(a.length:Int))/\BId (((List.getD a b.toNat 0).toNat:Int)=(100:Int)) (((0<=b/\b<(c.length:Int))/\BId (((List.getD c b.toNat 0).toNat:Int)<(48:Int)) (K false d) (((0<=b/\b<(c.length:Int))/\BId ((57:Int)<((List.getD c b.toNat 0).toNat:Int)) (K false d) (((0<=b/\b<(a.length:Int))/\BId (((List.getD a b.toNat 0).toNat:Int)≠(100:Int)) (((0<=b/\b<(c.length:Int))/\((0<=b/\b<(a.length:Int))/\BId (((List.getD c b.toNat 0).toNat:Int)≠((List.getD a b.toNat 0).toNat:Int)) (K false d) ((I1 ((i64.wrap (b+(1:Int)))) c a d/\M1 ((i64.wrap (b+(1:Int)))) c a d<M1 b c a d))))) ((I1 ((i64.wrap (b+(1:Int)))) c a d/\M1 ((i64.wrap (b+(1:Int)))) c a d<M1 b c a d)))))))) (((0<=b/\b<(a.length:Int))/\BId (((List.getD a b.toNat 0).toNat:Int)≠(100:Int)) (((0<=b/\b<(c.length:Int))/\((0<=b/\b<(a.length:Int))/\BId (((List.getD c b.toNat 0).toNat:Int)≠((List.getD a b.toNat 0).toNat:Int)) (K false d) ((I1 ((i64.wrap (b+(1:Int)))) c a d/\M1 ((i64.wrap (b+(1:Int)))) c a d<M1 b c a d))))) ((I1 ((i64.wrap (b+(1:Int)))) c a d/\M1 ((i64.wrap (b+(1:Int)))) c a d<M1 b c a d)))))) (K true d)))):CallT PR AM [.str s,.str form] [.one .bool] st K:=
 Ad (cfg:=⟨[],[],[]⟩) (h:=(.seq .none (.seq .none (.seq (.seq .none (.block (.loop ⟨[(5,.int .i64),(0,.str),(1,.str)],[],[],[]⟩ .none))) .none)))) mixed (fun _ _=>Tryz.call126 _ _) Tryz.func126 (by kernel_rfl) (by kernel_rfl) h
theorem DI (s:B8) (st:St) (K:Int->B8->Bool->Bool->St->Prop) (h:CallT PR AM [.str s,.str str28] [.one .bool] st (fun (b1:Bool) l=>BIf (!b1) (K 0 [] false false l) (((0<=(2:Int)/\(2:Int)<=(s.length:Int))/\((0<=(3:Int)/\(3:Int)<=(5:Int)/\(5:Int)<=(s.length:Int))/\((0<=(6:Int)/\(6:Int)<=(8:Int)/\(8:Int)<=(s.length:Int))/\CallT PR Ai [(.str (List.take (Int.toNat (2:Int)) s))] [.one (.int .i64)] l (fun (n1:Int) m=>CallT PR Ai [(.str (List.drop (Int.toNat (3:Int)) (List.take (Int.toNat (5:Int)) s)))] [.one (.int .i64)] m (fun (n2:Int) n=>CallT PR Ai [(.str (List.drop (Int.toNat (6:Int)) (List.take (Int.toNat (8:Int)) s)))] [.one (.int .i64)] n (fun (n3:Int) g=>((0<=(8:Int)/\(8:Int)<=(s.length:Int))/\BId ((0:Int)<(((List.drop (Int.toNat (8:Int)) s)).length:Int)) (((0<=(0:Int)/\(0:Int)<(((List.drop (Int.toNat (8:Int)) s)).length:Int))/\BId (((List.getD (List.drop (Int.toNat (8:Int)) s) (Int.toNat (0:Int)) 0).toNat:Int)=(46:Int)) (∃(I1:Int->B8->Int->Int->Int->St->Prop) (M1:Int->B8->Int->Int->Int->St->Nat),(I1 1 ((List.drop (Int.toNat (8:Int)) s)) n1 n2 n3 g)/\∀a b d e c f,I1 a b d e c f->(BId (a<(b.length:Int)) (((0<=a/\a<(b.length:Int))/\BId ((48:Int)<=((List.getD b a.toNat 0).toNat:Int)) (((0<=a/\a<(b.length:Int))/\BId (((List.getD b a.toNat 0).toNat:Int)<=(57:Int)) ((I1 ((i64.wrap (a+(1:Int)))) b d e c f/\M1 ((i64.wrap (a+(1:Int)))) b d e c f<M1 a b d e c f)) (BId (a<2) (K 0 [] false false f) (BId ((10:Int)<a) (K 0 [] false false f) (((0<=(1:Int)/\(1:Int)<=a/\a<=(b.length:Int))/\(((List.drop (Int.toNat (1:Int)) (List.take a.toNat b))).length+CS.length<=9223372036854775807/\((0<=(9:Int)/\(9:Int)<=((((List.drop (Int.toNat (1:Int)) (List.take a.toNat b))++CS)).length:Int))/\CallT PR Ai [(.str (List.take (Int.toNat (9:Int)) ((List.drop (Int.toNat (1:Int)) (List.take a.toNat b))++CS)))] [.one (.int .i64)] f (fun (n4:Int) k=>((0<=a/\a<=(b.length:Int))/\BId (d<=23) (BId (e<=59) (K ((i64.wrap ((i64.wrap ((i64.wrap ((i64.wrap ((i64.wrap ((i64.wrap (d*(60:Int)))+e))*(60:Int)))+c))*(1000000000:Int)))+n4))) ((List.drop a.toNat b)) true ((decide (c<=59))) k) (K ((i64.wrap ((i64.wrap ((i64.wrap ((i64.wrap ((i64.wrap ((i64.wrap (d*(60:Int)))+e))*(60:Int)))+c))*(1000000000:Int)))+n4))) ((List.drop a.toNat b)) true false k)) (K ((i64.wrap ((i64.wrap ((i64.wrap ((i64.wrap ((i64.wrap ((i64.wrap (d*(60:Int)))+e))*(60:Int)))+c))*(1000000000:Int)))+n4))) ((List.drop a.toNat b)) true false k))))))))))) (BId (a<2) (K 0 [] false false f) (BId ((10:Int)<a) (K 0 [] false false f) (((0<=(1:Int)/\(1:Int)<=a/\a<=(b.length:Int))/\(((List.drop (Int.toNat (1:Int)) (List.take a.toNat b))).length+CS.length<=9223372036854775807/\((0<=(9:Int)/\(9:Int)<=((((List.drop (Int.toNat (1:Int)) (List.take a.toNat b))++CS)).length:Int))/\CallT PR Ai [(.str (List.take (Int.toNat (9:Int)) ((List.drop (Int.toNat (1:Int)) (List.take a.toNat b))++CS)))] [.one (.int .i64)] f (fun (n5:Int) j=>((0<=a/\a<=(b.length:Int))/\BId (d<=23) (BId (e<=59) (K ((i64.wrap ((i64.wrap ((i64.wrap ((i64.wrap ((i64.wrap ((i64.wrap (d*(60:Int)))+e))*(60:Int)))+c))*(1000000000:Int)))+n5))) ((List.drop a.toNat b)) true ((decide (c<=59))) j) (K ((i64.wrap ((i64.wrap ((i64.wrap ((i64.wrap ((i64.wrap ((i64.wrap (d*(60:Int)))+e))*(60:Int)))+c))*(1000000000:Int)))+n5))) ((List.drop a.toNat b)) true false j)) (K ((i64.wrap ((i64.wrap ((i64.wrap ((i64.wrap ((i64.wrap ((i64.wrap (d*(60:Int)))+e))*(60:Int)))+c))*(1000000000:Int)))+n5))) ((List.drop a.toNat b)) true false j))))))))))) (BId (a<2) (K 0 [] false false f) (BId ((10:Int)<a) (K 0 [] false false f) (((0<=(1:Int)/\(1:Int)<=a/\a<=(b.length:Int))/\(((List.drop (Int.toNat (1:Int)) (List.take a.toNat b))).length+CS.length<=9223372036854775807/\((0<=(9:Int)/\(9:Int)<=((((List.drop (Int.toNat (1:Int)) (List.take a.toNat b))++CS)).length:Int))/\CallT PR Ai [(.str (List.take (Int.toNat (9:Int)) ((List.drop (Int.toNat (1:Int)) (List.take a.toNat b))++CS)))] [.one (.int .i64)] f (fun (n6:Int) i=>((0<=a/\a<=(b.length:Int))/\BId (d<=23) (BId (e<=59) (K ((i64.wrap ((i64.wrap ((i64.wrap ((i64.wrap ((i64.wrap ((i64.wrap (d*(60:Int)))+e))*(60:Int)))+c))*(1000000000:Int)))+n6))) ((List.drop a.toNat b)) true ((decide (c<=59))) i) (K ((i64.wrap ((i64.wrap ((i64.wrap ((i64.wrap ((i64.wrap ((i64.wrap (d*(60:Int)))+e))*(60:Int)))+c))*(1000000000:Int)))+n6))) ((List.drop a.toNat b)) true false i)) (K ((i64.wrap ((i64.wrap ((i64.wrap ((i64.wrap ((i64.wrap ((i64.wrap (d*(60:Int)))+e))*(60:Int)))+c))*(1000000000:Int)))+n6))) ((List.drop a.toNat b)) true false i))))))))))) (BId (n1<=23) (BId (n2<=59) (K ((i64.wrap ((i64.wrap ((i64.wrap ((i64.wrap ((i64.wrap ((i64.wrap (n1*(60:Int)))+n2))*(60:Int)))+n3))*(1000000000:Int)))+(0:Int)))) ((List.drop (Int.toNat (8:Int)) s)) true ((decide (n3<=59))) g) (K ((i64.wrap ((i64.wrap ((i64.wrap ((i64.wrap ((i64.wrap ((i64.wrap (n1*(60:Int)))+n2))*(60:Int)))+n3))*(1000000000:Int)))+(0:Int)))) ((List.drop (Int.toNat (8:Int)) s)) true false g)) (K ((i64.wrap ((i64.wrap ((i64.wrap ((i64.wrap ((i64.wrap ((i64.wrap (n1*(60:Int)))+n2))*(60:Int)))+n3))*(1000000000:Int)))+(0:Int)))) ((List.drop (Int.toNat (8:Int)) s)) true false g)))) (BId (n1<=23) (BId (n2<=59) (K ((i64.wrap ((i64.wrap ((i64.wrap ((i64.wrap ((i64.wrap ((i64.wrap (n1*(60:Int)))+n2))*(60:Int)))+n3))*(1000000000:Int)))+(0:Int)))) ((List.drop (Int.toNat (8:Int)) s)) true ((decide (n3<=59))) g) (K ((i64.wrap ((i64.wrap ((i64.wrap ((i64.wrap ((i64.wrap ((i64.wrap (n1*(60:Int)))+n2))*(60:Int)))+n3))*(1000000000:Int)))+(0:Int)))) ((List.drop (Int.toNat (8:Int)) s)) true false g)) (K ((i64.wrap ((i64.wrap ((i64.wrap ((i64.wrap ((i64.wrap ((i64.wrap (n1*(60:Int)))+n2))*(60:Int)))+n3))*(1000000000:Int)))+(0:Int)))) ((List.drop (Int.toNat (8:Int)) s)) true false g)))))))))))):CallT PR Aw [.str s] [.one (.int .i64),.one .str,.one .bool,.one .bool] st K:=
 Ad (cfg:=⟨[],[],[]⟩) (h:=(.seq .none (.seq .none (.seq .none (.seq .none (.seq .none (.seq (.seq .none (.cond (.seq .none (.seq (.block (.loop ⟨[(10,.int .i64),(0,.str),(6,.int .i64),(7,.int .i64),(8,.int .i64)],[],[],[]⟩ .none)) .none)) .none)) .none))))))) mixed (fun _ _=>Tryz.call127 _ _) Tryz.func127 (by kernel_rfl) (by kernel_rfl) h
theorem FZ (year:Int) (month:Int) (day:Int) (st:St) (K:Int->Int->St->Prop) (h:BId (day<1) (K 0 2 st) (CallT PR AT [.int .i64 year,.int .i64 month] [.one (.int .i64)] st (fun (n1:Int) g=>BId (n1<day) (K 0 2 g) (CallT PR BC [.int .i64 year] [.one (.int .i64)] g (fun (n2:Int) j=>∃(I1:Int->Int->Int->Int->Int->St->Prop) (M1:Int->Int->Int->Int->Int->St->Nat),(I1 n2 1 year month day j)/\∀e d b a c f,I1 e d b a c f->(BId (d<a) (CallT PR AT [.int .i64 b,.int .i64 d] [.one (.int .i64)] f (fun (n3:Int) i=>(I1 ((i64.wrap (e+n3))) ((i64.wrap (d+(1:Int)))) b a c i/\M1 ((i64.wrap (e+n3))) ((i64.wrap (d+(1:Int)))) b a c i<M1 e d b a c f))) (K ((i64.wrap ((i64.wrap (e+c))-(1:Int)))) 0 f))))))):CallT PR Ca [.int .i64 year,.int .i64 month,.int .i64 day] [.one (.int .i64),.one (.int .i64)] st K:=
 Ad (cfg:=⟨[],[],[]⟩) (h:=(.seq .none (.seq .none (.seq .none (.seq (.seq .none (.block (.loop ⟨[(8,.int .i64),(9,.int .i64),(0,.int .i64),(1,.int .i64),(2,.int .i64)],[],[],[]⟩ .none))) .none))))) mixed (fun _ _=>Tryz.call128 _ _) Tryz.func128 (by kernel_rfl) (by kernel_rfl) h
theorem Et (s:B8) (st:St) (K:Int->St->Prop) (h:∃(I1:Int->Int->B8->St->Prop) (M1:Int->Int->B8->St->Nat),(I1 0 0 s st)/\∀c a b d,I1 c a b d->(BId (a<(b.length:Int)) (((0<=a/\a<(b.length:Int))/\(I1 ((i64.wrap ((i64.wrap (c*(10:Int)))+(i64.wrap (u8.wrap (((List.getD b a.toNat 0).toNat:Int)-(48:Int))))))) ((i64.wrap (a+(1:Int)))) b d/\M1 ((i64.wrap ((i64.wrap (c*(10:Int)))+(i64.wrap (u8.wrap (((List.getD b a.toNat 0).toNat:Int)-(48:Int))))))) ((i64.wrap (a+(1:Int)))) b d<M1 c a b d))) (K c d))):CallT PR Ai [.str s] [.one (.int .i64)] st K:=
 Ad (cfg:=⟨[],[],[]⟩) (h:=(.seq .none (.seq .none (.seq (.seq .none (.block (.loop ⟨[(3,.int .i64),(4,.int .i64),(0,.str)],[],[],[]⟩ .none))) .none)))) mixed (fun _ _=>Tryz.call129 _ _) Tryz.func129 (by kernel_rfl) (by kernel_rfl) h
theorem Du (s:B8) (st:St) (K:Int->Bool->Bool->St->Prop) (h:BId (s=str30) (K 0 true true st) (BId (s=str31) (K 0 true true st) (BId ((s.length:Int)≠(6:Int)) (K 0 false false st) (CallT PR AM [.str s,.str str32] [.one .bool] st (fun (b1:Bool) d=>BIf (!b1) (CallT PR AM [.str s,.str str33] [.one .bool] d (fun (b2:Bool) c=>BIf (!b2) (K 0 false false c) (((0<=(1:Int)/\(1:Int)<=(3:Int)/\(3:Int)<=(s.length:Int))/\((0<=(4:Int)/\(4:Int)<=(6:Int)/\(6:Int)<=(s.length:Int))/\CallT PR Ai [(.str (List.drop (Int.toNat (1:Int)) (List.take (Int.toNat (3:Int)) s)))] [.one (.int .i64)] c (fun (n1:Int) e=>CallT PR Ai [(.str (List.drop (Int.toNat (4:Int)) (List.take (Int.toNat (6:Int)) s)))] [.one (.int .i64)] e (fun (n2:Int) b=>((0<=(0:Int)/\(0:Int)<(s.length:Int))/\BId (((List.getD s (Int.toNat (0:Int)) 0).toNat:Int)=(45:Int)) (BId (n1<=23) (K ((i64.wrap (0-(i64.wrap ((i64.wrap (n1*(60:Int)))+n2))))) true ((decide (n2<=59))) b) (K ((i64.wrap (0-(i64.wrap ((i64.wrap (n1*(60:Int)))+n2))))) true false b)) (BId (n1<=23) (K ((i64.wrap ((i64.wrap (n1*(60:Int)))+n2))) true ((decide (n2<=59))) b) (K ((i64.wrap ((i64.wrap (n1*(60:Int)))+n2))) true false b)))))))))) (((0<=(1:Int)/\(1:Int)<=(3:Int)/\(3:Int)<=(s.length:Int))/\((0<=(4:Int)/\(4:Int)<=(6:Int)/\(6:Int)<=(s.length:Int))/\CallT PR Ai [(.str (List.drop (Int.toNat (1:Int)) (List.take (Int.toNat (3:Int)) s)))] [.one (.int .i64)] d (fun (n3:Int) f=>CallT PR Ai [(.str (List.drop (Int.toNat (4:Int)) (List.take (Int.toNat (6:Int)) s)))] [.one (.int .i64)] f (fun (n4:Int) a=>((0<=(0:Int)/\(0:Int)<(s.length:Int))/\BId (((List.getD s (Int.toNat (0:Int)) 0).toNat:Int)=(45:Int)) (BId (n3<=23) (K ((i64.wrap (0-(i64.wrap ((i64.wrap (n3*(60:Int)))+n4))))) true ((decide (n4<=59))) a) (K ((i64.wrap (0-(i64.wrap ((i64.wrap (n3*(60:Int)))+n4))))) true false a)) (BId (n3<=23) (K ((i64.wrap ((i64.wrap (n3*(60:Int)))+n4))) true ((decide (n4<=59))) a) (K ((i64.wrap ((i64.wrap (n3*(60:Int)))+n4))) true false a))))))))))))):CallT PR AC [.str s] [.one (.int .i64),.one .bool,.one .bool] st K:=
 Ad (cfg:=⟨[],[],[]⟩) (h:= .none) mixed (fun _ _=>Tryz.call130 _ _) Tryz.func130 (by kernel_rfl) (by kernel_rfl) h
theorem EX (c:Int) (st:St) (K:Bool->St->Prop) (h:BId ((97:Int)<=c) (BId (c<=122) (K true st) (BId ((65:Int)<=c) (BId (c<=90) (K true st) (BId ((48:Int)<=c) (BId (c<=57) (K true st) (BId (c=95) (K true st) (K ((decide (c=45))) st))) (BId (c=95) (K true st) (K ((decide (c=45))) st)))) (BId ((48:Int)<=c) (BId (c<=57) (K true st) (BId (c=95) (K true st) (K ((decide (c=45))) st))) (BId (c=95) (K true st) (K ((decide (c=45))) st))))) (BId ((65:Int)<=c) (BId (c<=90) (K true st) (BId ((48:Int)<=c) (BId (c<=57) (K true st) (BId (c=95) (K true st) (K ((decide (c=45))) st))) (BId (c=95) (K true st) (K ((decide (c=45))) st)))) (BId ((48:Int)<=c) (BId (c<=57) (K true st) (BId (c=95) (K true st) (K ((decide (c=45))) st))) (BId (c=95) (K true st) (K ((decide (c=45))) st))))):CallT PR AB [.int .u8 c] [.one .bool] st K:=
 Ad (cfg:=⟨[],[],[]⟩) (h:= .none) mixed (fun _ _=>Tryz.call168 _ _) Tryz.func168 (by kernel_rfl) (by kernel_rfl) h
theorem EW (c:Int) (free0:TV) (st:St) (K:Bool->St->Prop) (h:At (Ag st [] (.t free0) 0) (fun (v1:TV)=>Ja PR v1 [.int .u8 c] [.one .bool] st (fun (b1:Bool) a=>BIf b1 (K true a) (BId (c=43) (K true a) (BId (c=46) (K true a) (K ((decide (c=58))) a)))))):CallT PR BI [.int .u8 c,free0] [.one .bool] st K:=
 Ad (cfg:=⟨[],[],[]⟩) (h:= .none) mixed (fun _ _=>Tryz.call169 _ _) Tryz.func169 (by kernel_rfl) (by kernel_rfl) h
theorem GH (c:Int) (st:St) (K:Bool->St->Prop) (h:BId (c=32) (K true st) (K ((decide (c=9))) st)):CallT PR BO [.int .u8 c] [.one .bool] st K:=
 Ad (cfg:=⟨[],[],[]⟩) (h:= .none) mixed (fun _ _=>Tryz.call205 _ _) Tryz.func205 (by kernel_rfl) (by kernel_rfl) h
theorem He (s:B8) (atx:Int) (st:St) (K:Int->Int->St->Prop) (h:((0<=atx/\atx<(s.length:Int))/\BId (((List.getD s atx.toNat 0).toNat:Int)=(10:Int)) (K ((i64.wrap (atx+(1:Int)))) 0 st) (BId ((i64.wrap (atx+(1:Int)))=(s.length:Int)) (K 0 4 st) (((0<=(i64.wrap (atx+(1:Int)))/\(i64.wrap (atx+(1:Int)))<(s.length:Int))/\BId (((List.getD s (Int.toNat (i64.wrap (atx+(1:Int)))) 0).toNat:Int)=(10:Int)) (K ((i64.wrap (atx+(2:Int)))) 0 st) (K 0 3 st)))))):CallT PR B3 [.str s,.int .i64 atx] [.one (.int .i64),.one (.int .i64)] st K:=
 Ad (cfg:=⟨[],[],[]⟩) (h:= .none) mixed (fun _ _=>Tryz.call206 _ _) Tryz.func206 (by kernel_rfl) (by kernel_rfl) h
theorem FU (s:B8) (i:Int) (st:St) (K:Int->Int->St->Prop) (h:∃(I1:Int->B8->St->Prop) (M1:Int->B8->St->Nat),(I1 i s st)/\∀a b c,I1 a b c->(BId (a<(b.length:Int)) (((0<=a/\a<(b.length:Int))/\BId (((List.getD b a.toNat 0).toNat:Int)≠(10:Int)) (((0<=a/\a<=(b.length:Int))/\CallT PR AF [(.str (List.drop a.toNat b)),.str Jv] [.one .bool] c (fun (b1:Bool) e=>BIf (!b1) (((0<=a/\a<=(b.length:Int))/\CallT PR AP [(.str (List.drop a.toNat b))] [.one (.int .i32),.one (.int .i64)] e (fun (n1 n2:Int) d=>BId (n1=65533) (BId (n2=1) (K 0 5 d) ((I1 ((i64.wrap (a+n2))) b d/\M1 ((i64.wrap (a+n2))) b d<M1 a b c))) ((I1 ((i64.wrap (a+n2))) b d/\M1 ((i64.wrap (a+n2))) b d<M1 a b c))))) (K a 0 e)))) (K a 0 c))) (K a 0 c))):CallT PR B7 [.str s,.int .i64 i] [.one (.int .i64),.one (.int .i64)] st K:=
 Ad (cfg:=⟨[],[],[]⟩) (h:=(.seq .none (.seq (.block (.loop ⟨[(1,.int .i64),(0,.str)],[],[],[]⟩ .none)) .none))) mixed (fun _ _=>Tryz.call207 _ _) Tryz.func207 (by kernel_rfl) (by kernel_rfl) h
theorem GG (s:B8) (atx:Int) (st:St) (K:Int->St->Prop) (h:CallT PR A4 [] [.one .tv,.one .tv] st (fun (v1 v2:TV) e=>CallT PR A2 [.str s,.int .i64 atx,v2] [.one (.int .i64)] e (fun (n1:Int) a=>BId ((i64.wrap (n1-atx))=(10:Int)) (((0<=atx/\atx<=n1/\n1<=(s.length:Int))/\CallT PR Bp [(.str (List.drop atx.toNat (List.take n1.toNat s))),.str N2] [.one .bool] a (fun (b1:Bool) b=>BIf b1 (((0<=n1/\n1<=(s.length:Int))/\CallT PR Bp [(.str (List.drop n1.toNat s)),.str N1] [.one .bool] b (fun (b2:Bool) c=>BIf b2 (CallT PR A2 [.str s,(.int .i64 (i64.wrap (n1+(1:Int)))),v2] [.one (.int .i64)] c (fun (n2:Int) d=>K n2 d)) (K n1 c)))) (K n1 b)))) (K n1 a)))):CallT PR Cy [.str s,.int .i64 atx] [.one (.int .i64)] st K:=
 Ad (cfg:=⟨[],[],[]⟩) (h:= .none) mixed (fun _ _=>Tryz.call208 _ _) Tryz.func208 (by kernel_rfl) (by kernel_rfl) h
theorem Gp (s:B8) (i:Int) (st:St) (K:Int->Int->Int->St->Prop) (h:CallT PR Bl [.str s,.int .i64 i] [.one (.int .i64),.one (.int .i64)] st (fun (n1 n2:Int) f=>BId (n2≠0) (K 0 0 n2 f) (BId ((56320:Int)<=n1) (BId (n1<=57343) (K 0 0 5 f) (BId (n1<55296) (K ((IntKind.i32.wrap n1)) ((i64.wrap (i+(4:Int)))) 0 f) (BId ((57343:Int)<n1) (K ((IntKind.i32.wrap n1)) ((i64.wrap (i+(4:Int)))) 0 f) (∃(I1:Int->B8->Int->Int->TV->Int->St->Prop) (M1:Int->B8->Int->Int->TV->Int->St->Nat),(I1 0 s i n1 ((.list 1 .full 2 [.int .u8 92,.int .u8 117])) ((lenS (.list 1 .full 2 [.int .u8 92,.int .u8 117]):Int)) f)/\∀a j c q l n e,I1 a j c q l n e->(BId (a<n) (((0<=a/\a<(lenZ 1 l:Int))/\At (Ag e [] (.t (ixT 1 l a.toNat)) 0) (fun (x1:TV)=>Au (.int .u8) x1 (fun (n3:Int)=>BId ((j.length:Int)<=(i64.wrap ((i64.wrap (c+(4:Int)))+a))) (K 0 0 4 e) (((0<=(i64.wrap ((i64.wrap (c+(4:Int)))+a))/\(i64.wrap ((i64.wrap (c+(4:Int)))+a))<(j.length:Int))/\BId (((List.getD j (Int.toNat (i64.wrap ((i64.wrap (c+(4:Int)))+a))) 0).toNat:Int)≠n3) (K 0 0 5 e) ((I1 ((i64.wrap (a+(1:Int)))) j c q l n e/\M1 ((i64.wrap (a+(1:Int)))) j c q l n e<M1 a j c q l n e)))))))) (CallT PR Bl [.str j,(.int .i64 (i64.wrap (c+(6:Int))))] [.one (.int .i64),.one (.int .i64)] e (fun (n4 n5:Int) r=>BId (n5≠0) (K 0 0 n5 r) (BId (n4<56320) (K 0 0 5 r) (BId ((57343:Int)<n4) (K 0 0 5 r) (K ((IntKind.i32.wrap (i64.wrap ((i64.wrap ((i64.wrap ((65536:Int)+(i64.wrap ((i64.wrap (q-(55296:Int)))*2^(min (Int.toNat (10:Int)) (IntKind.bits .i64))))))+n4))-(56320:Int))))) ((i64.wrap (c+(10:Int)))) 0 r)))))))))) (BId (n1<55296) (K ((IntKind.i32.wrap n1)) ((i64.wrap (i+(4:Int)))) 0 f) (BId ((57343:Int)<n1) (K ((IntKind.i32.wrap n1)) ((i64.wrap (i+(4:Int)))) 0 f) (∃(I2:Int->B8->Int->Int->TV->Int->St->Prop) (M2:Int->B8->Int->Int->TV->Int->St->Nat),(I2 0 s i n1 ((.list 1 .full 2 [.int .u8 92,.int .u8 117])) ((lenS (.list 1 .full 2 [.int .u8 92,.int .u8 117]):Int)) f)/\∀b k d p m o g,I2 b k d p m o g->(BId (b<o) (((0<=b/\b<(lenZ 1 m:Int))/\At (Ag g [] (.t (ixT 1 m b.toNat)) 0) (fun (x2:TV)=>Au (.int .u8) x2 (fun (n6:Int)=>BId ((k.length:Int)<=(i64.wrap ((i64.wrap (d+(4:Int)))+b))) (K 0 0 4 g) (((0<=(i64.wrap ((i64.wrap (d+(4:Int)))+b))/\(i64.wrap ((i64.wrap (d+(4:Int)))+b))<(k.length:Int))/\BId (((List.getD k (Int.toNat (i64.wrap ((i64.wrap (d+(4:Int)))+b))) 0).toNat:Int)≠n6) (K 0 0 5 g) ((I2 ((i64.wrap (b+(1:Int)))) k d p m o g/\M2 ((i64.wrap (b+(1:Int)))) k d p m o g<M2 b k d p m o g)))))))) (CallT PR Bl [.str k,(.int .i64 (i64.wrap (d+(6:Int))))] [.one (.int .i64),.one (.int .i64)] g (fun (n7 n8:Int) u=>BId (n8≠0) (K 0 0 n8 u) (BId (n7<56320) (K 0 0 5 u) (BId ((57343:Int)<n7) (K 0 0 5 u) (K ((IntKind.i32.wrap (i64.wrap ((i64.wrap ((i64.wrap ((65536:Int)+(i64.wrap ((i64.wrap (p-(55296:Int)))*2^(min (Int.toNat (10:Int)) (IntKind.bits .i64))))))+n7))-(56320:Int))))) ((i64.wrap (d+(10:Int)))) 0 u)))))))))))):CallT PR Bw [.str s,.int .i64 i] [.one (.int .i32),.one (.int .i64),.one (.int .i64)] st K:=
 Ad (cfg:=⟨[],[],[]⟩) (h:=(.seq .none (.seq .none (.seq .none (.seq .none (.seq .none (.seq (.seq .none (.block (.loop ⟨[(39,.int .i64),(0,.str),(1,.int .i64),(7,.int .i64),(37,.tv),(38,.int .i64)],[],[],[]⟩ .none))) .none))))))) mixed (fun _ _=>Tryz.call209 _ _) Tryz.func209 (by kernel_rfl) (by kernel_rfl) h
theorem DV (s:B8) (prefixx:B8) (st:St) (K:Bool->St->Prop) (h:BId ((prefixx.length:Int)<=(s.length:Int)) (((0<=(prefixx.length:Int)/\(prefixx.length:Int)<=(s.length:Int))/\K ((decide ((List.take (Int.toNat (prefixx.length:Int)) s)=prefixx))) st)) (K false st)):CallT PR Cg [.str s,.str prefixx] [.one .bool] st K:=
 Ad (cfg:=⟨[],[],[]⟩) (h:= .none) mixed (fun _ _=>Tryz.call211 _ _) Tryz.func211 (by kernel_rfl) (by kernel_rfl) h
theorem H5 (s:B8) (st:St) (K:Int->Int->St->Prop) (h:CallT PR C0 [.str s] [.one .bool] st (fun (b1:Bool) f=>BIf (!b1) (K 0 3 f) (∃(I1:Int->Int->B8->Int->St->Prop) (M1:Int->Int->B8->Int->St->Nat),(I1 0 0 s ((s.length:Int)) f)/\∀d a b e c,I1 d a b e c->(BId (a<e) (((0<=a/\a<(b.length:Int))/\BId ((i64.wrap (Int.tdiv (i64.wrap ((9223372036854775807:Int)-(i64.wrap (u8.wrap (((List.getD b a.toNat 0).toNat:Int)-(48:Int)))))) (10:Int)))<d) (K 0 2 c) ((I1 ((i64.wrap ((i64.wrap (d*(10:Int)))+(i64.wrap (u8.wrap (((List.getD b a.toNat 0).toNat:Int)-(48:Int))))))) ((i64.wrap (a+(1:Int)))) b e c/\M1 ((i64.wrap ((i64.wrap (d*(10:Int)))+(i64.wrap (u8.wrap (((List.getD b a.toNat 0).toNat:Int)-(48:Int))))))) ((i64.wrap (a+(1:Int)))) b e c<M1 d a b e c)))) (K d 0 c))))):CallT PR C9 [.str s] [.one (.int .i64),.one (.int .i64)] st K:=
 Ad (cfg:=⟨[],[],[]⟩) (h:=(.seq .none (.seq .none (.seq .none (.seq (.seq .none (.block (.loop ⟨[(4,.int .i64),(12,.int .i64),(0,.str),(11,.int .i64)],[],[],[]⟩ .none))) .none))))) mixed (fun _ _=>Tryz.call212 _ _) Tryz.func212 (by kernel_rfl) (by kernel_rfl) h
theorem H6 (neg:Bool) (s:B8) (exp:Int) (st:St) (K:Bool->B8->Int->Int->St->Prop) (h:BId (s=([]:B8)) (K false [] 0 0 st) (CallT PR CU [.str s,.str N4] [.one .str] st (fun (s1:B8) a=>((0<=(i64.wrap ((s.length:Int)-(i64.wrap ((s.length:Int)-(s1.length:Int)))))/\(i64.wrap ((s.length:Int)-(i64.wrap ((s.length:Int)-(s1.length:Int)))))<=(s.length:Int))/\BId ((i64.wrap ((400:Int)-(i64.wrap ((s.length:Int)-(s1.length:Int)))))<exp) (K false [] 0 2 a) (BId (exp<(i64.wrap ((-400:Int)-(i64.wrap ((s.length:Int)-(s1.length:Int)))))) (K false [] 0 2 a) (BId ((120:Int)<(((List.take (Int.toNat (i64.wrap ((s.length:Int)-(i64.wrap ((s.length:Int)-(s1.length:Int)))))) s)).length:Int)) (K false [] 0 2 a) (K neg ((List.take (Int.toNat (i64.wrap ((s.length:Int)-(i64.wrap ((s.length:Int)-(s1.length:Int)))))) s)) ((i64.wrap (exp+(i64.wrap ((s.length:Int)-(s1.length:Int)))))) 0 a))))))):CallT PR Da [.bool neg,.str s,.int .i64 exp] [.agg [.bool,.str,.int .i64],.one (.int .i64)] st K:=
 Ad (cfg:=⟨[6],[],[]⟩) (h:= .none) mixed (fun _ _=>Tryz.call217 _ _) Tryz.func217 (by kernel_rfl) (by kernel_rfl) h
theorem Eo (r:Nat) (f:Nat) (st:St) (K:St->Prop) (h:CallT PR Al [(.box r 0),.int .i64 2] [.one (.int .i64)] st (fun (n1:Int) k=>stB k (.box f 3) [.int .i64 n1] (fun d=>CallT PR Ap [(.box r 0),.str MG] [.one (.int .u8)] d (fun (n2:Int) e=>CallT PR Al [(.box r 0),.int .i64 2] [.one (.int .i64)] e (fun (n3:Int) m=>stB m (.box f 4) [.int .i64 n3] (fun i=>CallT PR Ap [(.box r 0),.str MG] [.one (.int .u8)] i (fun (n4:Int) l=>CallT PR Al [(.box r 0),.int .i64 2] [.one (.int .i64)] l (fun (n5:Int) g=>stB g (.box f 5) [.int .i64 n5] (fun a=>At (Ag a [] (.t (.box r 0)) 0) (fun (x1:TV)=>Au .str x1 (fun (s1:B8)=>BId (s1≠([]:B8)) (At (Ag a [] (.t (.box r 0)) 0) (fun (x2:TV)=>Au .str x2 (fun (s2:B8)=>((0<=(0:Int)/\(0:Int)<(s2.length:Int))/\BId (((List.getD s2 (Int.toNat (0:Int)) 0).toNat:Int)=(46:Int)) (At (Ag a [] (.t (.box r 0)) 0) (fun (x3:TV)=>Au .str x3 (fun (s3:B8)=>((0<=(1:Int)/\(1:Int)<=(s3.length:Int))/\stB a (.box r 0) [(.str (List.drop (Int.toNat (1:Int)) s3))] (fun j=>CallT PR Bj [(.box r 0)] [.one (.int .i64)] j (fun (n6:Int) b=>stB b (.box f 6) [.int .i64 n6] (fun c=>K c))))))) (K a))))) (K a)))))))))))):CallT PR AQ [(.box r 0),(.box f 0)] [] st K:=
 Ad (cfg:=⟨[],[],[]⟩) (h:= .none) mixed (fun _ _=>Tryz.call218 _ _) Tryz.func218 (by kernel_rfl) (by kernel_rfl) h
theorem EZ (r:Nat) (f:Nat) (st:St) (K:St->Prop) (h:CallT PR Al [(.box r 0),.int .i64 4] [.one (.int .i64)] st (fun (n1:Int) g=>stB g (.box f 0) [.int .i64 n1] (fun b=>CallT PR Ap [(.box r 0),.str str9] [.one (.int .u8)] b (fun (n2:Int) c=>CallT PR Al [(.box r 0),.int .i64 2] [.one (.int .i64)] c (fun (n3:Int) j=>stB j (.box f 1) [.int .i64 n3] (fun e=>CallT PR Ap [(.box r 0),.str str9] [.one (.int .u8)] e (fun (n4:Int) i=>CallT PR Al [(.box r 0),.int .i64 2] [.one (.int .i64)] i (fun (n5:Int) d=>stB d (.box f 2) [.int .i64 n5] (fun a=>K a))))))))):CallT PR Bc [(.box r 0),(.box f 0)] [] st K:=
 Ad (cfg:=⟨[],[],[]⟩) (h:= .none) mixed (fun _ _=>Tryz.call219 _ _) Tryz.func219 (by kernel_rfl) (by kernel_rfl) h
theorem Fh (r:Nat) (of:B8) (st:St) (K:Int->St->Prop) (h:At (Ag st [] (.t (.box r 0)) 0) (fun (x1:TV)=>Au .str x1 (fun (s1:B8)=>BId (s1≠([]:B8)) (∃(I1:Int->TV->B8->Int->St->Prop) (M1:Int->TV->B8->Int->St->Nat),(I1 0 ((.box r 0)) of ((of.length:Int)) st)/\∀b a c e d,I1 b a c e d->(BId (b<e) (need (isPtr a) (need (isPtr a) (At (Ag d [] (.t (Bo a 0)) 0) (fun (x2:TV)=>Au .str x2 (fun (s2:B8)=>((0<=(0:Int)/\(0:Int)<(s2.length:Int))/\((0<=b/\b<(c.length:Int))/\BId (((List.getD s2 (Int.toNat (0:Int)) 0).toNat:Int)=((List.getD c b.toNat 0).toNat:Int)) (need (isPtr a) (need (isPtr a) (At (Ag d [] (.t (Bo a 0)) 0) (fun (x3:TV)=>Au .str x3 (fun (s3:B8)=>((0<=(1:Int)/\(1:Int)<=(s3.length:Int))/\need (isPtr a) (need (isPtr a) (stB d (Bo a 0) [(.str (List.drop (Int.toNat (1:Int)) s3))] (fun f=>((0<=b/\b<(c.length:Int))/\K (((List.getD c b.toNat 0).toNat:Int)) f)))))))))) ((I1 ((i64.wrap (b+(1:Int)))) a c e d/\M1 ((i64.wrap (b+(1:Int)))) a c e d<M1 b a c e d))))))))) (need (isPtr a) (need (isPtr a) (stB d (Bo a 1) [.bool true] (fun g=>K 0 g)))))) (stB st (.box r 1) [.bool true] (fun i=>K 0 i))))):CallT PR Ap [(.box r 0),.str of] [.one (.int .u8)] st K:=
 Ad (cfg:=⟨[],[],[]⟩) (h:=(.seq .none (.seq (.seq .none (.cond (.seq .none (.block (.loop ⟨[(13,.int .i64),(0,.tv),(1,.str),(12,.int .i64)],[],[],[]⟩ .none))) .none)) .none))) mixed (fun _ _=>Tryz.call220 _ _) Tryz.func220 (by kernel_rfl) (by kernel_rfl) h
theorem D9 (r:Nat) (f:Nat) (st:St) (K:St->Prop) (h:CallT PR Ap [(.box r 0),.str str55] [.one (.int .u8)] st (fun (n1:Int) l=>stB l (.box f 7) [.int .u8 n1] (fun a=>At (Ag a [] (.t (.box f 7)) 0) (fun (x1:TV)=>Au (.int .u8) x1 (fun (n2:Int)=>BId (n2=43) (CallT PR Al [(.box r 0),.int .i64 2] [.one (.int .i64)] a (fun (n3:Int) g=>stB g (.box f 8) [.int .i64 n3] (fun n=>CallT PR Ap [(.box r 0),.str MG] [.one (.int .u8)] n (fun (n4:Int) j=>CallT PR Al [(.box r 0),.int .i64 2] [.one (.int .i64)] j (fun (n5:Int) m=>stB m (.box f 9) [.int .i64 n5] (fun i=>K i)))))) (At (Ag a [] (.t (.box f 7)) 0) (fun (x2:TV)=>Au (.int .u8) x2 (fun (n6:Int)=>BId (n6=45) (CallT PR Al [(.box r 0),.int .i64 2] [.one (.int .i64)] a (fun (n7:Int) e=>stB e (.box f 8) [.int .i64 n7] (fun k=>CallT PR Ap [(.box r 0),.str MG] [.one (.int .u8)] k (fun (n8:Int) b=>CallT PR Al [(.box r 0),.int .i64 2] [.one (.int .i64)] b (fun (n9:Int) c=>stB c (.box f 9) [.int .i64 n9] (fun d=>K d)))))) (K a))))))))):CallT PR A0 [(.box r 0),(.box f 0)] [] st K:=
 Ad (cfg:=⟨[],[],[]⟩) (h:= .none) mixed (fun _ _=>Tryz.call221 _ _) Tryz.func221 (by kernel_rfl) (by kernel_rfl) h
theorem GK (year:Int) (month:Int) (st:St) (K:Int->St->Prop) (h:CallT PR BP [.int .i64 year] [.one .bool] st (fun (b1:Bool) a=>BIf (!b1) (K 0 a) (BId (month<1) (K 0 a) (BId ((12:Int)<month) (K 0 a) (BId (month=2) (CallT PR CP [.int .i64 year] [.one .bool] a (fun (b2:Bool) b=>BIf b2 (K 29 b) (((0<=(i64.wrap (month-(1:Int)))/\(i64.wrap (month-(1:Int)))<((12:Nat):Int))/\At ((([.int .i64 31,.int .i64 28,.int .i64 31,.int .i64 30,.int .i64 31,.int .i64 30,.int .i64 31,.int .i64 31,.int .i64 30,.int .i64 31,.int .i64 30,.int .i64 31]:List TV)[(0+(Int.toNat (i64.wrap (month-(1:Int))))*1)+0]?)) (fun (x1:TV)=>Au (.int .i64) x1 (fun (n1:Int)=>K n1 b)))))) (((0<=(i64.wrap (month-(1:Int)))/\(i64.wrap (month-(1:Int)))<((12:Nat):Int))/\At ((([.int .i64 31,.int .i64 28,.int .i64 31,.int .i64 30,.int .i64 31,.int .i64 30,.int .i64 31,.int .i64 31,.int .i64 30,.int .i64 31,.int .i64 30,.int .i64 31]:List TV)[(0+(Int.toNat (i64.wrap (month-(1:Int))))*1)+0]?)) (fun (x2:TV)=>Au (.int .i64) x2 (fun (n2:Int)=>K n2 a))))))))):CallT PR BQ [.int .i64 year,.int .i64 month] [.one (.int .i64)] st K:=
 Ad (cfg:=⟨[5],[],[]⟩) (h:= .none) mixed (fun _ _=>Tryz.call222 _ _) Tryz.func222 (by kernel_rfl) (by kernel_rfl) h
theorem GJ (year:Int) (st:St) (K:Int->St->Prop) (h:K ((i64.wrap ((i64.wrap ((i64.wrap ((i64.wrap ((365:Int)*(i64.wrap (year-(1:Int)))))+(i64.wrap (Int.tdiv (i64.wrap (year-(1:Int))) (4:Int)))))-(i64.wrap (Int.tdiv (i64.wrap (year-(1:Int))) (100:Int)))))+(i64.wrap (Int.tdiv (i64.wrap (year-(1:Int))) (400:Int)))))) st):CallT PR Cz [.int .i64 year] [.one (.int .i64)] st K:=
 Ad (cfg:=⟨[],[],[]⟩) (h:= .none) mixed (fun _ _=>Tryz.call223 _ _) Tryz.func223 (by kernel_rfl) (by kernel_rfl) h
theorem Es (s:B8) (i:Int) (st:St) (K:B8->Int->Int->St->Prop) (h:∃(I1:Int->B8->B8->St->Prop) (M1:Int->B8->B8->St->Nat),(I1 ((i64.wrap (i+(1:Int)))) [] s st)/\∀b a c d,I1 b a c d->(BId ((c.length:Int)<=b) (K [] 0 4 d) (((0<=b/\b<(c.length:Int))/\BId (((List.getD c b.toNat 0).toNat:Int)=(34:Int)) (K a ((i64.wrap (b+(1:Int)))) 0 d) (((0<=b/\b<(c.length:Int))/\BId (((List.getD c b.toNat 0).toNat:Int)=(92:Int)) (CallT PR Bz [.str c,.int .i64 b] [.one (.int .i64),.one (.int .i64),.one (.int .i64)] d (fun (n1 n2 n3:Int) f=>BId (n3≠0) (K [] 0 n3 f) (CallT PR Ar [.int .i64 n1] [.one .str,.one (.int .i64)] f (fun (s1:B8) (n4:Int) g=>(a.length+s1.length<=9223372036854775807/\(I1 ((i64.wrap (b+n2))) ((a++s1)) c g/\M1 ((i64.wrap (b+n2))) ((a++s1)) c g<M1 b a c d)))))) (CallT PR AR [.str c,.int .i64 b] [.one (.int .i64),.one (.int .i64)] d (fun (n5 n6:Int) e=>BId (n6=0) (BId ((5:Int)≠(0:Int)) (K [] 0 5 e) (CallT PR Ar [.int .i64 n5] [.one .str,.one (.int .i64)] e (fun (s2:B8) (n7:Int) k=>(a.length+s2.length<=9223372036854775807/\(I1 ((i64.wrap (b+n6))) ((a++s2)) c k/\M1 ((i64.wrap (b+n6))) ((a++s2)) c k<M1 b a c d))))) (BId (n5<32) (BId ((5:Int)≠(0:Int)) (K [] 0 5 e) (CallT PR Ar [.int .i64 n5] [.one .str,.one (.int .i64)] e (fun (s3:B8) (n8:Int) l=>(a.length+s3.length<=9223372036854775807/\(I1 ((i64.wrap (b+n6))) ((a++s3)) c l/\M1 ((i64.wrap (b+n6))) ((a++s3)) c l<M1 b a c d))))) (BId ((0:Int)≠(0:Int)) (K [] 0 0 e) (CallT PR Ar [.int .i64 n5] [.one .str,.one (.int .i64)] e (fun (s4:B8) (n9:Int) j=>(a.length+s4.length<=9223372036854775807/\(I1 ((i64.wrap (b+n6))) ((a++s4)) c j/\M1 ((i64.wrap (b+n6))) ((a++s4)) c j<M1 b a c d)))))))))))))):CallT PR BA [.str s,.int .i64 i] [.one .str,.one (.int .i64),.one (.int .i64)] st K:=
 Ad (cfg:=⟨[],[],[]⟩) (h:=(.seq .none (.seq .none (.seq .none (.block (.loop ⟨[(1,.int .i64),(7,.str),(0,.str)],[],[],[]⟩ .none)))))) mixed (fun _ _=>Tryz.call224 _ _) Tryz.func224 (by kernel_rfl) (by kernel_rfl) h
theorem Ex (s:B8) (atx:Int) (st:St) (K:Int->Int->St->Prop) (h:BId (atx<0) (K 0 0 st) (BId ((s.length:Int)<=atx) (K 0 0 st) (((0<=atx/\atx<(s.length:Int))/\∃(C1:Int->Int->B8->Int->St->Prop),(BId ((240:Int)<=(i64.wrap ((List.getD s atx.toNat 0).toNat:Int))) (C1 4 ((Ak .and .i64 (i64.wrap ((List.getD s atx.toNat 0).toNat:Int)) (7:Int))) s atx st) (BId ((224:Int)<=(i64.wrap ((List.getD s atx.toNat 0).toNat:Int))) (C1 3 ((Ak .and .i64 (i64.wrap ((List.getD s atx.toNat 0).toNat:Int)) (15:Int))) s atx st) (BId ((192:Int)<=(i64.wrap ((List.getD s atx.toNat 0).toNat:Int))) (C1 2 ((Ak .and .i64 (i64.wrap ((List.getD s atx.toNat 0).toNat:Int)) (31:Int))) s atx st) (C1 1 ((i64.wrap ((List.getD s atx.toNat 0).toNat:Int))) s atx st))))/\∀e m l i k,C1 e m l i k->(BId ((i64.wrap ((l.length:Int)-i))<e) (K 0 0 k) (∃(I1:Int->Int->B8->Int->Int->St->Prop) (M1:Int->Int->B8->Int->Int->St->Nat),(I1 m 1 l i e k)/\∀f c d b a g,I1 f c d b a g->(BId (c<a) (((0<=(i64.wrap (b+c))/\(i64.wrap (b+c))<(d.length:Int))/\(I1 ((Ak .or .i64 (i64.wrap (f*2^(min (Int.toNat (6:Int)) (IntKind.bits .i64)))) (Ak .and .i64 (i64.wrap ((List.getD d (Int.toNat (i64.wrap (b+c))) 0).toNat:Int)) (63:Int)))) ((i64.wrap (c+(1:Int)))) d b a g/\M1 ((Ak .or .i64 (i64.wrap (f*2^(min (Int.toNat (6:Int)) (IntKind.bits .i64)))) (Ak .and .i64 (i64.wrap ((List.getD d (Int.toNat (i64.wrap (b+c))) 0).toNat:Int)) (63:Int)))) ((i64.wrap (c+(1:Int)))) d b a g<M1 f c d b a g))) (CallT PR Ar [.int .i64 f] [.one .str,.one (.int .i64)] g (fun (s1:B8) (n1:Int) j=>BId (n1≠0) (K 0 0 j) (((0<=b/\b<=(i64.wrap (b+a))/\(i64.wrap (b+a))<=(d.length:Int))/\BId (s1≠(List.drop b.toNat (List.take (Int.toNat (i64.wrap (b+a))) d))) (K 0 0 j) (K f a j)))))))))))):CallT PR AR [.str s,.int .i64 atx] [.one (.int .i64),.one (.int .i64)] st K:=
 Ad (cfg:=⟨[],[],[]⟩) (h:=(.seq .none (.seq .none (.seq .none (.seq .none (.cut ⟨[(7,.int .i64),(8,.int .i64),(0,.str),(1,.int .i64)],[],[],[]⟩ .none (.seq .none (.seq (.seq .none (.block (.loop ⟨[(8,.int .i64),(9,.int .i64),(0,.str),(1,.int .i64),(7,.int .i64)],[],[],[]⟩ .none))) .none)))))))) mixed (fun _ _=>Tryz.call225 _ _) Tryz.func225 (by kernel_rfl) (by kernel_rfl) h
theorem E0 (c:Int) (st:St) (K:Bool->St->Prop) (h:BId ((48:Int)<=c) (K ((decide (c<=57))) st) (K false st)):CallT PR Bd [.int .u8 c] [.one .bool] st K:=
 Ad (cfg:=⟨[],[],[]⟩) (h:= .none) mixed (fun _ _=>Tryz.call226 _ _) Tryz.func226 (by kernel_rfl) (by kernel_rfl) h
theorem Fb (s:B8) (st:St) (K:B8->St->Prop) (h:∃(I1:Int->B8->St->Prop) (M1:Int->B8->St->Nat),(I1 0 s st)/\∀a b c,I1 a b c->(BId (a<(b.length:Int)) (((0<=a/\a<(b.length:Int))/\BId (((List.getD b a.toNat 0).toNat:Int)=(48:Int)) ((I1 ((i64.wrap (a+(1:Int)))) b c/\M1 ((i64.wrap (a+(1:Int)))) b c<M1 a b c)) (((0<=a/\a<=(b.length:Int))/\K ((List.drop a.toNat b)) c)))) (((0<=a/\a<=(b.length:Int))/\K ((List.drop a.toNat b)) c)))):CallT PR Bg [.str s] [.one .str] st K:=
 Ad (cfg:=⟨[],[],[]⟩) (h:=(.seq .none (.seq .none (.seq (.block (.loop ⟨[(3,.int .i64),(0,.str)],[],[],[]⟩ .none)) .none)))) mixed (fun _ _=>Tryz.call227 _ _) Tryz.func227 (by kernel_rfl) (by kernel_rfl) h
theorem Fa (s:B8) (st:St) (K:Int->Int->St->Prop) (h:CallT PR BM [.str s] [.one .bool] st (fun (b1:Bool) i=>BIf (!b1) (K 0 3 i) (BId ((19:Int)<(s.length:Int)) (K 0 2 i) (BId ((s.length:Int)=(19:Int)) (BIf (!(Op.bytesLess s str56 || decide (s=str56))) (K 0 2 i) (∃(I1:Int->Int->B8->St->Prop) (M1:Int->Int->B8->St->Nat),(I1 0 0 s i)/\∀g a c e,I1 g a c e->(BId (a<(c.length:Int)) (((0<=a/\a<(c.length:Int))/\(I1 ((i64.wrap ((i64.wrap ((i64.wrap ((10:Int)*g))+(i64.wrap ((List.getD c a.toNat 0).toNat:Int))))-(48:Int)))) ((i64.wrap (a+(1:Int)))) c e/\M1 ((i64.wrap ((i64.wrap ((i64.wrap ((10:Int)*g))+(i64.wrap ((List.getD c a.toNat 0).toNat:Int))))-(48:Int)))) ((i64.wrap (a+(1:Int)))) c e<M1 g a c e))) (K g 0 e)))) (∃(I2:Int->Int->B8->St->Prop) (M2:Int->Int->B8->St->Nat),(I2 0 0 s i)/\∀j b d f,I2 j b d f->(BId (b<(d.length:Int)) (((0<=b/\b<(d.length:Int))/\(I2 ((i64.wrap ((i64.wrap ((i64.wrap ((10:Int)*j))+(i64.wrap ((List.getD d b.toNat 0).toNat:Int))))-(48:Int)))) ((i64.wrap (b+(1:Int)))) d f/\M2 ((i64.wrap ((i64.wrap ((i64.wrap ((10:Int)*j))+(i64.wrap ((List.getD d b.toNat 0).toNat:Int))))-(48:Int)))) ((i64.wrap (b+(1:Int)))) d f<M2 j b d f))) (K j 0 f))))))):CallT PR BN [.str s] [.one (.int .i64),.one (.int .i64)] st K:=
 Ad (cfg:=⟨[],[],[]⟩) (h:=(.seq .none (.seq .none (.seq .none (.seq .none (.seq (.seq .none (.block (.loop ⟨[(4,.int .i64),(5,.int .i64),(0,.str)],[],[],[]⟩ .none))) .none)))))) mixed (fun _ _=>Tryz.call228 _ _) Tryz.func228 (by kernel_rfl) (by kernel_rfl) h
theorem E8 (a:B8) (st:St) (K:Int->St->Prop) (h:∃(I1:Int->B8->St->Prop) (M1:Int->B8->St->Nat),(I1 0 a st)/\∀c b d,I1 c b d->(BId (c<(b.length:Int)) (((0<=(i64.wrap ((i64.wrap ((b.length:Int)-(1:Int)))-c))/\(i64.wrap ((i64.wrap ((b.length:Int)-(1:Int)))-c))<(b.length:Int))/\BId (((List.getD b (Int.toNat (i64.wrap ((i64.wrap ((b.length:Int)-(1:Int)))-c))) 0).toNat:Int)=(48:Int)) ((I1 ((i64.wrap (c+(1:Int)))) b d/\M1 ((i64.wrap (c+(1:Int)))) b d<M1 c b d)) (K c d))) (K c d))):CallT PR BL [.str a] [.one (.int .i64)] st K:=
 Ad (cfg:=⟨[],[],[]⟩) (h:=(.seq .none (.seq .none (.seq (.block (.loop ⟨[(3,.int .i64),(0,.str)],[],[],[]⟩ .none)) .none)))) mixed (fun _ _=>Tryz.call229 _ _) Tryz.func229 (by kernel_rfl) (by kernel_rfl) h
theorem E5 (year:Int) (month:Int) (st:St) (K:Int->St->Prop) (h:BId (year<1) (K 0 st) (BId ((9999:Int)<year) (K 0 st) (∃(C1:Bool->Int->Int->St->Prop),(BId (month=1) (C1 ((decide (month=1))) year month st) (BId (month=3) (C1 ((decide (month=3))) year month st) (BId (month=5) (C1 ((decide (month=5))) year month st) (BId (month=7) (C1 ((decide (month=7))) year month st) (BId (month=8) (C1 ((decide (month=8))) year month st) (BId (month=10) (C1 ((decide (month=10))) year month st) (C1 ((decide (month=12))) year month st)))))))/\∀g c b a,C1 g c b a->(BIf g (K 31 a) (BId (b=4) (BId (b=4) (K 30 a) (BId (b=2) (CallT PR AN [.int .i64 c] [.one .bool] a (fun (b1:Bool) d=>BIf b1 (K 29 d) (K 28 d))) (K 0 a))) (BId (b=6) (BId (b=6) (K 30 a) (BId (b=2) (CallT PR AN [.int .i64 c] [.one .bool] a (fun (b2:Bool) e=>BIf b2 (K 29 e) (K 28 e))) (K 0 a))) (BId (b=9) (BId (b=9) (K 30 a) (BId (b=2) (CallT PR AN [.int .i64 c] [.one .bool] a (fun (b3:Bool) i=>BIf b3 (K 29 i) (K 28 i))) (K 0 a))) (BId (b=11) (K 30 a) (BId (b=2) (CallT PR AN [.int .i64 c] [.one .bool] a (fun (b4:Bool) f=>BIf b4 (K 29 f) (K 28 f))) (K 0 a)))))))))):CallT PR AT [.int .i64 year,.int .i64 month] [.one (.int .i64)] st K:=
 Ad (cfg:=⟨[],[],[]⟩) (h:=(.seq .none (.seq .none (.seq (.seq .none (.block (.cut ⟨[(12,.bool),(0,.int .i64),(11,.int .i64)],[],[],[]⟩ .none .none))) .none)))) mixed (fun _ _=>Tryz.call230 _ _) Tryz.func230 (by kernel_rfl) (by kernel_rfl) h
theorem Ev (year:Int) (st:St) (K:Int->St->Prop) (h:∃(I1:Int->Int->Int->St->Prop) (M1:Int->Int->Int->St->Nat),(I1 0 1 year st)/\∀c b a d,I1 c b a d->(BId (b<a) (CallT PR BB [.int .i64 b] [.one (.int .i64)] d (fun (n1:Int) e=>(I1 ((i64.wrap (c+n1))) ((i64.wrap (b+(1:Int)))) a e/\M1 ((i64.wrap (c+n1))) ((i64.wrap (b+(1:Int)))) a e<M1 c b a d))) (K c d))):CallT PR BC [.int .i64 year] [.one (.int .i64)] st K:=
 Ad (cfg:=⟨[],[],[]⟩) (h:=(.seq .none (.seq .none (.seq (.seq .none (.block (.loop ⟨[(3,.int .i64),(4,.int .i64),(0,.int .i64)],[],[],[]⟩ .none))) .none)))) mixed (fun _ _=>Tryz.call231 _ _) Tryz.func231 (by kernel_rfl) (by kernel_rfl) h
theorem H4 (s:B8) (st:St) (K:Bool->St->Prop) (h:BId ((s.length:Int)<=(600:Int)) (CallT PR DZ [.str s] [.one .bool] st (fun (b1:Bool) a=>BIf b1 (BId (s=([]:B8)) (K true a) (((0<=(0:Int)/\(0:Int)<(s.length:Int))/\K ((decide (((List.getD s (Int.toNat (0:Int)) 0).toNat:Int)≠(48:Int)))) a))) (K false a))) (K false st)):CallT PR C0 [.str s] [.one .bool] st K:=
 Ad (cfg:=⟨[],[],[]⟩) (h:= .none) mixed (fun _ _=>Tryz.call232 _ _) Tryz.func232 (by kernel_rfl) (by kernel_rfl) h
theorem Eu (year:Int) (st:St) (K:Int->St->Prop) (h:∃(I1:Int->Int->Int->St->Prop) (M1:Int->Int->Int->St->Nat),(I1 0 1 year st)/\∀c b a d,I1 c b a d->(BId (b<=12) (CallT PR AT [.int .i64 a,.int .i64 b] [.one (.int .i64)] d (fun (n1:Int) e=>(I1 ((i64.wrap (c+n1))) ((i64.wrap (b+(1:Int)))) a e/\M1 ((i64.wrap (c+n1))) ((i64.wrap (b+(1:Int)))) a e<M1 c b a d))) (K c d))):CallT PR BB [.int .i64 year] [.one (.int .i64)] st K:=
 Ad (cfg:=⟨[],[],[]⟩) (h:=(.seq .none (.seq .none (.seq (.seq .none (.block (.loop ⟨[(3,.int .i64),(4,.int .i64),(0,.int .i64)],[],[],[]⟩ .none))) .none)))) mixed (fun _ _=>Tryz.call246 _ _) Tryz.func246 (by kernel_rfl) (by kernel_rfl) h
theorem FT (s:B8) (p:B8) (st:St) (K:Bool->St->Prop) (h:BId ((s.length:Int)<(p.length:Int)) (K false st) (∃(I1:Int->B8->B8->St->Prop) (M1:Int->B8->B8->St->Nat),(I1 0 s p st)/\∀a c b d,I1 a c b d->(BId (a<(b.length:Int)) (((0<=a/\a<(b.length:Int))/\BId (((List.getD b a.toNat 0).toNat:Int)=(48:Int)) (((0<=a/\a<(c.length:Int))/\BId (((List.getD c a.toNat 0).toNat:Int)<(48:Int)) (K false d) (((0<=a/\a<(c.length:Int))/\BId ((57:Int)<((List.getD c a.toNat 0).toNat:Int)) (K false d) (((0<=a/\a<(b.length:Int))/\BId (((List.getD b a.toNat 0).toNat:Int)≠(48:Int)) (((0<=a/\a<(c.length:Int))/\((0<=a/\a<(b.length:Int))/\BId (((List.getD c a.toNat 0).toNat:Int)≠((List.getD b a.toNat 0).toNat:Int)) (K false d) ((I1 ((i64.wrap (a+(1:Int)))) c b d/\M1 ((i64.wrap (a+(1:Int)))) c b d<M1 a c b d))))) ((I1 ((i64.wrap (a+(1:Int)))) c b d/\M1 ((i64.wrap (a+(1:Int)))) c b d<M1 a c b d)))))))) (((0<=a/\a<(b.length:Int))/\BId (((List.getD b a.toNat 0).toNat:Int)≠(48:Int)) (((0<=a/\a<(c.length:Int))/\((0<=a/\a<(b.length:Int))/\BId (((List.getD c a.toNat 0).toNat:Int)≠((List.getD b a.toNat 0).toNat:Int)) (K false d) ((I1 ((i64.wrap (a+(1:Int)))) c b d/\M1 ((i64.wrap (a+(1:Int)))) c b d<M1 a c b d))))) ((I1 ((i64.wrap (a+(1:Int)))) c b d/\M1 ((i64.wrap (a+(1:Int)))) c b d<M1 a c b d)))))) (K true d)))):CallT PR Bp [.str s,.str p] [.one .bool] st K:=
 Ad (cfg:=⟨[],[],[]⟩) (h:=(.seq .none (.seq .none (.seq (.seq .none (.block (.loop ⟨[(5,.int .i64),(0,.str),(1,.str)],[],[],[]⟩ .none))) .none)))) mixed (fun _ _=>Tryz.call279 _ _) Tryz.func279 (by kernel_rfl) (by kernel_rfl) h
theorem H1 (s:B8) (i:Int) (st:St) (K:Int->Int->St->Prop) (h:∃(I1:Int->Int->B8->Int->St->Prop) (M1:Int->Int->B8->Int->St->Nat),(I1 0 i s i st)/\∀d a b c e,I1 d a b c e->(BId (a<(i64.wrap (c+(4:Int)))) (BId ((b.length:Int)<=a) (K 0 4 e) (((0<=a/\a<(b.length:Int))/\CallT PR AL [.str N0,(.int .u8 ((List.getD b a.toNat 0).toNat:Int))] [.one (.int .i64)] e (fun (n1:Int) f=>BId (n1<0) (K 0 3 f) (BId ((16:Int)<=n1) ((I1 ((i64.wrap ((i64.wrap (d*(16:Int)))+(i64.wrap (n1-(6:Int)))))) ((i64.wrap (a+(1:Int)))) b c f/\M1 ((i64.wrap ((i64.wrap (d*(16:Int)))+(i64.wrap (n1-(6:Int)))))) ((i64.wrap (a+(1:Int)))) b c f<M1 d a b c e)) ((I1 ((i64.wrap ((i64.wrap (d*(16:Int)))+n1))) ((i64.wrap (a+(1:Int)))) b c f/\M1 ((i64.wrap ((i64.wrap (d*(16:Int)))+n1))) ((i64.wrap (a+(1:Int)))) b c f<M1 d a b c e))))))) (K d 0 e))):CallT PR Bl [.str s,.int .i64 i] [.one (.int .i64),.one (.int .i64)] st K:=
 Ad (cfg:=⟨[],[],[]⟩) (h:=(.seq .none (.seq .none (.seq (.seq .none (.block (.loop ⟨[(6,.int .i64),(7,.int .i64),(0,.str),(1,.int .i64)],[],[],[]⟩ .none))) .none)))) mixed (fun _ _=>Tryz.call280 _ _) Tryz.func280 (by kernel_rfl) (by kernel_rfl) h
theorem Ea (r:Nat) (width:Int) (st:St) (K:Int->St->Prop) (h:At (Ag st [] (.t (.box r 0)) 0) (fun (x1:TV)=>Au .str x1 (fun (s1:B8)=>BId ((s1.length:Int)<width) (stB st (.box r 1) [.bool true] (fun j=>K 0 j)) (∃(I1:Int->Int->TV->Int->Int->St->Prop) (M1:Int->Int->TV->Int->Int->St->Nat),(I1 0 0 ((.box r 0)) width width st)/\∀f c a b e d,I1 f c a b e d->(BId (c<e) (need (isPtr a) (need (isPtr a) (At (Ag d [] (.t (Bo a 0)) 0) (fun (x2:TV)=>Au .str x2 (fun (s2:B8)=>((0<=c/\c<(s2.length:Int))/\BId (((List.getD s2 c.toNat 0).toNat:Int)<(48:Int)) (need (isPtr a) (need (isPtr a) (stB d (Bo a 1) [.bool true] (fun g=>K 0 g)))) (need (isPtr a) (need (isPtr a) (At (Ag d [] (.t (Bo a 0)) 0) (fun (x3:TV)=>Au .str x3 (fun (s3:B8)=>((0<=c/\c<(s3.length:Int))/\BId ((57:Int)<((List.getD s3 c.toNat 0).toNat:Int)) (need (isPtr a) (need (isPtr a) (stB d (Bo a 1) [.bool true] (fun k=>K 0 k)))) (need (isPtr a) (need (isPtr a) (At (Ag d [] (.t (Bo a 0)) 0) (fun (x4:TV)=>Au .str x4 (fun (s4:B8)=>((0<=c/\c<(s4.length:Int))/\(I1 ((i64.wrap ((i64.wrap ((10:Int)*f))+(i64.wrap (u8.wrap (((List.getD s4 c.toNat 0).toNat:Int)-(48:Int))))))) ((i64.wrap (c+(1:Int)))) a b e d/\M1 ((i64.wrap ((i64.wrap ((10:Int)*f))+(i64.wrap (u8.wrap (((List.getD s4 c.toNat 0).toNat:Int)-(48:Int))))))) ((i64.wrap (c+(1:Int)))) a b e d<M1 f c a b e d))))))))))))))))))) (need (isPtr a) (need (isPtr a) (At (Ag d [] (.t (Bo a 0)) 0) (fun (x5:TV)=>Au .str x5 (fun (s5:B8)=>((0<=b/\b<=(s5.length:Int))/\need (isPtr a) (need (isPtr a) (stB d (Bo a 0) [(.str (List.drop b.toNat s5))] (fun i=>K f i)))))))))))))):CallT PR Al [(.box r 0),.int .i64 width] [.one (.int .i64)] st K:=
 Ad (cfg:=⟨[],[],[]⟩) (h:=(.seq .none (.seq .none (.seq .none (.seq (.seq .none (.block (.loop ⟨[(5,.int .i64),(18,.int .i64),(0,.tv),(1,.int .i64),(17,.int .i64)],[],[],[]⟩ .none))) .none))))) mixed (fun _ _=>Tryz.call285 _ _) Tryz.func285 (by kernel_rfl) (by kernel_rfl) h
theorem DH (r:Nat) (st:St) (K:Int->St->Prop) (h:∃(I1:Int->Int->TV->St->Prop) (M1:Int->Int->TV->St->Nat),(I1 0 0 ((.box r 0)) st)/\∀d b a c,I1 d b a c->(need (isPtr a) (need (isPtr a) (At (Ag c [] (.t (Bo a 0)) 0) (fun (x1:TV)=>Au .str x1 (fun (s1:B8)=>BId (b<(s1.length:Int)) (need (isPtr a) (need (isPtr a) (At (Ag c [] (.t (Bo a 0)) 0) (fun (x2:TV)=>Au .str x2 (fun (s2:B8)=>((0<=b/\b<(s2.length:Int))/\BId ((48:Int)<=((List.getD s2 b.toNat 0).toNat:Int)) (need (isPtr a) (need (isPtr a) (At (Ag c [] (.t (Bo a 0)) 0) (fun (x3:TV)=>Au .str x3 (fun (s3:B8)=>((0<=b/\b<(s3.length:Int))/\BId (((List.getD s3 b.toNat 0).toNat:Int)<=(57:Int)) (BId (b<9) (need (isPtr a) (need (isPtr a) (At (Ag c [] (.t (Bo a 0)) 0) (fun (x4:TV)=>Au .str x4 (fun (s4:B8)=>((0<=b/\b<(s4.length:Int))/\(I1 ((i64.wrap ((i64.wrap ((10:Int)*d))+(i64.wrap (u8.wrap (((List.getD s4 b.toNat 0).toNat:Int)-(48:Int))))))) ((i64.wrap (b+(1:Int)))) a c/\M1 ((i64.wrap ((i64.wrap ((10:Int)*d))+(i64.wrap (u8.wrap (((List.getD s4 b.toNat 0).toNat:Int)-(48:Int))))))) ((i64.wrap (b+(1:Int)))) a c<M1 d b a c))))))) ((I1 d ((i64.wrap (b+(1:Int)))) a c/\M1 d ((i64.wrap (b+(1:Int)))) a c<M1 d b a c))) (BId (b<1) (need (isPtr a) (need (isPtr a) (stB c (Bo a 1) [.bool true] (fun s=>K 0 s)))) (BId ((9:Int)<b) (need (isPtr a) (need (isPtr a) (stB c (Bo a 1) [.bool true] (fun u=>K 0 u)))) (need (isPtr a) (need (isPtr a) (At (Ag c [] (.t (Bo a 0)) 0) (fun (x5:TV)=>Au .str x5 (fun (s5:B8)=>((0<=b/\b<=(s5.length:Int))/\need (isPtr a) (need (isPtr a) (stB c (Bo a 0) [(.str (List.drop b.toNat s5))] (fun v=>∃(I2:Int->Int->St->Prop) (M2:Int->Int->St->Nat),(I2 d b v)/\∀j k f,I2 j k f->(BId (k<9) ((I2 ((i64.wrap (j*(10:Int)))) ((i64.wrap (k+(1:Int)))) f/\M2 ((i64.wrap (j*(10:Int)))) ((i64.wrap (k+(1:Int)))) f<M2 j k f)) (K j f))))))))))))))))))) (BId (b<1) (need (isPtr a) (need (isPtr a) (stB c (Bo a 1) [.bool true] (fun w=>K 0 w)))) (BId ((9:Int)<b) (need (isPtr a) (need (isPtr a) (stB c (Bo a 1) [.bool true] (fun y=>K 0 y)))) (need (isPtr a) (need (isPtr a) (At (Ag c [] (.t (Bo a 0)) 0) (fun (x6:TV)=>Au .str x6 (fun (s6:B8)=>((0<=b/\b<=(s6.length:Int))/\need (isPtr a) (need (isPtr a) (stB c (Bo a 0) [(.str (List.drop b.toNat s6))] (fun x=>∃(I3:Int->Int->St->Prop) (M3:Int->Int->St->Nat),(I3 d b x)/\∀l m i,I3 l m i->(BId (m<9) ((I3 ((i64.wrap (l*(10:Int)))) ((i64.wrap (m+(1:Int)))) i/\M3 ((i64.wrap (l*(10:Int)))) ((i64.wrap (m+(1:Int)))) i<M3 l m i)) (K l i))))))))))))))))))) (BId (b<1) (need (isPtr a) (need (isPtr a) (stB c (Bo a 1) [.bool true] (fun p=>K 0 p)))) (BId ((9:Int)<b) (need (isPtr a) (need (isPtr a) (stB c (Bo a 1) [.bool true] (fun o=>K 0 o)))) (need (isPtr a) (need (isPtr a) (At (Ag c [] (.t (Bo a 0)) 0) (fun (x7:TV)=>Au .str x7 (fun (s7:B8)=>((0<=b/\b<=(s7.length:Int))/\need (isPtr a) (need (isPtr a) (stB c (Bo a 0) [(.str (List.drop b.toNat s7))] (fun q=>∃(I4:Int->Int->St->Prop) (M4:Int->Int->St->Nat),(I4 d b q)/\∀g n e,I4 g n e->(BId (n<9) ((I4 ((i64.wrap (g*(10:Int)))) ((i64.wrap (n+(1:Int)))) e/\M4 ((i64.wrap (g*(10:Int)))) ((i64.wrap (n+(1:Int)))) e<M4 g n e)) (K g e))))))))))))))))))):CallT PR Bj [(.box r 0)] [.one (.int .i64)] st K:=
 Ad (cfg:=⟨[],[],[]⟩) (h:=(.seq .none (.seq .none (.seq (.block (.loop ⟨[(3,.int .i64),(4,.int .i64),(0,.tv)],[],[],[]⟩ .none)) (.seq .none (.seq .none (.seq (.block (.loop ⟨[(3,.int .i64),(4,.int .i64)],[],[],[]⟩ .none)) .none))))))) mixed (fun _ _=>Tryz.call286 _ _) Tryz.func286 (by kernel_rfl) (by kernel_rfl) h
theorem GI (year:Int) (st:St) (K:Bool->St->Prop) (h:BId ((1:Int)<=year) (K ((decide (year<=9999))) st) (K false st)):CallT PR BP [.int .i64 year] [.one .bool] st K:=
 Ad (cfg:=⟨[],[],[]⟩) (h:= .none) mixed (fun _ _=>Tryz.call287 _ _) Tryz.func287 (by kernel_rfl) (by kernel_rfl) h
theorem Hj (year:Int) (st:St) (K:Bool->St->Prop) (h:CallT PR BP [.int .i64 year] [.one .bool] st (fun (b1:Bool) a=>BIf b1 (BId ((Int.tmod year (4:Int))=(0:Int)) (BId ((Int.tmod year (100:Int))≠(0:Int)) (K true a) (K ((decide ((Int.tmod year (400:Int))=(0:Int)))) a)) (K false a)) (K false a))):CallT PR CP [.int .i64 year] [.one .bool] st K:=
 Ad (cfg:=⟨[],[],[]⟩) (h:= .none) mixed (fun _ _=>Tryz.call288 _ _) Tryz.func288 (by kernel_rfl) (by kernel_rfl) h
theorem Er (s:B8) (i:Int) (st:St) (K:Int->Int->Int->St->Prop) (h:BId ((s.length:Int)<=(i64.wrap (i+(1:Int)))) (K 0 0 4 st) (((0<=(i64.wrap (i+(1:Int)))/\(i64.wrap (i+(1:Int)))<(s.length:Int))/\∃(C1:Bool->B8->Int->Int->St->Prop),(BId (((List.getD s (Int.toNat (i64.wrap (i+(1:Int)))) 0).toNat:Int)=(34:Int)) (C1 ((decide (((List.getD s (Int.toNat (i64.wrap (i+(1:Int)))) 0).toNat:Int)=(34:Int)))) s i (((List.getD s (Int.toNat (i64.wrap (i+(1:Int)))) 0).toNat:Int)) st) (BId (((List.getD s (Int.toNat (i64.wrap (i+(1:Int)))) 0).toNat:Int)=(92:Int)) (C1 ((decide (((List.getD s (Int.toNat (i64.wrap (i+(1:Int)))) 0).toNat:Int)=(92:Int)))) s i (((List.getD s (Int.toNat (i64.wrap (i+(1:Int)))) 0).toNat:Int)) st) (C1 ((decide (((List.getD s (Int.toNat (i64.wrap (i+(1:Int)))) 0).toNat:Int)=(47:Int)))) s i (((List.getD s (Int.toNat (i64.wrap (i+(1:Int)))) 0).toNat:Int)) st)))/\∀e d c b a,C1 e d c b a->(BIf e (((0<=(i64.wrap (c+(1:Int)))/\(i64.wrap (c+(1:Int)))<(d.length:Int))/\K ((i64.wrap ((List.getD d (Int.toNat (i64.wrap (c+(1:Int)))) 0).toNat:Int))) 2 0 a)) (BId (b=98) (K 8 2 0 a) (BId (b=102) (K 12 2 0 a) (BId (b=110) (K 10 2 0 a) (BId (b=114) (K 13 2 0 a) (BId (b=116) (K 9 2 0 a) (BId (b=117) (CallT PR BW [.str d,.int .i64 c] [.one (.int .i64),.one (.int .i64),.one (.int .i64)] a (fun (n1 n2 n3:Int) f=>K n1 n2 n3 f)) (K 0 0 3 a))))))))))):CallT PR Bz [.str s,.int .i64 i] [.one (.int .i64),.one (.int .i64),.one (.int .i64)] st K:=
 Ad (cfg:=⟨[],[],[]⟩) (h:=(.seq .none (.seq .none (.seq (.seq .none (.block (.cut ⟨[(16,.bool),(0,.str),(1,.int .i64),(15,.int .u8)],[],[],[]⟩ .none .none))) .none)))) mixed (fun _ _=>Tryz.call289 _ _) Tryz.func289 (by kernel_rfl) (by kernel_rfl) h
theorem Ew (r:Int) (st:St) (K:B8->Int->St->Prop) (h:CallT PR Bk [.int .i64 r] [.one .bool] st (fun (b1:Bool) a=>BIf (!b1) (K [] 2 a) (BId (r<128) (At ((toBytes a (.list 1 .full 1 [(.int .u8 (u8.wrap r))])).map TV.str) (fun (x1:TV)=>Au .str x1 (fun (s1:B8)=>K s1 0 a))) (BId (r<2048) (At ((toBytes a (.list 1 .full 2 [(.int .u8 (u8.wrap (Ak .or .i64 (192:Int) (Int.fdiv r (2^(min (Int.toNat (6:Int)) (IntKind.bits .i64))))))),(.int .u8 (u8.wrap (Ak .or .i64 (128:Int) (Ak .and .i64 r (63:Int)))))])).map TV.str) (fun (x2:TV)=>Au .str x2 (fun (s2:B8)=>K s2 0 a))) (BId (r<65536) (At ((toBytes a (.list 1 .full 3 [(.int .u8 (u8.wrap (Ak .or .i64 (224:Int) (Int.fdiv r (2^(min (Int.toNat (12:Int)) (IntKind.bits .i64))))))),(.int .u8 (u8.wrap (Ak .or .i64 (128:Int) (Ak .and .i64 (Int.fdiv r (2^(min (Int.toNat (6:Int)) (IntKind.bits .i64)))) (63:Int))))),(.int .u8 (u8.wrap (Ak .or .i64 (128:Int) (Ak .and .i64 r (63:Int)))))])).map TV.str) (fun (x3:TV)=>Au .str x3 (fun (s3:B8)=>K s3 0 a))) (At ((toBytes a (.list 1 .full 4 [(.int .u8 (u8.wrap (Ak .or .i64 (240:Int) (Int.fdiv r (2^(min (Int.toNat (18:Int)) (IntKind.bits .i64))))))),(.int .u8 (u8.wrap (Ak .or .i64 (128:Int) (Ak .and .i64 (Int.fdiv r (2^(min (Int.toNat (12:Int)) (IntKind.bits .i64)))) (63:Int))))),(.int .u8 (u8.wrap (Ak .or .i64 (128:Int) (Ak .and .i64 (Int.fdiv r (2^(min (Int.toNat (6:Int)) (IntKind.bits .i64)))) (63:Int))))),(.int .u8 (u8.wrap (Ak .or .i64 (128:Int) (Ak .and .i64 r (63:Int)))))])).map TV.str) (fun (x4:TV)=>Au .str x4 (fun (s4:B8)=>K s4 0 a)))))))):CallT PR Ar [.int .i64 r] [.one .str,.one (.int .i64)] st K:=
 Ad (cfg:=⟨[],[],[]⟩) (h:= .none) mixed (fun _ _=>Tryz.call290 _ _) Tryz.func290 (by kernel_rfl) (by kernel_rfl) h
theorem E9 (s:B8) (st:St) (K:Bool->St->Prop) (h:BId ((s.length:Int)<=(600:Int)) (CallT PR BE [.str s] [.one .bool] st (fun (b1:Bool) a=>BIf b1 (BId ((s.length:Int)=(0:Int)) (K true a) (((0<=(0:Int)/\(0:Int)<(s.length:Int))/\K ((decide (((List.getD s (Int.toNat (0:Int)) 0).toNat:Int)≠(48:Int)))) a))) (K false a))) (K false st)):CallT PR BM [.str s] [.one .bool] st K:=
 Ad (cfg:=⟨[],[],[]⟩) (h:= .none) mixed (fun _ _=>Tryz.call291 _ _) Tryz.func291 (by kernel_rfl) (by kernel_rfl) h
theorem Fm (year:Int) (st:St) (K:Bool->St->Prop) (h:BId ((1:Int)<=year) (BId (year<=9999) (BId ((Int.tmod year (4:Int))=(0:Int)) (BId ((Int.tmod year (100:Int))≠(0:Int)) (K true st) (K ((decide ((Int.tmod year (400:Int))=(0:Int)))) st)) (K ((decide ((Int.tmod year (400:Int))=(0:Int)))) st)) (K false st)) (K false st)):CallT PR AN [.int .i64 year] [.one .bool] st K:=
 Ad (cfg:=⟨[],[],[]⟩) (h:= .none) mixed (fun _ _=>Tryz.call292 _ _) Tryz.func292 (by kernel_rfl) (by kernel_rfl) h
theorem Je (s:B8) (st:St) (K:Bool->St->Prop) (h:∃(I1:Int->B8->Int->St->Prop) (M1:Int->B8->Int->St->Nat),(I1 0 s ((s.length:Int)) st)/\∀a b d c,I1 a b d c->(BId (a<d) (((0<=a/\a<(b.length:Int))/\BId (((List.getD b a.toNat 0).toNat:Int)<(48:Int)) (K false c) (((0<=a/\a<(b.length:Int))/\BId ((57:Int)<((List.getD b a.toNat 0).toNat:Int)) (K false c) ((I1 ((i64.wrap (a+(1:Int)))) b d c/\M1 ((i64.wrap (a+(1:Int)))) b d c<M1 a b d c)))))) (K true c))):CallT PR DZ [.str s] [.one .bool] st K:=
 Ad (cfg:=⟨[],[],[]⟩) (h:=(.seq .none (.seq (.seq .none (.block (.loop ⟨[(6,.int .i64),(0,.str),(5,.int .i64)],[],[],[]⟩ .none))) .none))) mixed (fun _ _=>Tryz.call293 _ _) Tryz.func293 (by kernel_rfl) (by kernel_rfl) h
theorem Fi (s:B8) (i:Int) (st:St) (K:Int->Int->Int->St->Prop) (h:CallT PR AY [.str s,(.int .i64 (i64.wrap (i+(2:Int))))] [.one (.int .i64),.one (.int .i64)] st (fun (n1 n2:Int) a=>BId (n2≠0) (K 0 0 n2 a) (BId (n1<55296) (K n1 6 0 a) (BId ((57343:Int)<n1) (K n1 6 0 a) (BId ((56320:Int)<=n1) (K 0 0 5 a) (BId ((s.length:Int)<=(i64.wrap (i+(6:Int)))) (K 0 0 4 a) (((0<=(i64.wrap (i+(6:Int)))/\(i64.wrap (i+(6:Int)))<(s.length:Int))/\BId (((List.getD s (Int.toNat (i64.wrap (i+(6:Int)))) 0).toNat:Int)≠(92:Int)) (K 0 0 5 a) (BId ((s.length:Int)<=(i64.wrap (i+(7:Int)))) (K 0 0 4 a) (((0<=(i64.wrap (i+(7:Int)))/\(i64.wrap (i+(7:Int)))<(s.length:Int))/\BId (((List.getD s (Int.toNat (i64.wrap (i+(7:Int)))) 0).toNat:Int)≠(117:Int)) (K 0 0 5 a) (CallT PR AY [.str s,(.int .i64 (i64.wrap (i+(8:Int))))] [.one (.int .i64),.one (.int .i64)] a (fun (n3 n4:Int) b=>BId (n4≠0) (K 0 0 n4 b) (BId (n3<56320) (K 0 0 5 b) (BId ((57343:Int)<n3) (K 0 0 5 b) (K ((i64.wrap ((i64.wrap ((i64.wrap ((65536:Int)+(i64.wrap ((i64.wrap (n1-(55296:Int)))*(1024:Int)))))+n3))-(56320:Int)))) 12 0 b)))))))))))))))):CallT PR BW [.str s,.int .i64 i] [.one (.int .i64),.one (.int .i64),.one (.int .i64)] st K:=
 Ad (cfg:=⟨[],[],[]⟩) (h:= .none) mixed (fun _ _=>Tryz.call317 _ _) Tryz.func317 (by kernel_rfl) (by kernel_rfl) h
theorem DJ (r:Int) (st:St) (K:Bool->St->Prop) (h:BId ((0:Int)<=r) (BId (r<=1114111) (BId (r<55296) (K true st) (K ((decide ((57343:Int)<r))) st)) (K false st)) (K false st)):CallT PR Bk [.int .i64 r] [.one .bool] st K:=
 Ad (cfg:=⟨[],[],[]⟩) (h:= .none) mixed (fun _ _=>Tryz.call318 _ _) Tryz.func318 (by kernel_rfl) (by kernel_rfl) h
theorem Ez (s:B8) (st:St) (K:Bool->St->Prop) (h:∃(I1:Int->B8->St->Prop) (M1:Int->B8->St->Nat),(I1 0 s st)/\∀a b c,I1 a b c->(BId (a<(b.length:Int)) (((0<=a/\a<(b.length:Int))/\BId (((List.getD b a.toNat 0).toNat:Int)<(48:Int)) (K false c) (((0<=a/\a<(b.length:Int))/\BId ((57:Int)<((List.getD b a.toNat 0).toNat:Int)) (K false c) ((I1 ((i64.wrap (a+(1:Int)))) b c/\M1 ((i64.wrap (a+(1:Int)))) b c<M1 a b c)))))) (K true c))):CallT PR BE [.str s] [.one .bool] st K:=
 Ad (cfg:=⟨[],[],[]⟩) (h:=(.seq .none (.seq (.seq .none (.block (.loop ⟨[(3,.int .i64),(0,.str)],[],[],[]⟩ .none))) .none))) mixed (fun _ _=>Tryz.call319 _ _) Tryz.func319 (by kernel_rfl) (by kernel_rfl) h
theorem Fj (s:B8) (i:Int) (st:St) (K:Int->Int->St->Prop) (h:∃(I1:Int->Int->B8->Int->St->Prop) (M1:Int->Int->B8->Int->St->Nat),(I1 0 i s i st)/\∀d a b c e,I1 d a b c e->(BId (a<(i64.wrap (c+(4:Int)))) (BId ((b.length:Int)<=a) (K 0 4 e) (((0<=a/\a<(b.length:Int))/\CallT PR Bq [(.int .u8 ((List.getD b a.toNat 0).toNat:Int))] [.one (.int .i64)] e (fun (n1:Int) f=>BId (n1<0) (K 0 3 f) (((0<=a/\a<(b.length:Int))/\CallT PR Bq [(.int .u8 ((List.getD b a.toNat 0).toNat:Int))] [.one (.int .i64)] f (fun (n2:Int) g=>(I1 ((i64.wrap ((i64.wrap (d*(16:Int)))+n2))) ((i64.wrap (a+(1:Int)))) b c g/\M1 ((i64.wrap ((i64.wrap (d*(16:Int)))+n2))) ((i64.wrap (a+(1:Int)))) b c g<M1 d a b c e)))))))) (K d 0 e))):CallT PR AY [.str s,.int .i64 i] [.one (.int .i64),.one (.int .i64)] st K:=
 Ad (cfg:=⟨[],[],[]⟩) (h:=(.seq .none (.seq .none (.seq (.seq .none (.block (.loop ⟨[(6,.int .i64),(7,.int .i64),(0,.str),(1,.int .i64)],[],[],[]⟩ .none))) .none)))) mixed (fun _ _=>Tryz.call331 _ _) Tryz.func331 (by kernel_rfl) (by kernel_rfl) h
theorem FY (c:Int) (st:St) (K:Int->St->Prop) (h:CallT PR Bd [.int .u8 c] [.one .bool] st (fun (b1:Bool) a=>BIf b1 (K ((i64.wrap (u8.wrap (c-(48:Int))))) a) (BId ((97:Int)<=c) (BId (c<=102) (K ((i64.wrap ((i64.wrap (u8.wrap (c-(97:Int))))+(10:Int)))) a) (BId ((65:Int)<=c) (BId (c<=70) (K ((i64.wrap ((i64.wrap (u8.wrap (c-(65:Int))))+(10:Int)))) a) (K (-1) a)) (K (-1) a))) (BId ((65:Int)<=c) (BId (c<=70) (K ((i64.wrap ((i64.wrap (u8.wrap (c-(65:Int))))+(10:Int)))) a) (K (-1) a)) (K (-1) a))))):CallT PR Bq [.int .u8 c] [.one (.int .i64)] st K:=
 Ad (cfg:=⟨[],[],[]⟩) (h:= .none) mixed (fun _ _=>Tryz.call334 _ _) Tryz.func334 (by kernel_rfl) (by kernel_rfl) h
section
structure Sc where
 kind:Int
 b:Bool
 neg:Bool
 dg:B8
 ex:Int
 tk:Int
 td:Int
 tn:Int
 tz:Int
 text:B8
 bytes:B8
mutual
inductive Vl where
 | mk (s:Sc) (l:List Vl) (f:List Fd)
inductive Fd where
 | mk (k:B8) (v:Vl)
end
def Fd.key:Fd->B8 | .mk k _=>k
def SlR (st:St) (sz:Nat) (v:TV) (n:Nat) (xs:List TV):Prop:=
 Rd sz v n xs∨∃b off cap l,v= .ms sz b off n cap/\b<st.nb/\st.box b= .cells l/\off+cap*sz<=l.length/\n<=cap/\xs=(l.drop off).take (n*sz)
theorem SlR.of_rd {st:St} {sz n:Nat} {v:TV} {xs:List TV} (h:Rd sz v n xs):SlR st sz v n xs:= .inl h
def Hd (st st':St):Prop:=st.nb<=st'.nb/\∀b,b<st.nb->st'.box b=st.box b
theorem SlR.keep {st st':St} (k:Hd st st') {sz n:Nat} {v:TV} {xs:List TV} (h:SlR st sz v n xs):SlR st' sz v n xs:=by
 rcases h with h | ⟨b,off,cap,l,h1,h2,h3,h4,h5,h6⟩
 ·exact .inl h
 ·exact .inr ⟨b,off,cap,l,h1,Nat.lt_of_lt_of_le h2 k.1,(k.2 b h2).trans h3,h4,h5,h6⟩
mutual
def VlR (st:St):Vl->List TV->Prop
 | .mk s l f,cs=>∃ub ul uf xl xf,cs=[.int .i64 s.kind,.bool s.b,.bool s.neg,.str s.dg,.int .i64 s.ex,.int .i64 s.tk,.int .i64 s.td,.int .i64 s.tn,.int .i64 s.tz,.str s.text,ub,ul,uf]/\
   SlR st 1 ub s.bytes.length (AE s.bytes)/\SlR st 13 ul l.length xl/\VsR st l xl/\SlR st 14 uf f.length xf/\FsR st f xf
def VsR (st:St):List Vl->List TV->Prop
 | [],xs=>xs=[]
 | v::r,xs=>∃a b,xs=a++b/\VlR st v a/\VsR st r b
def FdR (st:St):Fd->List TV->Prop
 | .mk k v,xs=>∃cs,xs= .str k::cs/\VlR st v cs
def FsR (st:St):List Fd->List TV->Prop
 | [],xs=>xs=[]
 | d::r,xs=>∃a b,xs=a++b/\FdR st d a/\FsR st r b
end
theorem VlR.len {st:St} {v:Vl} {cs:List TV} (h:VlR st v cs):cs.length=13:=by
 cases v;unfold VlR at h;obtain⟨ub,ul,uf,xl,xf,rfl,_⟩:=h;rfl
theorem FdR.len {st:St} {v:Fd} {cs:List TV} (h:FdR st v cs):cs.length=14:=by
 cases v;unfold FdR at h;obtain⟨c,rfl,h⟩:=h;simp[h.len]
theorem VsR.len {st:St}:∀{l:List Vl} {xs:List TV},VsR st l xs->xs.length=l.length*13
 | [],xs,h=>by unfold VsR at h;subst h;rfl
 | v::r,xs,h=>by
  unfold VsR at h
  obtain⟨a,b,rfl,h1,h2⟩:=h
  rw[List.length_append,h1.len,VsR.len h2,List.length_cons];omega
theorem FsR.len {st:St}:∀{l:List Fd} {xs:List TV},FsR st l xs->xs.length=l.length*14
 | [],xs,h=>by unfold FsR at h;subst h;rfl
 | v::r,xs,h=>by
  unfold FsR at h
  obtain⟨a,b,rfl,h1,h2⟩:=h
  rw[List.length_append,h1.len,FsR.len h2,List.length_cons];omega
theorem VsR.get {st:St}:∀{l:List Vl} {xs:List TV} {i:Nat} {v:Vl},VsR st l xs->l[i]? =some v->∃cs,VlR st v cs/\(xs.drop (i*13)).take 13=cs/\cs.length=13
 | [],xs,i,v,h,hi=>by simp at hi
 | w::r,xs,i,v,h,hi=>by
  unfold VsR at h
  obtain⟨a,b,rfl,h1,h2⟩:=h
  cases i with
  | zero=>
   simp only[List.getElem?_cons_zero,Option.some.injEq]at hi
   subst hi
   refine⟨a,h1,?_,h1.len⟩
   rw[Nat.zero_mul,List.drop_zero,<-h1.len,List.take_left]
  | succ i=>
   obtain⟨cs,h3,h4,h5⟩:=VsR.get h2 (by simpa using hi)
   refine⟨cs,h3,?_,h5⟩
   rw[show(i+1)*13=a.length+i*13 by rw[h1.len];omega,List.drop_append]
   simp only[Nat.add_sub_cancel_left]
   rw[List.drop_of_length_le (by omega),List.nil_append];exact h4
theorem FsR.get {st:St}:∀{l:List Fd} {xs:List TV} {i:Nat} {v:Fd},FsR st l xs->l[i]? =some v->∃cs,FdR st v cs/\(xs.drop (i*14)).take 14=cs/\cs.length=14
 | [],xs,i,v,h,hi=>by simp at hi
 | w::r,xs,i,v,h,hi=>by
  unfold FsR at h
  obtain⟨a,b,rfl,h1,h2⟩:=h
  cases i with
  | zero=>
   simp only[List.getElem?_cons_zero,Option.some.injEq]at hi
   subst hi
   refine⟨a,h1,?_,h1.len⟩
   rw[Nat.zero_mul,List.drop_zero,<-h1.len,List.take_left]
  | succ i=>
   obtain⟨cs,h3,h4,h5⟩:=FsR.get h2 (by simpa using hi)
   refine⟨cs,h3,?_,h5⟩
   rw[show(i+1)*14=a.length+i*14 by rw[h1.len];omega,List.drop_append]
   simp only[Nat.add_sub_cancel_left]
   rw[List.drop_of_length_le (by omega),List.nil_append];exact h4
end
structure StX (S:Nat->Prop) (a b:St):Prop where
 nb:a.nb<=b.nb
 box:∀i,i<a.nb->¬S i->b.box i=a.box i
 nt:a.nt<=b.nt
 live:∀i,i<a.nt->b.live i=a.live i
 ty:∀i,i<a.nt->b.ty i=a.ty i
 bt:∀i,i<a.nb->b.bt i=a.bt i
theorem StX.trans {S:Nat->Prop} {a b c:St} (h:StX S a b) (k:StX S b c):StX S a c:=
 ⟨Nat.le_trans h.nb k.nb,fun i hi hs=>(k.box i (Nat.lt_of_lt_of_le hi h.nb) hs).trans (h.box i hi hs),Nat.le_trans h.nt k.nt,fun i hi=>(k.live i (Nat.lt_of_lt_of_le hi h.nt)).trans (h.live i hi),fun i hi=>(k.ty i (Nat.lt_of_lt_of_le hi h.nt)).trans (h.ty i hi),fun i hi=>(k.bt i (Nat.lt_of_lt_of_le hi h.nb)).trans (h.bt i hi)⟩
theorem StX.mono {S T:Nat->Prop} {a b:St} (h:StX S a b) (k:∀i,S i->T i):StX T a b:=
 ⟨h.nb,fun i hi hs=>h.box i hi fun g=>hs (k i g),h.nt,h.live,h.ty,h.bt⟩
theorem StX.ext {S:Nat->Prop} {a b c:St} (h:Ax a b) (k:StX S b c) (hs:∀i,S i->a.nb<=i):Ax a c:=
 ⟨Nat.le_trans h.nb k.nb,fun i hi=>(k.box i (Nat.lt_of_lt_of_le hi h.nb) fun g=>absurd (hs i g) (by omega)).trans (h.box i hi),Nat.le_trans h.nt k.nt,fun i hi=>(k.live i (Nat.lt_of_lt_of_le hi h.nt)).trans (h.live i hi),fun i hi=>(k.ty i (Nat.lt_of_lt_of_le hi h.nt)).trans (h.ty i hi),fun i hi=>(k.bt i (Nat.lt_of_lt_of_le hi h.nb)).trans (h.bt i hi)⟩
theorem StX.put {S:Nat->Prop} {a:St} {i:Nat} (hi:S i) (o:GE):StX S a (a.put i o):=
 ⟨Nat.le_refl _,fun j hj hs=>by simp only[St.put];rw[if_neg (by rintro rfl;exact hs hi)],Nat.le_refl _,fun _ _=>rfl,fun _ _=>rfl,fun _ _=>rfl⟩
theorem If {st:St} {b:Nat} {B:List TV}:∀(c:List TV) (l:List TV) (j o:Nat),st.box b= .cells l->l.drop (o+j)=c++B->Aq st [] (.t (.box b o)) j c.length=some c
 | [],l,j,o,h,hd=>rfl
 | x::c,l,j,o,h,hd=>by
  have hx:l[o+j]? =some x:=by
   have:=congrArg (fun z:List TV=>z[0]?) hd
   simpa using this
  have hd2:l.drop (o+(j+1))=c++B:=by
   have:=congrArg (fun z:List TV=>z.drop 1) hd
   simpa [List.drop_drop,Nat.add_assoc]using this
  show(match Ag st [] (.t (.box b o)) j with | some x=>(Aq st [] (.t (.box b o)) (j+1) c.length).map (x::·) | none=>none)=_
  have:Ag st [] (.t (.box b o)) j=some x:=by simp only[Ag,h];exact hx
  rw[this]
  simp only
  rw[If c l (j+1) o h hd2];rfl
theorem Cr {g:Af} {w:World} {l:B8} {v:Value} (h:Rel g w (.str l) v):v= .string ⟨l.toArray⟩:=by cases h;rfl
theorem KY {g:Af} {w:World} {k:IntKind} {n:Int} {v:Value} (h:Rel g w (.int k n) v):v= .int k n:=by cases h;rfl
theorem Oc {g:Af} {w:World} {x:TV} {vs:List Value} (h:AA g w [x] vs):∃v,vs=[v]/\Rel g w x v:=by
 obtain⟨v,h1,h2⟩:=h.get? (i:=0) rfl
 have:=h.1
 cases vs with
 | nil=>simp at this
 | cons a r=>cases r with
  | nil=>simp at h1;subst h1;exact⟨_,rfl,h2⟩
  | cons b r=>simp at this
theorem IB {g:Af} {w:World} {x y:TV} {vs:List Value} (h:AA g w [x,y] vs):∃v u,vs=[v,u]/\Rel g w x v/\Rel g w y u:=by
 obtain⟨v,h1,h2⟩:=h.get? (i:=0) rfl
 obtain⟨u,h3,h4⟩:=h.get? (i:=1) rfl
 have:=h.1
 cases vs with
 | nil=>simp at this
 | cons a r=>cases r with
  | nil=>simp at this
  | cons b r=>cases r with
   | nil=>simp at h1 h3;subst h1 h3;exact⟨_,_,rfl,h2,h4⟩
   | cons c r=>simp at this
section
theorem SlR.one {st:St} {sz n:Nat} {u:TV} {xs:List TV} (h:SlR st sz u n xs):BR u=true:=by
 rcases h with(⟨rfl,_⟩ | ⟨tip,rfl⟩) | ⟨b,off,cap,l,rfl,_⟩<;>rfl
section
variable {st:St}
end
end
section
mutual
def Vl.sz:Vl->Nat
 | .mk s l f=>1+s.bytes.length+s.text.length+s.dg.length+Kx l+Lg f
def Kx:List Vl->Nat
 | []=>0
 | v::r=>v.sz+Kx r
def Fd.sz:Fd->Nat
 | .mk k v=>k.length+v.sz
def Lg:List Fd->Nat
 | []=>0
 | d::r=>d.sz+Lg r
end
theorem Vl.sz_pos (v:Vl):1<=v.sz:=by cases v;unfold Vl.sz;omega
theorem Ij:∀l:List Vl,l.length<=Kx l
 | []=>Nat.le_refl _
 | v::r=>by have:=Ij r;have:=v.sz_pos;unfold Kx;simp only[List.length_cons];omega
theorem IO:∀l:List Fd,l.length<=Lg l
 | []=>Nat.le_refl _
 | .mk k v::r=>by have:=IO r;have:=v.sz_pos;unfold Lg Fd.sz;simp only[List.length_cons];omega
theorem Ik:∀{l:List Vl} {i:Nat} {v:Vl},l[i]? =some v->v.sz<=Kx l
 | [],i,v,h=>by simp at h
 | w::r,0,v,h=>by simp at h;subst h;unfold Kx;omega
 | w::r,i+1,v,h=>by have:=Ik (by simpa using h:r[i]? =some v);unfold Kx;omega
theorem IQ:∀{l:List Fd} {i:Nat} {d:Fd},l[i]? =some d->d.sz<=Lg l
 | [],i,v,h=>by simp at h
 | w::r,0,v,h=>by simp at h;subst h;unfold Lg;omega
 | w::r,i+1,v,h=>by have:=IQ (by simpa using h:r[i]? =some v);unfold Lg;omega
theorem IJ {st:St} {ys:List TV}:∀(k j:Nat),j+k<=ys.length->Aq st [] (.t (.rptr ys)) j k=some ((ys.drop j).take k)
 | 0,j,h=>by simp[Aq]
 | k+1,j,h=>by
  show(match Ag st [] (.t (.rptr ys)) j with | some x=>(Aq st [] (.t (.rptr ys)) (j+1) k).map (x::·) | none=>none)=_
  have hj:j<ys.length:=by omega
  have:Ag st [] (.t (.rptr ys)) j=some ys[j]:=by simp[Ag,hj]
  rw[this]
  simp only
  rw[IJ k (j+1) (by omega),List.drop_eq_getElem_cons hj]
  rfl
theorem SlR.ldc {st:St} {sz n i:Nat} {u:TV} {xs:List TV} (h:SlR st sz u n xs) (hl:xs.length=n*sz) (hi:i<n):Aq st [] (.t (ixT sz u i)) 0 sz=some ((xs.drop (i*sz)).take sz):=by
 have hm:(i+1)*sz<=n*sz:=Nat.mul_le_mul_right _ hi
 rw[Nat.add_mul,Nat.one_mul]at hm
 rcases h with(⟨rfl,rfl,rfl⟩ | ⟨tip,rfl⟩) | ⟨b,off,cap,l,rfl,h2,h3,h4,h5,rfl⟩
 ·omega
 ·show Aq st [] (.t (.rptr (xs.drop (i*sz)))) 0 sz=_
  rw[IJ sz 0 (by rw[List.length_drop];omega),List.drop_zero]
 ·have hc:n*sz<=cap*sz:=Nat.mul_le_mul_right _ h5
  have e1:(((l.drop off).take (n*sz)).drop (i*sz)).take sz=(l.drop (off+i*sz)).take sz:=by
   rw[List.drop_take,List.drop_drop,List.take_take,Nat.min_eq_left (by omega)]
  rw[e1]
  have e:=If (B:=l.drop (off+i*sz+sz)) (st:=st) (b:=b) ((l.drop (off+i*sz)).take sz) l 0 (off+i*sz) h3 (by
   have:=List.take_append_drop sz (l.drop (off+i*sz))
   rw[List.drop_drop]at this
   rw[Nat.add_zero];exact this.symm)
  rw[show((l.drop (off+i*sz)).take sz).length=sz by simp;omega]at e
  exact e
theorem SlR.lenZ {st:St} {sz n:Nat} {u:TV} {xs:List TV} (h:SlR st sz u n xs):TVF.lenZ sz u=n:=by
 rcases h with(⟨rfl,rfl,rfl⟩ | ⟨tip,rfl⟩) | ⟨b,off,cap,l,rfl,h2,h3,h4,h5,rfl⟩
 ·rfl
 ·simp[TVF.lenZ]
 ·simp[TVF.lenZ]
theorem SlR.lenS {st:St} {sz n:Nat} {u:TV} {xs:List TV} (h:SlR st sz u n xs):TVF.lenS u=n:=by
 rcases h with(⟨rfl,rfl,rfl⟩ | ⟨tip,rfl⟩) | ⟨b,off,cap,l,rfl,h2,h3,h4,h5,rfl⟩<;>rfl
theorem SlR.isSl {st:St} {sz n:Nat} {u:TV} {xs:List TV} (h:SlR st sz u n xs):TVF.isSl u=true:=by
 rcases h with(⟨rfl,rfl,rfl⟩ | ⟨tip,rfl⟩) | ⟨b,off,cap,l,rfl,h2,h3,h4,h5,rfl⟩<;>rfl
theorem OU {n1:Int} {b1 b2:Bool} {s2:B8} {n2 n3 n4 n5 n6:Int} {s3:B8} {u1 u2 u3:TV} {f:Fun [.int .i64,.bool,.bool,.str,.int .i64,.int .i64,.int .i64,.int .i64,.int .i64,.str,.tv,.tv,.tv] Prop} (h:f n1 b1 b2 s2 n2 n3 n4 n5 n6 s3 u1 u2 u3):
  Mi [.int .i64,.bool,.bool,.str,.int .i64,.int .i64,.int .i64,.int .i64,.int .i64,.str,.tv,.tv,.tv] (.agg [.int .i64 n1,.bool b1,.bool b2,.str s2,.int .i64 n2,.int .i64 n3,.int .i64 n4,.int .i64 n5,.int .i64 n6,.str s3,u1,u2,u3]) f:=h
theorem MM {n1:Int} {b1 b2:Bool} {s2:B8} {n2 n3 n4 n5 n6:Int} {s3:B8} {u1 u2 u3:TV} (h1:BR u1=true) (h2:BR u2=true) (h3:BR u3=true):
  List.all [.int .i64 n1,.bool b1,.bool b2,.str s2,.int .i64 n2,.int .i64 n3,.int .i64 n4,.int .i64 n5,.int .i64 n6,.str s3,u1,u2,u3] BR=true:=by
 simp only[List.all_cons,List.all_nil,h1,h2,h3,Bool.and_true];rfl
end
def EO (s:Sc) (ub ul uf:TV):List TV:=[.int .i64 s.kind,.bool s.b,.bool s.neg,.str s.dg,.int .i64 s.ex,.int .i64 s.tk,.int .i64 s.td,.int .i64 s.tn,.int .i64 s.tz,.str s.text,ub,ul,uf]
theorem FR {T:Nat} {st0 st:St} {v:TV} {l ys:B8} {k:Nat} {xs:List TV} {K:TV->St->Prop} (e:Ax st0 st) (h:HJ st0.nt st v l) (hkl:k=ys.length) (hx:xs=AE ys) (hby:l.length+ys.length<=140737488355328)
  (hK:∀v' st',Ax st0 st'->st'.box=st.box->HJ st0.nt st' v' (l++ys)->K v' st'):B0 T 1 1 v k xs st K:=by
 subst hkl hx
 exact Mx e h hby hK
theorem or_u8 (x y:Nat) (hx:x<2^8) (hy:y<2^8):Ak .or .u8 (x:Int) (y:Int)=((x ||| y:Nat):Int):=by
 have h:x ||| y<2^8:=Nat.or_lt_two_pow hx hy
 show IntKind.wrap .u8 ((BitVec.ofInt 8 (x:Int) ||| BitVec.ofInt 8 (y:Int)).toNat:Int)=_
 simp only[BitVec.ofInt_natCast,BitVec.toNat_or,BitVec.toNat_ofNat]
 rw[Nat.mod_eq_of_lt (by omega),Nat.mod_eq_of_lt (by omega),Gl _ (by omega) (by omega)]
end Go.TVF
