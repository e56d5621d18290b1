/- What the laws below rest on: a framework for Go programs, and contracts of the functions that they reach. -/
import Derived.Test.YtpfhcnpnngjpnaaGreatDoorGhB
import Derived.Deep.Slices
import Derived.WideShapes
import Derived.ChangeArms
import Derived.OpenShut
import Derived.Test.YtpfhcnpnngjpnaaGreatDoorProg
import Derived.KernelRfl
set_option maxRecDepth 20000
set_option linter.unusedVariables false
set_option linter.unusedSimpArgs false
section
namespace Go.TVF
open Go.IntKind(i64 u8)
open Go.RowKit (Below)
theorem R5 {P:Program} {Q:Exit->Act->World->Prop} {a:Act} {w:World} {c:Code} (I:Nat->Act->World->Prop) (h₀:∃m,I m a w)
  (round:∀m a w,I m a w->c.wp P (Exit.then (fun a' w'=>∃m',m'<m/\I m' a' w') Q) a w):(Code.loop c).wp P Q a w:=by
 intro b k cs
 have key:∀m a w,I m a w->∃e a' w',Q e a' w'/\Arrives P (lone (b.at a (.code c:: .inLoop c::k)) cs w) b k cs e a' w':=by
  intro m
  induction m using Nat.strongRecOn with
  | _ m ih=>
   intro a w hI
   obtain⟨e,a₁,w₁,hq,harr⟩:=round m a w hI b (.inLoop c::k) cs
   cases e with
   | normal=>
    obtain⟨m',hlt,hI₁⟩:=hq
    obtain⟨e₂,a₂,w₂,hq₂,harr₂⟩:=ih m' hlt a₁ w₁ hI₁
    exact⟨e₂,a₂,w₂,hq₂,.of_steps (Steps.trans harr (.one step_inLoop)) harr₂⟩
   | exit id=>exact⟨_,a₁,w₁,hq,.pass (x:= .inLoop c) rfl (fun _ _=> .inl (by simp)) harr⟩
   | goto l=>exact⟨_,a₁,w₁,hq,.pass (x:= .inLoop c) rfl (fun _ _=> .inl (by simp)) harr⟩
   | ret=>exact⟨_,a₁,w₁,hq,.pass (x:= .inLoop c) rfl (fun _ _=> .inl (by simp)) harr⟩
   | panic ch=>exact⟨_,a₁,w₁,hq,.pass (x:= .inLoop c) rfl (fun _ _=> .inl (by simp)) harr⟩
   | outgrown=>exact⟨_,a₁,w₁,hq,.pass (x:= .inLoop c) rfl (fun _ _=> .inl (by simp)) harr⟩
 obtain⟨m,hm⟩:=h₀
 obtain⟨e,a',w',hq,harr⟩:=key m a w hm
 exact⟨e,a',w',hq,.of_steps (.one step_loop) harr⟩
theorem Ph:∀{cs:List CTy} {vs:List TV} {I:Fun cs (St->Prop)} {M:Fun cs (St->Nat)} {B:List TV->Nat->St->Prop} {st:St},AllC cs I M B->KL cs vs I (fun p=>p st)->∃m,B vs m st
 | [],[],I,M,B,st,h,hd=>⟨_,h st hd⟩
 | [],_::_,I,M,B,st,h,hd=>hd.elim
 | _::_,[],I,M,B,st,h,hd=>hd.elim
 | c::cs,v::vs,I,M,B,st,h,hd=>by
  obtain⟨y,rfl,hd2⟩:=D6 hd
  exact Ph (B:=fun l=>B (enc c y::l)) (h y) hd2
theorem QN:∀{cs:List CTy} {vs:List TV} {I:Fun cs (St->Prop)} {M:Fun cs (St->Nat)} {B:List TV->Nat->St->Prop} {st:St} {m:Nat},AllC cs I M B->Tm cs vs I M (fun p q=>p st/\q st<m)->∃m',m'<m/\B vs m' st
 | [],[],I,M,B,st,m,h,hd=>⟨_,hd.2,h st hd.1⟩
 | [],_::_,I,M,B,st,m,h,hd=>hd.elim
 | _::_,[],I,M,B,st,m,h,hd=>hd.elim
 | c::cs,v::vs,I,M,B,st,m,h,hd=>by
  obtain⟨y,rfl,hd2⟩:=D6 hd
  exact QN (B:=fun l=>B (enc c y::l)) (h y) hd2
theorem Nm:∀{cs:List CTy} {vs:List TV} {I:Fun cs (St->Prop)} {B:List TV->St->Prop} {st:St},YJ cs I B->KL cs vs I (fun p=>p st)->B vs st
 | [],[],I,B,st,h,hd=>h st hd
 | [],_::_,I,B,st,h,hd=>hd.elim
 | _::_,[],I,B,st,h,hd=>hd.elim
 | c::cs,v::vs,I,B,st,h,hd=>by
  obtain⟨y,rfl,hd2⟩:=D6 hd
  exact Nm (B:=fun l=>B (enc c y::l)) (h y) hd2
def QPost (g:Ghost) (w:World) (a0:Act) (Q:Exit->Fr->St->Prop) (e:Exit) (a:Act) (w':World):Prop:=KP g w a0 (Q e) a w'
section
variable {P:Program} {cfg:Cfg} {ns nl:Nat}
theorem WR (hm:P.follows .mixedOrders=true):∀(c:Code) (h:JT) (Q:Exit->Fr->St->Prop) (fr:Fr) (st:St) (g:Ghost) (w:World) (a:Act),cwp cfg P ns nl c h Q fr st->Sim g st fr.loc w->Gr g w fr a.tmps->a.tmps.size=ns->
  c.wp P (QPost g w a Q) a w:=by
 intro c
 induction c with
 | skip=>intro h Q fr st g w a hc s hf hn;exact wp_skip ⟨fr,st,g,hc,s,hf,Ext.refl _ _,rfl,rfl⟩
 | region id ops draw=>
  intro h Q fr st g w a hc s hf hn
  cases draw with
  | false=>exact wp_region_list (M5 ops.toList fr st g w a hc s hf fun a' w' hp=>hp)
  | true=>exact RC hm hc s hf fun a' w' hp=>hp
 | seq x y ihx ihy=>
  intro h Q fr st g w a hc s hf hn
  have key:∀(hx hy:JT),cwp cfg P ns nl x hx (Sn (cwp cfg P ns nl y hy Q) Q) fr st->(Code.seq x y).wp P (QPost g w a Q) a w:=by
   intro hx hy hcx
   refine wp_seq (wp_mono (ihx hx _ fr st g w a hcx s hf hn) fun e a' w' hq=>?_)
   obtain⟨fr',st',g',h1,h2,h3,h4,h5⟩:=hq
   cases e with
   | normal=>
    refine wp_mono (ihy hy Q fr' st' g' w' a' h1 h2 h3 (h5.2.trans hn)) fun e a'' w'' hq2=>?_
    exact hq2.ext h4 h5
   | _=>exact⟨fr',st',g',h1,h2,h3,h4,h5⟩
  cases h with
  | cut k hx hy=>
   obtain⟨R,h1,h2⟩:=hc
   refine wp_seq (wp_mono (ihx hx _ fr st g w a h1 s hf hn) fun e a' w' hq=>?_)
   obtain⟨fr',st',g',q1,q2,q3,q4,q5⟩:=hq
   cases e with
   | normal=>
    have q1':need (k.ok nl fr') (KL k.tys (k.vals fr') R fun p=>p st'):=q1
    rw[Au]at q1'
    obtain⟨w1,w2⟩:=Fg.weak (ns:=ns) q1'.1 q2 q3 (q5.2.trans hn)
    have hb:=Nm h2 q1'.2
    exact wp_mono (ihy hy Q _ st' g' w' a' hb w1 w2 (q5.2.trans hn)) fun e a'' w'' hq2=>hq2.ext q4 q5
   | _=>exact⟨fr',st',g',q1,q2,q3,q4,q5⟩
  | none=>exact key _ _ hc
  | seq p q=>exact key _ _ hc
  | cond p q=>exact key _ _ hc
  | block p=>exact key _ _ hc
  | loop k p=>exact key _ _ hc
 | cond c x y ihx ihy=>
  intro h Q fr st g w a hc s hf hn
  simp only[cwp]at hc
  split at hc
  ·rename_i b hb
   have hr:=Rc hf c
   rw[hb]at hr
   have hr':Rel g w (.bool b) (a.eval c):=hr
   have hev:a.eval c= .bool b:=by generalize a.eval c=q at hr';cases hr';rfl
   cases b with
   | true=>exact wp_cond_true hev (ihx h.l Q fr st g w a hc s hf hn)
   | false=>exact wp_cond_false hev (ihy h.r Q fr st g w a hc s hf hn)
  ·exact hc.elim
 | block id x ih=>
  intro h Q fr st g w a hc s hf hn
  refine wp_block (wp_mono (ih h.l (Va id Q) fr st g w a hc s hf hn) fun e a' w' hq=>?_)
  obtain⟨fr',st',g',h1,h2,h3,h4,h5⟩:=hq
  cases e with
  | exit id'=>
   simp only[Va]at h1
   by_cases hid:id'=id
   ·subst hid
    have hbe:(id'.beq id')=true:=Nat.beq_refl id'
    simp only[hbe]at h1
    simp only[Exit.inBlock,if_true]
    exact⟨fr',st',g',h1,h2,h3,h4,h5⟩
   ·have hbe:(id'.beq id)=false:=by
     cases hq:id'.beq id with
     | false=>rfl
     | true=>exact absurd (Nat.eq_of_beq_eq_true hq) hid
    simp only[hbe]at h1
    simp only[Exit.inBlock,hid,if_false]
    exact⟨fr',st',g',h1,h2,h3,h4,h5⟩
  | _=>exact⟨fr',st',g',h1,h2,h3,h4,h5⟩
 | loop x ih=>
  intro h Q fr st g w a hc s hf hn
  cases h with
  | loop k hx=>
   obtain⟨I,M,h1,h2⟩:=hc
   rw[Au]at h1
   refine R5 (fun m a' w'=>∃vals st' g',cwp cfg P ns nl x hx (Sn (fun fr st=>need (k.ok nl fr) (Tm k.tys (k.vals fr) I M fun p q=>p st/\q st<m)) Q) (k.frame ns nl vals) st'/\
    Sim g' st' (k.frame ns nl vals).loc w'/\Gr g' w' (k.frame ns nl vals) a'.tmps/\Ext g w g' w'/\a'.defers=a.defers/\a'.tmps.size=a.tmps.size) ?_ ?_
   ·obtain⟨m,hm⟩:=Ph h2 h1.2
    obtain⟨w1,w2⟩:=Fg.weak (ns:=ns) h1.1 s hf hn
    exact⟨m,_,st,g,hm,w1,w2,Ext.refl _ _,rfl,rfl⟩
   ·rintro m a' w' ⟨vals,st',g',q1,q2,q3,q4,q5⟩
    refine wp_mono (ih hx _ _ st' g' w' a' q1 q2 q3 (q5.2.trans hn)) fun e a'' w'' hq=>?_
    obtain⟨fr2,st2,g2,r1,r2,r3,r4,r5⟩:=hq
    cases e with
    | normal=>
     have r1':need (k.ok nl fr2) (Tm k.tys (k.vals fr2) I M fun p q=>p st2/\q st2<m):=r1
     rw[Au]at r1'
     obtain⟨m',hlt,hB⟩:=QN h2 r1'.2
     obtain⟨w1,w2⟩:=Fg.weak (ns:=ns) r1'.1 r2 r3 (r5.2.trans (q5.2.trans hn))
     exact⟨m',hlt,_,st2,g2,hB,w1,w2,q4.trans r4,r5.1.trans q5.1,r5.2.trans q5.2⟩
    | _=>exact⟨fr2,st2,g2,r1,r2,r3,q4.trans r4,r5.1.trans q5.1,r5.2.trans q5.2⟩
  | _=>exact hc.elim
 | exit id=>intro h Q fr st g w a hc s hf hn;exact wp_exit ⟨fr,st,g,hc,s,hf,Ext.refl _ _,rfl,rfl⟩
 | ret=>intro h Q fr st g w a hc s hf hn;exact wp_ret ⟨fr,st,g,hc,s,hf,Ext.refl _ _,rfl,rfl⟩
 | _=>intro h Q fr st g w a hc s hf hn;exact hc.elim
def Mo (P:Program) (fr:Fr) (st:St):ResultVar->Option TV
 | .tmp t=>some (Mj fr t)
 | .cell a t=>match K9 P t with
  | some true=>match P.cellsOf t with
   | 0=>none
   | n=>(Aj st fr.loc (fr.slots.f a) 0 n).map .agg
  | some false=>Ac st fr.loc (fr.slots.f a) 0
  | none=>none
def JB (P:Program) (fr:Fr) (st:St):List ResultVar->Option (List TV)
 | []=>some []
 | r::rs=>match Mo P fr st r with
  | some v=>(JB P fr st rs).map (v::·)
  | none=>none
def TK:List TV->TV
 | [v]=>v
 | vs=> .tuple vs
def resT (P:Program) (fn:Func) (fr:Fr) (st:St):Option TV:=(JB P fr st fn.results.toList).map TK
def Rl (P:Program) (fr:Fr) (st:St) (r:ResultVar) (k:TV->Prop):Prop:=
 match r with
 | .tmp t=>k (Mj fr t)
 | .cell a t=>match K9 P t with
  | some true=>match P.cellsOf t with
   | 0=>False
   | n=>Ag ((Aj st fr.loc (fr.slots.f a) 0 n).map .agg) k
  | some false=>Ag (Ac st fr.loc (fr.slots.f a) 0) k
  | none=>False
def LD (P:Program) (fr:Fr) (st:St):List ResultVar->(List TV->Prop)->Prop
 | [],k=>k []
 | r::rs,k=>Rl P fr st r fun v=>LD P fr st rs fun vs=>k (v::vs)
theorem PI {P:Program} {fr:Fr} {st:St} {r:ResultVar} {k:TV->Prop} (h:Rl P fr st r k):∃v,Mo P fr st r=some v/\k v:=by
 cases r with
 | tmp t=>exact⟨_,rfl,h⟩
 | cell a t=>
  unfold Rl at h
  unfold Mo
  simp only at h⊢
  cases ha:K9 P t with
  | none=>rw[ha]at h;exact h.elim
  | some b=>
   rw[ha]at h
   cases b with
   | true=>
    simp only at h⊢
    cases hn:P.cellsOf t with
    | zero=>rw[hn]at h;exact h.elim
    | succ n=>
     rw[hn]at h
     exact DP.1 h
   | false=>exact DP.1 h
theorem Kz {P:Program} {fr:Fr} {st:St}:∀{rs:List ResultVar} {k:List TV->Prop},LD P fr st rs k->∃vs,JB P fr st rs=some vs/\k vs
 | [],k,h=>⟨[],rfl,h⟩
 | r::rs,k,h=>by
  obtain⟨v,h1,h2⟩:=PI h
  obtain⟨vs,h3,h4⟩:=Kz h2
  exact⟨v::vs,by simp[JB,h1,h3],h4⟩
def retQ (P:Program) (fn:Func) (R:TV->St->Prop):Exit->Fr->St->Prop
 | .normal,fr,st=>LD P fr st fn.results.toList fun vs=>R (TK vs) st
 | .ret,fr,st=>LD P fr st fn.results.toList fun vs=>R (TK vs) st
 | _,_,_=>False
def Ib (cfg:Cfg) (fn:Func) (args:List TV):Fr:=⟨⟨fn.ntmps,fun i=>match args[i]? with | some v=> .t v | none=> .t .undef⟩,cfg.loc.map fun _=>none⟩
theorem Rj {g:Ghost} {st:St} {w:World} {fr:Fr} {tmps:Array Value} (s:Sim g st fr.loc w) (hf:Gr g w fr tmps) {r:ResultVar} {v:TV} (h:Mo P fr st r=some v):
  ∃u,(match r with | .tmp t=>pure (tmps.getD t Go.undef) | .cell a t=>do loadVar t (<-asAddr (tmps.getD a Go.undef)):Sem Value).run P w= .ok u w/\Rel g w v u:=by
 cases r with
 | tmp t=>
  simp only[Mo,Option.some.injEq]at h
  subst h
  exact⟨_,rfl,(hf.2 t).tv⟩
 | cell a t=>
  simp only[Mo]at h
  have hld:∀p,Bl g w fr.loc p (tmps.getD a Go.undef)->(Em P st fr.loc t p).Is (.t v)->∃u,(do loadVar t (<-asAddr (tmps.getD a Go.undef)):Sem Value).run P w= .ok u w/\Rel g w v u:=by
   intro p hp hl
   have hl':=hl
   obtain⟨u,hu,hr⟩:=OL (P:=P) s hp hl'
   have hsa:(Instr.loadAt t (tmps.getD a Go.undef)).run P w=(do loadVar t (<-asAddr (tmps.getD a Go.undef)):Sem Value).run P w:=by
    generalize hq:tmps.getD a Go.undef=q at hp hu
    simp only[Instr.loadAt,Sem.run_bind]
    cases q with
    | pointer o=>cases o with
     | none=>simp[Instr.loadAt,Instr.sureAddr]at hu
     | some ad=>simp[Instr.sureAddr,asAddr]
    | _=>simp[Instr.loadAt,Instr.sureAddr]at hu
   exact⟨u,by rw[<-hsa];exact hu,hr⟩
  split at h
  ·rename_i ha
   split at h
   ·cases h
   ·rename_i n hn
    refine hld _ (hf.2 a) ?_
    unfold Em
    rw[ha]
    exact⟨v,by
     split
     ·rename_i h0;exact absurd h0 hn
     ·exact h,rfl⟩
  ·rename_i ha
   refine hld _ (hf.2 a) ?_
   unfold Em
   rw[ha]
   exact⟨v,h,rfl⟩
  ·cases h
theorem LC {g:Ghost} {st:St} {w:World} {fr:Fr} {tmps:Array Value} (s:Sim g st fr.loc w) (hf:Gr g w fr tmps):∀{rs:List ResultVar} {vs:List TV},JB P fr st rs=some vs->
  ∃us:List Value,(rs.mapM (fun r=>match r with | .tmp t=>pure (tmps.getD t Go.undef) | .cell a t=>do loadVar t (<-asAddr (tmps.getD a Go.undef))):Sem (List Value)).run P w= .ok us w/\AJ g w vs us
 | [],vs,h=>by simp only[JB,Option.some.injEq]at h;subst h;exact⟨[],rfl,.nil _ _⟩
 | r::rs,vs,h=>by
  simp only[JB]at h
  split at h
  ·rename_i v hv
   obtain⟨vs',hvs',rfl⟩:=Option.map_eq_some_iff.1 h
   obtain⟨u,hu,hr⟩:=Rj s hf hv
   obtain⟨us,hus,hrs⟩:=LC s hf hvs'
   refine⟨u::us,?_,.cons hr hrs⟩
   rw[List.mapM_cons]
   simp only[Sem.run_bind,hu,Result.andThen_ok,hus,Sem.run_pure]
  ·cases h
theorem TY {g:Ghost} {st:St} {w:World} {fr:Fr} {tmps:Array Value} (s:Sim g st fr.loc w) (hf:Gr g w fr tmps) {fn:Func} {v:TV} (h:resT P fn fr st=some v):∃u,(results fn tmps).run P w= .ok u w/\Rel g w v u:=by
 unfold resT at h
 cases hr:JB P fr st fn.results.toList with
 | none=>rw[hr]at h;cases h
 | some vs=>
  rw[hr]at h
  obtain⟨us,hus,hrel⟩:=LC s hf hr
  have hrun:(fn.results.mapM (fun r=>match r with | .tmp t=>pure (tmps.getD t Go.undef) | .cell a t=>do loadVar t (<-asAddr (tmps.getD a Go.undef))):Sem (Array Value)).run P w= .ok us.toArray w:=by
   rw[<-Array.toArray_toList (xs:=fn.results),List.mapM_toArray]
   simp only[Sem.run_map,hus,Result.andThen_ok]
  refine⟨if h:us.toArray.size=1 then us.toArray[0]else .tuple us.toArray,?_,?_⟩
  ·have hres:results fn tmps=(do
     let vs<-(fn.results.mapM (fun r=>match r with | .tmp t=>pure (tmps.getD t Go.undef) | .cell a t=>do loadVar t (<-asAddr (tmps.getD a Go.undef))):Sem (Array Value))
     pure (if h:vs.size=1 then vs[0]else .tuple vs)):=rfl
   rw[hres,Sem.run_bind,hrun]
   rfl
  ·cases vs with
   | nil=>
    simp only[Option.map_some,Option.some.injEq,TK]at h;subst h
    have:us=[]:=List.eq_nil_of_length_eq_zero hrel.1.symm
    subst this
    exact Rel.tuple [] [] rfl (fun i hi=>absurd hi (Nat.not_lt_zero _))
   | cons v1 vs1=>cases vs1 with
    | nil=>
     simp only[Option.map_some,Option.some.injEq,TK]at h;subst h
     cases us with
     | nil=>have:=hrel.1;simp at this
     | cons u1 us1=>
      have:us1=[]:=List.eq_nil_of_length_eq_zero (by have:=hrel.1;simpa using this.symm)
      subst this
      simpa using hrel.2 0 (by simp)
    | cons v2 vs2=>
     simp only[Option.map_some,Option.some.injEq,TK]at h;subst h
     have hl:us.toArray.size≠1:=by have:=hrel.1;simp at this⊢;omega
     rw[dif_neg hl]
     exact Rel.tuple _ us hrel.1 hrel.2
theorem V9 (hm:P.follows .mixedOrders=true) {f:FuncId} {fn:Func} {c:Code} (hcall:∀(vs:Array Value) (w:World),(callFunc f vs).run P w= .ok (.enter f vs) w) (hf:P.funcs[f]? =some fn) (hb:fn.body=some c)
  (cfg:Cfg) (h:JT) {args:List TV} {st:St} {R:TV->St->Prop} (hn:args.length<=fn.ntmps)
  (hc:cwp cfg P fn.ntmps cfg.loc.length c h (retQ P fn R) (Ib cfg fn args) st):Fu P f args st R:=by
 refine DA hcall fun g w vargs s hr=>?_
 refine calls_of_wp hf hb ?_
 have hlen:vargs.length=args.length:=hr.1.symm
 have hsize:(vargs.toArray++Array.replicate (fn.ntmps-vargs.toArray.size) Go.undef).size=fn.ntmps:=by simp;omega
 have hsim:Sim g st (Ib cfg fn args).loc w:=s.weakLoc fun j x' hx'=>by
  simp only[Ib,List.getElem?_map]at hx'
  cases hq:cfg.loc[j]? with
  | none=>rw[hq]at hx';cases hx'
  | some q=>rw[hq]at hx';simp at hx'
 have hfr:Gr g w (Ib cfg fn args) (vargs.toArray++Array.replicate (fn.ntmps-vargs.toArray.size) Go.undef):=by
  refine⟨by rw[hsize];rfl,fun i=>?_⟩
  by_cases hia:i<args.length
  ·have h1:(Ib cfg fn args).slots.f i= .t args[i]:=by simp[Ib,hia]
   have h2:(vargs.toArray++Array.replicate (fn.ntmps-vargs.toArray.size) Go.undef).getD i Go.undef=vargs.getD i Go.undef:=by
    have:i<vargs.length:=by omega
    have hin:i<fn.ntmps:=by omega
    simp[Array.getD,Array.getElem_append,this,hin,List.getD_eq_getElem?_getD]
    omega
   rw[h1,h2]
   exact hr.2 i hia
  ·have h1:(Ib cfg fn args).slots.f i= .t .undef:=by simp[Ib,hia]
   have h2:(vargs.toArray++Array.replicate (fn.ntmps-vargs.toArray.size) Go.undef).getD i Go.undef=Go.undef:=by
    have:¬i<vargs.length:=by omega
    simp[Array.getD,Array.getElem_append,this]
   rw[h1,h2]
   exact Rel.undef
 refine wp_mono (WR hm c h _ _ st g w {tmps:=vargs.toArray++Array.replicate (fn.ntmps-vargs.toArray.size) Go.undef,defers:=[]} hc hsim hfr hsize) fun e a' w' hq=>?_
 obtain⟨fr',st',g',h1,h2,h3,h4,h5,h6⟩:=hq
 have fin:LD P fr' st' fn.results.toList (fun vs=>R (TK vs) st')->a'.defers=[]/\∃v,(results fn a'.tmps).run P w'= .ok v w'/\∃v',Ending.returned v= .returned v'/\∃r st' g',R r st'/\Sim g' st' [] w'/\Rel g' w' r v'/\Ext g w g' w':=by
  intro ho
  obtain⟨vs,hvs,hR⟩:=Kz ho
  obtain⟨u,hu,hrel⟩:=TY (fn:=fn) h2 h3 (by unfold resT;rw[hvs];rfl)
  exact⟨h5,u,hu,u,rfl,_,st',g',hR,h2.dropLoc (fun j x hx=>by simp at hx),hrel,h4⟩
 cases e with
 | normal=>exact fin h1
 | ret=>exact fin h1
 | _=>exact h1.elim
def St.zero:St:={nb:=0,box:=fun _=> .dead,nt:=0,live:=fun _=>false,ty:=fun _=>none,bt:=fun _=>none}
def Ghost.start (w:World):Ghost:={base:=w.heap.size,w0:=w,nb:=0,bk:=fun _=>0,lam:=fun _=>0,nt:=0,sp:=fun _=>none,S:=fun a=>a.spot=none/\∃v,w.cell? a=some v,prot:=fun _=>False}
theorem Sim.start (w:World) (hG:∀w',Below w.heap.size w w'->GlobOK w'):Sim (Ghost.start w) St.zero [] w:=by
 have hd:∀k,¬Dom St.zero [] k:=by
  intro k d
  cases k with
  | box i=>exact absurd d (Nat.not_lt_zero _)
  | loc i=>obtain⟨x,hx⟩:=d;simp at hx
 exact⟨rfl,rfl,Below.refl _ _,Nat.le_refl _,fun k d=>absurd d (hd k),fun k k' d=>absurd d (hd k),fun k d=>absurd d (hd k),fun id h=>absurd h (Nat.not_lt_zero _),
  fun id b l h hh=>(by cases hh),fun i j b l h l' h' _ hh=>(by cases hh),fun id _=>rfl,fun a ha=>⟨ha.1,ha.2,fun k d=>absurd d (hd k),fun id l h hh=>(by cases hh)⟩,fun b hb=>hb.elim,fun id b l h hh=>(by cases hh),fun id b l h T hh=>(by cases hh),fun b T hb=>absurd hb (Nat.not_lt_zero _),hG⟩
theorem U4 {f:FuncId} {args:List TV} (hcall:∀(vs:Array Value) (w:World),(callFunc f vs).run P w= .ok (.enter f vs) w) (h:Fu P f args St.zero fun r _=>r= .bool true) (w:World) (hG:∀w',Below w.heap.size w w'->GlobOK w') (vargs:List Value) (hr:AJ (Ghost.start w) w args vargs):
  Calls P f vargs.toArray w fun e w'=>e= .returned (.bool true)/\Below w.heap.size w w':=by
 have h1:=h.run (Ghost.start w) w vargs (Sim.start w hG) hr
 unfold Df at h1
 rw[hcall]at h1
 refine Calls.mono h1 ?_
 rintro e w' ⟨v,rfl,r,st',g',rfl,s',hrel,e'⟩
 have hb:=s'.below
 rw[e'.base,e'.w0]at hb
 cases hrel
 exact⟨rfl,hb⟩
end
def U9 (fn:Func):Code:=match fn.body with | some c=>c | none=> .skip
def Fw (cfg:Cfg) (P:Program) (h:JT) (fn:Func) (args:List TV) (st:St) (R:TV->St->Prop):Prop:=
 cwp cfg P fn.ntmps cfg.loc.length (U9 fn) h (retQ P fn R) (Ib cfg fn args) st
def fits (fn:Func) (args:List TV):Bool:=(fn.body.isSome).and (args.length.ble fn.ntmps)
theorem Ae {P:Program} (hm:P.follows .mixedOrders=true) {f:FuncId} {fn:Func} (hcall:∀(vs:Array Value) (w:World),(callFunc f vs).run P w= .ok (.enter f vs) w) (hf:P.funcs[f]? =some fn)
  {cfg:Cfg} {h:JT} {args:List TV} {st:St} {R:TV->St->Prop} (hn:fits fn args=true) {V:Prop} (he:Fw cfg P h fn args st R=V) (hV:V):Fu P f args st R:=by
 simp only[fits,Bool.and_eq_true]at hn
 obtain⟨c,hc⟩:=Option.isSome_iff_exists.1 hn.1
 have hb:fn.body=some (U9 fn):=by rw[U9,hc]
 rw[<-he]at hV
 exact V9 hm hcall hf hb cfg h (Nat.le_of_ble_eq_true hn.2) hV
def AT (cs:List CTy) (v:TV) (f:Fun cs Prop):Prop:=
 match v with
 | .agg l=>decL cs l f
 | _=>False
def stB (st:St) (p:TV) (xs:List TV) (k:St->Prop):Prop:=
 match p with
 | .box b off=>∃l,st.box b= .cells l/\off+xs.length<=l.length/\k (st.put b (.cells (setAll l off xs)))
 | _=>False
theorem Aa {p:Prop} [Decidable p] {x y:Prop} (h1:p->x) (h2:¬p->y):BIf (decide p) x y:=by
 by_cases h:p
 ·simp only[h,decide_true,BIf];exact h1 h
 ·simp only[h,decide_false,BIf];exact h2 h
theorem Ak {b:Bool} {x y:Prop} (h1:b=true->x) (h2:b=false->y):BIf b x y:=by
 cases b
 ·exact h2 rfl
 ·exact h1 rfl
end Go.TVF
end
section
namespace Go.TVF
open Go.IntKind(i64 u8)
structure Aq (a b:St):Prop where
 nb:a.nb<=b.nb
 box:∀i,i<a.nb->b.box i=a.box i
 nt:a.nt<=b.nt
 live:∀i,i<a.nt->b.live i=a.live i
 ty:∀i,i<a.nt->b.ty i=a.ty i
 bt:∀i,i<a.nb->b.bt i=a.bt i
theorem Aq.refl (a:St):Aq a a:=⟨Nat.le_refl _,fun _ _=>rfl,Nat.le_refl _,fun _ _=>rfl,fun _ _=>rfl,fun _ _=>rfl⟩
theorem Aq.trans {a b c:St} (h:Aq a b) (k:Aq b c):Aq a c:=
 ⟨Nat.le_trans h.nb k.nb,fun i hi=>(k.box i (Nat.lt_of_lt_of_le hi h.nb)).trans (h.box i hi),Nat.le_trans h.nt k.nt,fun i hi=>(k.live i (Nat.lt_of_lt_of_le hi h.nt)).trans (h.live i hi),fun i hi=>(k.ty i (Nat.lt_of_lt_of_le hi h.nt)).trans (h.ty i hi),fun i hi=>(k.bt i (Nat.lt_of_lt_of_le hi h.nb)).trans (h.bt i hi)⟩
theorem Aq.fresh {a b:St} (h:Aq a b) (T:Option Nat):Aq a (b.fresh T):=
 h.trans ⟨Nat.le_refl _,fun _ _=>rfl,Nat.le_succ _,fun i hi=>by simp only[St.fresh];rw[if_neg (by omega)],fun i hi=>by simp only[St.fresh];rw[if_neg (by omega)],fun _ _=>rfl⟩
theorem Aq.push {a b:St} (h:Aq a b) (o:Lb) (T:Option Nat):Aq a (b.push o T):=
 h.trans ⟨Nat.le_succ _,fun i hi=>by simp only[St.push];rw[if_neg (by omega)],Nat.le_refl _,fun _ _=>rfl,fun _ _=>rfl,fun i hi=>by simp only[St.push];rw[if_neg (by omega)]⟩
theorem Aq.retire {a b:St} (h:Aq a b) {id:Nat} (hid:a.nt<=id):Aq a (b.retire id):=
 ⟨h.nb,h.box,h.nt,fun i hi=>by simp only[St.retire];rw[if_neg (by omega)];exact h.live i hi,h.ty,h.bt⟩
theorem Aq.put {a b:St} (h:Aq a b) {i:Nat} (hi:a.nb<=i) (o:Lb):Aq a (b.put i o):=
 ⟨h.nb,fun j hj=>by simp only[St.put];rw[if_neg (by omega)];exact h.box j hj,h.nt,h.live,h.ty,h.bt⟩
theorem DS (l:B8):(AF l).length=l.length:=by simp[AF]
theorem Dy:∀l:B8,FX (AF l)=some l
 | []=>rfl
 | c::l=>by
  have:=Dy l
  simp only[AF]at this
  simp[AF,FX,Gq,Vc,this]
theorem Um (l:B8):(AF l).all Ap=true:=by simp[AF,Gq,Ap]
theorem KN (a b:B8):AF a++AF b=AF (a++b):=by simp[AF]
def Rd (sz:Nat) (v:TV) (n:Nat) (xs:List TV):Prop:=
 (v= .nilSlice/\n=0/\xs=[])∨∃tip,v= .list sz tip n xs
def Own (b sz:Nat) (st:St) (v:TV) (n:Nat) (xs:List TV):Prop:=
 (v= .nilSlice/\n=0/\xs=[])∨∃tip,v= .list sz tip n xs/\(tip= .full∨∃id,tip= .own id/\b<=id/\id<st.nt/\st.live id=true)
theorem Own.rd {b sz:Nat} {st:St} {v:TV} {n:Nat} {xs:List TV} (h:Own b sz st v n xs):Rd sz v n xs:=by
 rcases h with h | ⟨tip,h,_⟩
 ·exact .inl h
 ·exact .inr ⟨tip,h⟩
theorem Own.ext {b sz:Nat} {st st':St} {v:TV} {n:Nat} {xs:List TV} (h:Own b sz st v n xs) (e:Aq st st'):Own b sz st' v n xs:=by
 rcases h with h | ⟨tip,h,ht | ⟨id,h1,h2,h3,h4⟩⟩
 ·exact .inl h
 ·exact .inr ⟨tip,h,.inl ht⟩
 ·exact .inr ⟨tip,h,.inr ⟨id,h1,h2,Nat.lt_of_lt_of_le h3 e.nt,(e.live id h3).trans h4⟩⟩
theorem Own.nil (b sz:Nat) (st:St):Own b sz st .nilSlice 0 []:= .inl ⟨rfl,rfl,rfl⟩
theorem Own.full (b sz:Nat) (st:St) (n:Nat) (xs:List TV):Own b sz st (.list sz .full n xs) n xs:= .inr ⟨_,rfl,.inl rfl⟩
theorem Own.fresh {b sz:Nat} {st:St} {T:Option Nat} (n:Nat) (xs:List TV) (hb:b<=st.nt):Own b sz (st.fresh T) (.list sz (.own st.nt) n xs) n xs:=
 .inr ⟨_,rfl,.inr ⟨st.nt,rfl,hb,Nat.lt_succ_self _,by simp[St.fresh]⟩⟩
theorem Rd.isSl {sz:Nat} {v:TV} {n:Nat} {xs:List TV} (h:Rd sz v n xs):TVF.isSl v=true:=by
 rcases h with⟨rfl,_⟩ | ⟨tip,rfl⟩<;>rfl
theorem Rd.lenS {sz:Nat} {v:TV} {n:Nat} {xs:List TV} (h:Rd sz v n xs):TVF.lenS v=n:=by
 rcases h with⟨rfl,rfl,_⟩ | ⟨tip,rfl⟩<;>rfl
theorem Rd.lenZ {sz:Nat} {v:TV} {n:Nat} {xs:List TV} (h:Rd sz v n xs):TVF.lenZ sz v=n:=by
 rcases h with⟨rfl,rfl,_⟩ | ⟨tip,rfl⟩
 ·rfl
 ·simp[TVF.lenZ]
theorem Rd.one {sz:Nat} {v:TV} {n:Nat} {xs:List TV} (h:Rd sz v n xs):Ap v=true:=by
 rcases h with⟨rfl,rfl,_⟩ | ⟨tip,rfl⟩<;>rfl
theorem Rd.ld {sz:Nat} {v:TV} {n:Nat} {xs:List TV} (h:Rd sz v n xs) (st:St) (i j:Nat) (hi:i*sz+j<xs.length):Ac st [] (.t (ixT sz v i)) j=some xs[i*sz+j]:=by
 rcases h with⟨rfl,rfl,rfl⟩ | ⟨tip,rfl⟩
 ·simp at hi
 ·simp[Ac,ixT,hi]
theorem Rd.ldf {sz:Nat} {v:TV} {n:Nat} {xs:List TV} (h:Rd sz v n xs) (st:St) (i f:Nat) (hi:i*sz+f<xs.length):Ac st [] (.t (Ao (ixT sz v i) f)) 0=some xs[i*sz+f]:=by
 rcases h with⟨rfl,rfl,rfl⟩ | ⟨tip,rfl⟩
 ·simp at hi
 ·simp[Ac,ixT,Ao,hi]
theorem src_str (st:St) (l:B8):JP st 1 (.str l)=some (l.length,AF l):=rfl
theorem Bz {T b sz bytes:Nat} {st0 st:St} {v:TV} {n k:Nat} {xs ys:List TV} {K:TV->St->Prop} (e:Aq st0 st) (hb:b=st0.nt) (h:Own b sz st v n xs) (hby:(n+k)*bytes<=140737488355328) (hys:k=0->ys=[])
  (hK:∀v' st',Aq st0 st'->st'.box=st.box->Own b sz st' v' (n+k) (xs++ys)->K v' st'):AV T sz bytes v k ys st K:=by
 subst hb
 rcases h with⟨rfl,rfl,rfl⟩ | ⟨tip,rfl,ht⟩
 ·simp only[AV]
  cases k with
  | zero=>rw[hys rfl]at hK;exact hK _ _ e rfl (.nil _ _ _)
  | succ m=>
   simp only[Au]
   refine⟨by simpa using hby,hK _ _ (e.fresh _) rfl ?_⟩
   simp only[List.nil_append,Nat.zero_add]
   exact Own.fresh _ _ e.nt
 ·simp only[AV,Nat.beq_refl]
  refine⟨hby,?_⟩
  rcases ht with rfl | ⟨id,rfl,h1,h2,h3⟩
  ·cases k with
   | zero=>rw[hys rfl]at hK;simp only[List.append_nil]at hK;exact hK _ _ e rfl (Own.full _ _ _ _ _)
   | succ m=>exact hK _ _ (e.fresh _) rfl (Own.fresh _ _ e.nt)
  ·exact⟨h3,hK _ _ ((e.retire h1).fresh _) rfl (Own.fresh (st:=st.retire id) _ _ e.nt)⟩
theorem Ab {b:Bool} {k:Prop} (h:b=true) (hk:k):need b k:=Au.2 ⟨h,hk⟩
theorem Ad {α:Type} {o:Option α} {x:α} {k:α->Prop} (h:o=some x) (hk:k x):Ag o k:=by rw[h];exact hk
theorem Ah (x:Int) (h1: -9223372036854775808<=x) (h2:x<=9223372036854775807):IntKind.wrap .i64 x=x:=by
 unfold IntKind.wrap
 simp only[IntKind.signed,IntKind.bits]
 simp
 omega
theorem LZ (x:Int) (h1:0<=x) (h2:x<=255):IntKind.wrap .u8 x=x:=by
 unfold IntKind.wrap
 simp only[IntKind.signed,IntKind.bits]
 simp
 omega
end Go.TVF
end
section
namespace Go.TVF
open Go.IntKind(i64 u8)
open Go.RowKit (Below)
theorem Yx {r:TV} {st':St} (h:Hb [.one .bool] r (fun (b:Bool) (_:St)=>b=true) (fun p=>p st')):r= .bool true:=by
 cases r<;>simp only[Hb,Gm,Af]at h<;>first | exact h.elim | skip
 subst h;rfl
theorem calls_law {P:Program} {f:FuncId} {args:List TV} (hcall:∀(vs:Array Value) (w:World),(callFunc f vs).run P w= .ok (.enter f vs) w) (h:CallT P f args [.one .bool] St.zero (fun r _=>r=true)) (w:World) (hG:∀w',Below w.heap.size w w'->GlobOK w') (vargs:List Value) (hr:AJ (Ghost.start w) w args vargs):
  Calls P f vargs.toArray w fun e w'=>e= .returned (.bool true)/\Below w.heap.size w w':=
 U4 hcall (Fu.mono h fun r st' hd=>Yx hd) w hG vargs hr
theorem Ow (g:Ghost) (w:World) (s:ByteArray):Rel g w (.str s.data.toList) (.string s):=by
 have:=Rel.str (g:=g) (w:=w) s.data.toList
 simpa using this
def flatIs:List CTy->List TV->Prop
 | [],xs=>xs=[]
 | .int k::cs,xs=>∃n ys,xs= .int k n::ys/\(Lit.int k n).wf=true/\flatIs cs ys
 | .str::cs,xs=>∃l ys,xs= .str l::ys/\l.length<=maxLen/\flatIs cs ys
 | .bool::cs,xs=>∃b ys,xs= .bool b::ys/\flatIs cs ys
 | .tv::_,_=>False
def R0 (P:Program):CTy->TypeId->Prop
 | .int k,t=>P.underlying t=some (.int k)
 | .bool,t=>P.underlying t=some .bool
 | .str,t=>P.underlying t=some .string
 | .tv,_=>False
def FieldsTy (P:Program):List CTy->List Field->Nat->Prop
 | [],[],_=>True
 | c::cs,f::fs,o=>f.offset=o/\P.cellsOf f.type=1/\R0 P c f.type/\FieldsTy P cs fs (o+1)
 | _,_,_=>False
section
variable {H:Type} {enc:TypeId×Value->H} {P:Program} {w:World} {base:Nat} {sp:Nat->Bool} {held:Bool}
theorem MA {c:CTy} {t:TypeId} {fuel:Nat} {cs:List Value} {x:DataW H×List MemPlace} (g:Ghost) (hc:R0 P c t) (h:DataW.trod enc P w base sp held fuel t cs=some x):
  ∃v u,cs=[u]/\Rel g w v u/\flatIs [c] [v]:=by
 cases c with
 | int k=>
  obtain⟨n,rfl,_,hw⟩:=DataW.trod_int hc h
  exact⟨_,_,rfl,.int k n,n,[],rfl,hw,rfl⟩
 | bool=>
  obtain⟨b,rfl,_⟩:=DataW.trod_bool hc h
  exact⟨_,_,rfl,.bool b,b,[],rfl,rfl⟩
 | str=>
  obtain⟨s,rfl,_,hs⟩:=DataW.trod_string hc h
  exact⟨_,_,rfl,Ow g w s,_,[],rfl,by rw[Array.length_toList];exact hs,rfl⟩
 | tv=>exact hc.elim
theorem flatIs.cons {c:CTy} {cs:List CTy} {v:TV} {xs:List TV} (h:flatIs [c] [v]) (k:flatIs cs xs):flatIs (c::cs) (v::xs):=by
 cases c with
 | int _=>
  obtain⟨n,ys,h1,h2,_⟩:=h
  simp only[List.cons.injEq]at h1
  exact⟨n,xs,by rw[h1.1],h2,k⟩
 | bool=>
  obtain⟨b,ys,h1,_⟩:=h
  simp only[List.cons.injEq]at h1
  exact⟨b,xs,by rw[h1.1],k⟩
 | str=>
  obtain⟨l,ys,h1,h2,_⟩:=h
  simp only[List.cons.injEq]at h1
  exact⟨l,xs,by rw[h1.1],h2,k⟩
 | tv=>exact h.elim
theorem M7 {n:Nat} {vs:List Value} (g:Ghost):∀(cs:List CTy) (fs:List Field) (o:Nat) (xs:List (DataW H×List MemPlace)),FieldsTy P cs fs o->xs.length=fs.length->vs.length=o+cs.length->
  (∀(i:Nat) (f:Field),fs[i]? =some f->DataW.trod enc P w base sp held n f.type ((vs.drop f.offset).take (P.cellsOf f.type))=xs[i]?)->∃tv,AJ g w tv (vs.drop o)/\flatIs cs tv
 | [],[],o,xs,_,_,hl,_=>⟨[],by rw[List.drop_of_length_le (by simp at hl;omega)];exact .nil _ _,rfl⟩
 | c::cs,f::fs,o,[],_,hx,_,_=>by simp at hx
 | c::cs,f::fs,o,x::xs,ht,hx,hl,hd=>by
  obtain⟨h1,h2,h3,h4⟩:=ht
  have hd0:=hd 0 f rfl
  rw[h1,h2]at hd0
  obtain⟨v,u,hu,hr,hf⟩:=MA g h3 hd0
  obtain⟨tv,hr',hf'⟩:=M7 (n:=n) (vs:=vs) g cs fs (o+1) xs h4 (by simpa using hx) (by simp at hl;omega) (fun i f' hi=>by simpa using hd (i+1) f' (by simpa using hi))
  refine⟨v::tv,?_,hf.cons hf'⟩
  have hlt:o<vs.length:=by simp at hl;omega
  rw[List.drop_eq_getElem_cons hlt]
  rw[List.drop_eq_getElem_cons hlt]at hu
  simp only[List.take_succ_cons,List.take_zero,List.cons.injEq]at hu
  rw[hu.1]
  exact .cons hr hr'
 | [],f::fs,o,xs,ht,_,_,_=>ht.elim
 | c::cs,[],o,xs,ht,_,_,_=>ht.elim
theorem Pi (b off i:Nat):(⟨b,off,none⟩:Addr).add i=⟨b,off+i,none⟩:=by
 unfold Addr.add;split
 ·rename_i h;subst h;rfl
 ·rfl
def Opens (enc:TypeId×Value->H) (P:Program) (w:World) (base:Nat) (sp:Nat->Bool) (held:Bool) (cs:List CTy) (e:TypeId):Prop:=
 ∀(g:Ghost) n vs x,DataW.trod enc P w base sp held n e vs=some x->∃tv,AJ g w tv vs/\flatIs cs tv
theorem opens_struct {cs:List CTy} {e:TypeId} {fs:Array Field} (ht:P.underlying e=some (.struct fs)) (hf:FieldsTy P cs fs.toList 0) (hc:P.cellsOf e=cs.length):Opens enc P w base sp held cs e:=fun g n vs x hd=>by
 obtain⟨xs,m,rfl,_,hl,hx,hi⟩:=DataW.trod_struct ht hd
 have:=M7 (enc:=enc) (P:=P) (w:=w) (base:=base) (sp:=sp) (held:=held) (n:=m) (vs:=vs) g cs fs.toList 0 xs hf (by simpa using hx) (by omega) (fun i f h=>hi i f (by simpa using h))
 simpa using this
end
end Go.TVF
end
namespace Go.TVF
open Go.IntKind(i64 u8)
open Go Go.Proofs
theorem mixed:Tryz.prog.follows .mixedOrders=true:=by kernel_rfl
noncomputable def PR:Program:=Tryz.prog
abbrev V13(X:Type):=Int->Bool->Bool->B8->Int->Int->Int->Int->Int->B8->TV->TV->TV->X
abbrev sV:RTy:=.agg [.int .i64,.bool,.bool,.str,.int .i64,.int .i64,.int .i64,.int .i64,.int .i64,.str,.tv,.tv,.tv]
abbrev cV(a:Int)(b c:Bool)(d:B8)(e f g h i:Int)(j:B8)(k l m:TV):List TV:=[.int .i64 a,.bool b,.bool c,.str d,.int .i64 e,.int .i64 f,.int .i64 g,.int .i64 h,.int .i64 i,.str j,k,l,m]
abbrev BId(p:Prop)[Decidable p](a b:Prop):Prop:=BIf (decide p) a b
def fn_datakitlaw28_GridLocates:Nat:=10
def Bj:Nat:=33
def Ii:Nat:=34
def Cz:Nat:=37
def B9:Nat:=38
def Ij:Nat:=39
def CX:Nat:=41
def EZ:Nat:=42
def Cr:Nat:=45
def Gi:Nat:=47
def CC:Nat:=48
def Gh:Nat:=53
def Eu:Nat:=55
def G5:Nat:=56
def G4:Nat:=57
def Gf:Nat:=58
def BQ:Nat:=62
def BT:Nat:=63
def Dp:Nat:=69
def Gg:Nat:=70
def CU:Nat:=71
def CZ:Nat:=72
def CV:Nat:=73
def CW:Nat:=86
def Ig:Nat:=87
def CQ:Nat:=93
def KH:Nat:=94
def G2:Nat:=95
def Cq:Nat:=96
def FP:Nat:=97
def CM:Nat:=98
def EW:Nat:=99
def Cg:Nat:=100
def Da:Nat:=101
def C0:Nat:=102
def D4:Nat:=103
def Cb:Nat:=104
def EP:Nat:=105
def Fo:Nat:=106
def CD:Nat:=107
def Cs:Nat:=108
def G6:Nat:=110
def Ih:Nat:=111
def BU:Nat:=112
def DJ:Nat:=113
def EO:Nat:=118
def CA:Nat:=119
def DV:Nat:=120
def GI:Nat:=121
def EY:Nat:=122
def B1:Nat:=123
def Dm:Nat:=124
def DL:Nat:=127
def BJ:Nat:=128
def A8:Nat:=129
def Ev:Nat:=130
def AN:Nat:=131
def BC:Nat:=132
def EX:Nat:=133
def D1:Nat:=143
def Ep:Nat:=144
def Et:Nat:=145
def AE:Nat:=146
def BV:Nat:=155
def A1:Nat:=156
def Dq:Nat:=157
def EQ:Nat:=158
def DI:Nat:=159
def CN:Nat:=160
def CT:Nat:=161
def Fq:Nat:=162
def AA:Nat:=163
def Bx:Nat:=164
def C9:Nat:=165
def CH:Nat:=166
def A9:Nat:=167
def AL:Nat:=168
def DK:Nat:=169
def Av:Nat:=170
def AQ:Nat:=171
def A5:Nat:=172
def E0:Nat:=173
def CR:Nat:=174
def CY:Nat:=175
def BS:Nat:=176
def Cc:Nat:=177
def DB:Nat:=179
def Dt:Nat:=180
def Ds:Nat:=181
def Bh:Nat:=191
def Al:Nat:=192
def AO:Nat:=193
def AI:Nat:=194
def If:Nat:=195
def AP:Nat:=196
def Ge:Nat:=197
def DD:Nat:=198
def CL:Nat:=199
def G1:Nat:=200
def Be:Nat:=202
def Fn:Nat:=203
def CE:Nat:=204
def BR:Nat:=205
def Ai:Nat:=206
def Ca:Nat:=207
def AW:Nat:=208
def AD:Nat:=209
def JH:Nat:=210
def G3:Nat:=211
def Ie:Nat:=212
def Eo:Nat:=221
def DC:Nat:=222
def Bk:Nat:=223
def Bg:Nat:=224
def Do:Nat:=225
def CF:Nat:=233
def Bi:Nat:=234
def DW:Nat:=235
def Fm:Nat:=236
def Fp:Nat:=241
def Bc:Nat:=242
def BP:Nat:=243
def AC:Nat:=244
def Br:Nat:=245
def AR:Nat:=246
def Bs:Nat:=247
def BW:Nat:=248
def Dd:Nat:=249
def Db:Nat:=250
def CG:Nat:=251
def FQ:Nat:=252
def Bp:Nat:=253
def Cl:Nat:=254
def K7:Nat:=256
def B7:Nat:=265
def Bv:Nat:=266
def DZ:Nat:=267
def Fl:Nat:=268
def Id:Nat:=269
def BE:Nat:=271
def Es:Nat:=277
def ES:Nat:=278
def AH:Nat:=279
def Ba:Nat:=286
def Dn:Nat:=289
def Ay:Nat:=290
def B2:Nat:=291
def De:Nat:=292
def ER:Nat:=293
def Dc:Nat:=294
def Dr:Nat:=295
def CB:Nat:=299
def Iw:Nat:=300
def G7:Nat:=301
def BD:Nat:=302
def Er:Nat:=306
def GJ:Nat:=307
def CI:Nat:=316
def B3:Nat:=320
def Wb:B8:=[97,44,98,10,49,44,120,10,34,49,34,44,10]
def str10:B8:=[49]
def str11:B8:=[34,49,34]
def Kt:B8:=[116,114,117,101]
def Vx:B8:=[102,97,108,115,101]
def Ls:B8:=[48]
def E6:B8:=[45]
def Ks:B8:=[46]
def Vw:B8:=[48,46]
def Xa:B8:=[101]
def Ok:B8:=[84]
def Sr:B8:=[43]
def str21:B8:=[100,100,100,100,45,100,100,45,100,100]
def W9:B8:=[101,45]
def DH:B8:=[58]
def str24:B8:=[90]
def str25:B8:=[84,116,32]
def str26:B8:=[100,100,58,100,100,58,100,100]
def E5:B8:=[48,48,48,48,48,48,48,48,48]
def str28:B8:=[122]
def str29:B8:=[43,100,100,58,100,100]
def str30:B8:=[45,100,100,58,100,100]
def str31:B8:=[90,122,43,45]
def str32:B8:=[57,50,50,51,51,55,50,48,51,54,56,53,52,55,55,53,56,48,55]
theorem FF (n_0:Int) (n_1:B8) (n_2:B8) (n_3:TV) (n_4:B8) (d_0:Int) (d_1:Int) (d_2:Bool) (d_3:Bool) (p:TV) (st:St) (K:Bool->St->Prop) (h:CallT PR CX [(.agg [.int .i64 n_0,.str n_1,.str n_2,n_3,.str n_4]),.int .i64 600,.int .i64 10,.int .i64 1500] [.one .bool] st (fun (b1:Bool) e=>BIf (!b1) (CallT PR Bj [] [.one .bool] e (fun (b2:Bool) k=>K b2 k)) (need (isSl p) (BId ((60:Int)<(lenS p:Int)) (CallT PR Bj [] [.one .bool] e (fun (b3:Bool) j=>K b3 j)) (CallT PR Gi [(.agg [.int .i64 n_0,.str n_1,.str n_2,n_3,.str n_4]),(.agg [.int .u8 d_0,.int .u8 d_1,.bool d_2,.bool d_3]),p] [.one .tv,.one (.int .i64)] e (fun (v1:TV) (n1:Int) i=>CallT PR CC [(.agg [.int .i64 n_0,.str n_1,.str n_2,n_3,.str n_4]),(.agg [.int .u8 d_0,.int .u8 d_1,.bool d_2,.bool d_3]),p] [.one .tv,.one (.int .i64)] i (fun (v2:TV) (n2:Int) f=>need (isSl v1) (need (isSl v2) (BId ((lenS v1:Int)≠(lenS v2:Int)) (K false f) (BId (n1≠n2) (K false f) (∃(I1:Int->TV->TV->St->Prop) (M1:Int->TV->TV->St->Nat),(I1 0 v1 v2 f)/\∀a b d c,I1 a b d c->(need (isSl b) (BId (a<(lenS b:Int)) (((0<=a/\a<(lenZ 1 b:Int))/\Ag (Ac c [] (.t (ixT 1 b a.toNat)) 0) (fun (x1:TV)=>Af (.int .i64) x1 (fun (n3:Int)=>((0<=a/\a<(lenZ 1 d:Int))/\Ag (Ac c [] (.t (ixT 1 d a.toNat)) 0) (fun (x2:TV)=>Af (.int .i64) x2 (fun (n4:Int)=>BId (n3≠n4) (K false c) ((I1 ((i64.wrap (a+(1:Int)))) b d c/\M1 ((i64.wrap (a+(1:Int)))) b d c<M1 a b d c))))))))) (CallT PR Bj [] [.one .bool] c (fun (b4:Bool) g=>K b4 g))))))))))))))):CallT PR fn_datakitlaw28_GridLocates [(.agg [.int .i64 n_0,.str n_1,.str n_2,n_3,.str n_4]),(.agg [.int .u8 d_0,.int .u8 d_1,.bool d_2,.bool d_3]),p] [.one .bool] st K:=
 Ae (cfg:=⟨[3,4],[],[]⟩) (h:=(.seq .none (.seq .none (.seq .none (.seq .none (.seq .none (.seq (.seq .none (.block (.loop ⟨[(11,.int .i64),(7,.tv),(9,.tv)],[],[],[]⟩ .none))) .none))))))) mixed (fun _ _=>Tryz.call10 _ _) Tryz.func10 (by kernel_rfl) (by kernel_rfl) h
theorem I0 (st:St) (K:Bool->St->Prop) (h:CallT PR BQ [] [.agg [.int .u8,.int .u8,.bool,.bool]] st (fun (n1 n2:Int) (b1 b2:Bool) g=>CallT PR CW [] [.agg [.int .i64,.int .i64,.int .i64,.int .i64,.int .i64]] g (fun (n3 n4 n5 n6 n7:Int) p=>CallT PR Ij [.str Wb,(.agg [.int .u8 n1,.int .u8 n2,.bool b1,.bool b2]),(.agg [.int .i64 n3,.int .i64 n4,.int .i64 n5,.int .i64 n6,.int .i64 n7])] [sV,.one (.int .i64),.one (.int .i64)] p (fun (n8:Int) (b3 b4:Bool) (s1:B8) (n9 j k l d:Int) (s2:B8) (v1 v2 v3:TV) (q f:Int) o=>need (List.all (cV n8 b3 b4 s1 n9 j k l d s2 v1 v2 v3) Ap) (CallT PR BQ [] [.agg [.int .u8,.int .u8,.bool,.bool]] o (fun (b e:Int) (b5 b6:Bool) i=>CallT PR Ii [(.agg (cV 4 false false [] 0 0 0 0 0 str10 .nilSlice .nilSlice .nilSlice)),(.agg [.int .u8 b,.int .u8 e,.bool b5,.bool b6])] [.one .str,.one (.int .i64)] i (fun (s3:B8) (c:Int) a=>BId (f=0) (need (isSl v2) (BId ((lenS v2:Int)=(2:Int)) (((0<=(1:Int)/\(1:Int)<(lenZ 13 v2:Int))/\need (isPtr (ixT 13 v2 (Int.toNat (1:Int)))) (Ag (Ac a [] (.t (Ao (ixT 13 v2 (Int.toNat (1:Int))) 12)) 0) (fun (v4:TV)=>need (isSl v4) (BId ((lenS v4:Int)=(2:Int)) (((0<=(1:Int)/\(1:Int)<(lenZ 13 v2:Int))/\need (isPtr (ixT 13 v2 (Int.toNat (1:Int)))) (Ag (Ac a [] (.t (Ao (ixT 13 v2 (Int.toNat (1:Int))) 12)) 0) (fun (v5:TV)=>((0<=(0:Int)/\(0:Int)<(lenZ 14 v5:Int))/\need (isPtr (ixT 14 v5 (Int.toNat (0:Int)))) (need (isPtr (Ao (ixT 14 v5 (Int.toNat (0:Int))) 1)) (Ag (Ac a [] (.t (Ao (Ao (ixT 14 v5 (Int.toNat (0:Int))) 1) 9)) 0) (fun (x3:TV)=>Af .str x3 (fun (s4:B8)=>BId (s4=str10) (((0<=(0:Int)/\(0:Int)<(lenZ 13 v2:Int))/\need (isPtr (ixT 13 v2 (Int.toNat (0:Int)))) (Ag (Ac a [] (.t (Ao (ixT 13 v2 (Int.toNat (0:Int))) 12)) 0) (fun (v6:TV)=>((0<=(0:Int)/\(0:Int)<(lenZ 14 v6:Int))/\need (isPtr (ixT 14 v6 (Int.toNat (0:Int)))) (need (isPtr (Ao (ixT 14 v6 (Int.toNat (0:Int))) 1)) (Ag (Ac a [] (.t (Ao (Ao (ixT 14 v6 (Int.toNat (0:Int))) 1) 0)) 0) (fun (x5:TV)=>Af (.int .i64) x5 (fun (m:Int)=>BId (m=2) (((0<=(1:Int)/\(1:Int)<(lenZ 13 v2:Int))/\need (isPtr (ixT 13 v2 (Int.toNat (1:Int)))) (Ag (Ac a [] (.t (Ao (ixT 13 v2 (Int.toNat (1:Int))) 12)) 0) (fun (v7:TV)=>((0<=(1:Int)/\(1:Int)<(lenZ 14 v7:Int))/\need (isPtr (ixT 14 v7 (Int.toNat (1:Int)))) (need (isPtr (Ao (ixT 14 v7 (Int.toNat (1:Int))) 1)) (Ag (Ac a [] (.t (Ao (Ao (ixT 14 v7 (Int.toNat (1:Int))) 1) 0)) 0) (fun (x7:TV)=>Af (.int .i64) x7 (fun (n:Int)=>BId (n=0) (BId (s3=str11) (K ((decide (c=0))) a) (K false a)) (K false a)))))))))) (K false a)))))))))) (K false a)))))))))) (K false a)))))) (K false a))) (K false a)))))))):CallT PR Bj [] [.one .bool] st K:=
 Ae (cfg:=⟨[1],[],[]⟩) (h:= .none) mixed (fun _ _=>Tryz.call33 _ _) Tryz.func33 (by kernel_rfl) (by kernel_rfl) h
theorem QZ (v_0:Int) (v_1:Bool) (v_2:Bool) (v_3:B8) (v_4:Int) (v_5:Int) (v_6:Int) (v_7:Int) (v_8:Int) (v_9:B8) (v_10:TV) (v_11:TV) (v_12:TV) (d_0:Int) (d_1:Int) (d_2:Bool) (d_3:Bool) (st:St) (K:B8->Int->St->Prop) (h:CallT PR Dp [(.agg [.int .u8 d_0,.int .u8 d_1,.bool d_2,.bool d_3])] [.one .bool] st (fun (b1:Bool) a=>BIf (!b1) (K [] 1 a) (CallT PR Gf [(.agg (cV v_0 v_1 v_2 v_3 v_4 v_5 v_6 v_7 v_8 v_9 v_10 v_11 v_12))] [.one (.int .i64)] a (fun (n1:Int) b=>BId (n1≠0) (K [] n1 b) (CallT PR Ig [(.agg (cV v_0 v_1 v_2 v_3 v_4 v_5 v_6 v_7 v_8 v_9 v_10 v_11 v_12)),(.agg [.int .u8 d_0,.int .u8 d_1,.bool d_2,.bool d_3])] [.one .str,.one (.int .i64)] b (fun (s1:B8) (n2:Int) c=>K s1 n2 c)))))):CallT PR Ii [(.agg (cV v_0 v_1 v_2 v_3 v_4 v_5 v_6 v_7 v_8 v_9 v_10 v_11 v_12)),(.agg [.int .u8 d_0,.int .u8 d_1,.bool d_2,.bool d_3])] [.one .str,.one (.int .i64)] st K:=
 Ae (cfg:=⟨[2,3],[],[]⟩) (h:= .none) mixed (fun _ _=>Tryz.call34 _ _) Tryz.func34 (by kernel_rfl) (by kernel_rfl) h
theorem Q1 (s:B8) (quoted:Bool) (d_0:Int) (d_1:Int) (d_2:Bool) (d_3:Bool) (st:St) (K:V13 (St->Prop)) (h:BIf (!d_3) (CallT PR CQ [.str s] [sV] st (fun (n1:Int) (b1 b2:Bool) (s1:B8) (n2 n3 n4 n5 n6:Int) (s2:B8) (v1 v2 v3:TV) m1=>need (List.all (cV n1 b1 b2 s1 n2 n3 n4 n5 n6 s2 v1 v2 v3) Ap) (K n1 b1 b2 s1 n2 n3 n4 n5 n6 s2 v1 v2 v3 m1))) (BIf quoted (CallT PR CQ [.str s] [sV] st (fun (n7:Int) (b3 b4:Bool) (s3:B8) (n8 n9 f0 y i:Int) (s4:B8) (v4 v5 v6:TV) l6=>need (List.all (cV n7 b3 b4 s3 n8 n9 f0 y i s4 v4 v5 v6) Ap) (K n7 b3 b4 s3 n8 n9 f0 y i s4 v4 v5 v6 l6))) (BId (s=([]:B8)) (CallT PR KH [] [sV] st (fun (x:Int) (b5 b6:Bool) (s5:B8) (g8 f5 c0 i4 e1:Int) (s6:B8) (v7 v8 v9:TV) l4=>need (List.all (cV x b5 b6 s5 g8 f5 c0 i4 e1 s6 v7 v8 v9) Ap) (K x b5 b6 s5 g8 f5 c0 i4 e1 s6 v7 v8 v9 l4))) (BId (s=Kt) (BId (s=Kt) (CallT PR G2 [(.bool (decide (s=Kt)))] [sV] st (fun (d9:Int) (b7 b8:Bool) (s7:B8) (c9 g5 j6 g4 h2:Int) (s8:B8) (e0 d1 j3:TV) l0=>need (List.all (cV d9 b7 b8 s7 c9 g5 j6 g4 h2 s8 e0 d1 j3) Ap) (K d9 b7 b8 s7 c9 g5 j6 g4 h2 s8 e0 d1 j3 l0))) (CallT PR Cq [.str s] [.agg [.bool,.str,.int .i64],.one (.int .i64)] st (fun (b9:Bool) (s9:B8) (l3 k8:Int) w=>BId (k8=0) (CallT PR FP [(.agg [.bool b9,.str s9,.int .i64 l3])] [sV] w (fun (g9:Int) (d5 v:Bool) (h7:B8) (r z f3 a5 u:Int) (g6:B8) (a0 g0 j1:TV) m3=>need (List.all (cV g9 d5 v h7 r z f3 a5 u g6 a0 g0 j1) Ap) (K g9 d5 v h7 r z f3 a5 u g6 a0 g0 j1 m3))) (CallT PR CM [.str s] [.agg [.int .i64,.int .i64,.int .i64,.int .i64],.one (.int .i64)] w (fun (k3 l8 k9 k7 m4:Int) j5=>BId (m4=0) (CallT PR EW [(.agg [.int .i64 k3,.int .i64 l8,.int .i64 k9,.int .i64 k7])] [sV] j5 (fun (h5:Int) (f8 a9:Bool) (h0:B8) (i6 h9 f o k:Int) (f6:B8) (c5 i5 e7:TV) l9=>need (List.all (cV h5 f8 a9 h0 i6 h9 f o k f6 c5 i5 e7) Ap) (K h5 f8 a9 h0 i6 h9 f o k f6 c5 i5 e7 l9))) (CallT PR CQ [.str s] [sV] j5 (fun (g:Int) (e6 f2:Bool) (h1:B8) (c7 i8 d6 c1 j2:Int) (e4:B8) (e2 a1 c3:TV) l1=>need (List.all (cV g e6 f2 h1 c7 i8 d6 c1 j2 e4 e2 a1 c3) Ap) (K g e6 f2 h1 c7 i8 d6 c1 j2 e4 e2 a1 c3 l1)))))))) (BId (s=Vx) (CallT PR G2 [(.bool (decide (s=Kt)))] [sV] st (fun (g2:Int) (h3 q:Bool) (g3:B8) (j7 f4 i0 f9 c4:Int) (d:B8) (i1 i7 t:TV) j9=>need (List.all (cV g2 h3 q g3 j7 f4 i0 f9 c4 d i1 i7 t) Ap) (K g2 h3 q g3 j7 f4 i0 f9 c4 d i1 i7 t j9))) (CallT PR Cq [.str s] [.agg [.bool,.str,.int .i64],.one (.int .i64)] st (fun (l5:Bool) (k6:B8) (k5 l2:Int) b=>BId (l2=0) (CallT PR FP [(.agg [.bool l5,.str k6,.int .i64 k5])] [sV] b (fun (p:Int) (i2 a7:Bool) (f7:B8) (a4 f1 i9 e8 c6:Int) (d0:B8) (i3 d7 l:TV) k0=>need (List.all (cV p i2 a7 f7 a4 f1 i9 e8 c6 d0 i3 d7 l) Ap) (K p i2 a7 f7 a4 f1 i9 e8 c6 d0 i3 d7 l k0))) (CallT PR CM [.str s] [.agg [.int .i64,.int .i64,.int .i64,.int .i64],.one (.int .i64)] b (fun (k2 m0 l7 k4 m2:Int) a=>BId (m2=0) (CallT PR EW [(.agg [.int .i64 k2,.int .i64 m0,.int .i64 l7,.int .i64 k4])] [sV] a (fun (j0:Int) (c2 d3:Bool) (j4:B8) (d2 e9 e3 a3 a8:Int) (g7:B8) (d8 a6 h4:TV) k1=>need (List.all (cV j0 c2 d3 j4 d2 e9 e3 a3 a8 g7 d8 a6 h4) Ap) (K j0 c2 d3 j4 d2 e9 e3 a3 a8 g7 d8 a6 h4 k1))) (CallT PR CQ [.str s] [sV] a (fun (c:Int) (a2 n:Bool) (c8:B8) (e j h8 g1 m:Int) (e5:B8) (d4 b0 h6:TV) j8=>need (List.all (cV c a2 n c8 e j h8 g1 m e5 d4 b0 h6) Ap) (K c a2 n c8 e j h8 g1 m e5 d4 b0 h6 j8)))))))))))):CallT PR Cz [.str s,.bool quoted,(.agg [.int .u8 d_0,.int .u8 d_1,.bool d_2,.bool d_3])] [sV] st K:=
 Ae (cfg:=⟨[5,6,7,9],[],[]⟩) (h:= .none) mixed (fun _ _=>Tryz.call37 _ _) Tryz.func37 (by kernel_rfl) (by kernel_rfl) h
theorem Jf (s:B8) (quoted:Bool) (d_0:Int) (d_1:Int) (d_2:Bool) (d_3:Bool) (st:St) (K:V13 (St->Prop)) (h:BIf quoted (K 4 false false [] 0 0 0 0 0 s .nilSlice .nilSlice .nilSlice st) (BIf (!d_3) (K 4 false false [] 0 0 0 0 0 s .nilSlice .nilSlice .nilSlice st) (∃(C1:B8->V13 (V13 (St->Prop))),(BId (s=([]:B8)) (K 0 false false [] 0 0 0 0 0 [] .nilSlice .nilSlice .nilSlice st) (BId (s=Kt) (BId (s=Kt) (K 1 ((decide (s=Kt))) false [] 0 0 0 0 0 [] .nilSlice .nilSlice .nilSlice st) (C1 s 0 false false [] 0 0 0 0 0 [] .nilSlice .nilSlice .nilSlice 4 false false [] 0 0 0 0 0 s .nilSlice .nilSlice .nilSlice st)) (BId (s=Vx) (K 1 ((decide (s=Kt))) false [] 0 0 0 0 0 [] .nilSlice .nilSlice .nilSlice st) (C1 s 0 false false [] 0 0 0 0 0 [] .nilSlice .nilSlice .nilSlice 4 false false [] 0 0 0 0 0 s .nilSlice .nilSlice .nilSlice st))))/\∀d n1 b1 b2 s1 n2 n3 n4 n5 n6 s2 v1 v2 v3 n7 b3 b4 s3 n8 n9 a b c s4 v4 v5 v6 e,C1 d n1 b1 b2 s1 n2 n3 n4 n5 n6 s2 v1 v2 v3 n7 b3 b4 s3 n8 n9 a b c s4 v4 v5 v6 e->(CallT PR Cg [.str d] [.one .bool,.one .bool] e (fun (b5 b6:Bool) i=>BIf b5 (CallT PR Da [.str d] [.agg [.bool,.str,.int .i64],.one (.int .i64)] i (fun (b7:Bool) (s5:B8) (l p:Int) g=>BId (p=0) (K 2 false b7 s5 l 0 0 0 0 [] .nilSlice .nilSlice .nilSlice g) (need (List.all (cV n7 b3 b4 s3 n8 n9 a b c s4 v4 v5 v6) Ap) (K n7 b3 b4 s3 n8 n9 a b c s4 v4 v5 v6 g)))) (CallT PR C0 [.str d] [.agg [.int .i64,.int .i64,.int .i64,.int .i64],.one (.int .i64)] i (fun (n j m k o:Int) f=>BId (o=0) (K 3 false false [] 0 n j m k [] .nilSlice .nilSlice .nilSlice f) (need (List.all (cV n7 b3 b4 s3 n8 n9 a b c s4 v4 v5 v6) Ap) (K n7 b3 b4 s3 n8 n9 a b c s4 v4 v5 v6 f))))))))):CallT PR B9 [.str s,.bool quoted,(.agg [.int .u8 d_0,.int .u8 d_1,.bool d_2,.bool d_3])] [sV] st K:=
 Ae (cfg:=⟨[5,6,7,10,12],[],[]⟩) (h:=(.seq .none (.seq .none (.seq .none (.cut ⟨[(0,.str)],[(6,1,0),(7,2,0)],[(1,13),(2,13)],[(1,0,.int .i64),(1,1,.bool),(1,2,.bool),(1,3,.str),(1,4,.int .i64),(1,5,.int .i64),(1,6,.int .i64),(1,7,.int .i64),(1,8,.int .i64),(1,9,.str),(1,10,.tv),(1,11,.tv),(1,12,.tv),(2,0,.int .i64),(2,1,.bool),(2,2,.bool),(2,3,.str),(2,4,.int .i64),(2,5,.int .i64),(2,6,.int .i64),(2,7,.int .i64),(2,8,.int .i64),(2,9,.str),(2,10,.tv),(2,11,.tv),(2,12,.tv)]⟩ .none .none))))) mixed (fun _ _=>Tryz.call38 _ _) Tryz.func38 (by kernel_rfl) (by kernel_rfl) h
theorem Q0 (src:B8) (d_0:Int) (d_1:Int) (d_2:Bool) (d_3:Bool) (l_0:Int) (l_1:Int) (l_2:Int) (l_3:Int) (l_4:Int) (st:St) (K:V13 (Int->Int->St->Prop)) (h:CallT PR Eu [.str src,(.agg [.int .u8 d_0,.int .u8 d_1,.bool d_2,.bool d_3]),(.agg [.int .i64 l_0,.int .i64 l_1,.int .i64 l_2,.int .i64 l_3,.int .i64 l_4])] [.agg [.int .i64,.str,.str,.tv,.str],.one (.int .i64),.one (.int .i64)] st (fun (n1:Int) (s1 s2:B8) (v1:TV) (s3:B8) (n2 n3:Int) a=>need (List.all [.int .i64 n1,.str s1,.str s2,v1,.str s3] Ap) (BId (n3≠0) (K 0 false false [] 0 0 0 0 0 [] .nilSlice .nilSlice .nilSlice n2 n3 a) (CallT PR EZ [(.agg [.int .i64 n1,.str s1,.str s2,v1,.str s3]),(.agg [.int .u8 d_0,.int .u8 d_1,.bool d_2,.bool d_3])] [sV,.one (.int .i64)] a (fun (n4:Int) (b1 b2:Bool) (s4:B8) (n5 n6 n7 n8 n9:Int) (s5:B8) (v2 v3 v4:TV) (c:Int) b=>need (List.all (cV n4 b1 b2 s4 n5 n6 n7 n8 n9 s5 v2 v3 v4) Ap) (need (List.all (cV n4 b1 b2 s4 n5 n6 n7 n8 n9 s5 v2 v3 v4) Ap) (K n4 b1 b2 s4 n5 n6 n7 n8 n9 s5 v2 v3 v4 0 c b))))))):CallT PR Ij [.str src,(.agg [.int .u8 d_0,.int .u8 d_1,.bool d_2,.bool d_3]),(.agg [.int .i64 l_0,.int .i64 l_1,.int .i64 l_2,.int .i64 l_3,.int .i64 l_4])] [sV,.one (.int .i64),.one (.int .i64)] st K:=
 Ae (cfg:=⟨[4,5,6,9,12],[],[]⟩) (h:= .none) mixed (fun _ _=>Tryz.call39 _ _) Tryz.func39 (by kernel_rfl) (by kernel_rfl) h
theorem PB (n_0:Int) (g:B8) (k:B8) (j:TV) (r:B8) (d_0:Int) (d_1:Int) (d_2:Bool) (d_3:Bool) (st:St) (K:V13 (Int->St->Prop)) (h:CallT PR EP [(.agg [.int .i64 n_0,.str g,.str k,j,.str r]),(.agg [.int .u8 d_0,.int .u8 d_1,.bool d_2,.bool d_3])] [.one .tv,.one (.int .i64)] st (fun (v1:TV) (n1:Int) o1=>BId (n1≠0) (K 0 false false [] 0 0 0 0 0 [] .nilSlice .nilSlice .nilSlice n1 o1) (CallT PR Fo [(.agg [.int .i64 n_0,.str g,.str k,j,.str r]),(.agg [.int .u8 d_0,.int .u8 d_1,.bool d_2,.bool d_3])] [.one .tv,.one (.int .i64)] o1 (fun (v2:TV) (n2:Int) o8=>need (isSl v1) (∃(I1:Int->TV->TV->TV->Int->Int->Int->Bool->Bool->V13 (V13 (St->Prop))) (M1:Int->TV->TV->TV->Int->Int->Int->Bool->Bool->V13 (V13 (St->Nat))),(I1 0 v1 v2 v1 ((lenS v1:Int)) d_0 d_1 d_2 d_3 0 false false [] 0 0 0 0 0 [] .nilSlice .nilSlice .nilSlice 6 false false [] 0 0 0 0 0 [] .nilSlice .nilSlice .nilSlice o8)/\∀g b e u k n3 n4 b1 b2 n5 b3 b4 s1 n6 n7 n8 n9 x s2 v3 v4 v5 n b5 b6 s3 l m s q o s4 v6 v7 v8 p,I1 g b e u k n3 n4 b1 b2 n5 b3 b4 s1 n6 n7 n8 n9 x s2 v3 v4 v5 n b5 b6 s3 l m s q o s4 v6 v7 v8 p->(BId (g<k) (((0<=g/\g<(lenZ 1 u:Int))/\Ag (Ac p [] (.t (ixT 1 u g.toNat)) 0) (fun (v9:TV)=>BIf (!b1) (need (isSl v9) (∃(I2:Int->TV->TV->Int->TV->Int->Int->TV->Int->Int->Int->Bool->Bool->V13 (V13 (V13 (St->Prop)))) (M2:Int->TV->TV->Int->TV->Int->Int->TV->Int->Int->Int->Bool->Bool->V13 (V13 (V13 (St->Nat)))),(I2 0 b e g u k g v9 ((lenS v9:Int)) n3 n4 b1 b2 n5 b3 b4 s1 n6 n7 n8 n9 x s2 v3 v4 v5 n b5 b6 s3 l m s q o s4 v6 v7 v8 6 false false [] 0 0 0 0 0 [] .nilSlice .nilSlice .nilSlice p)/\∀j f c y e9 r d6 c5 j1 a6 a2 b7 b8 f7 b9 f2 s5 e7 h4 i9 h3 h8 s6 f9 e8 i7 f8 c8 g8 s7 d1 h6 c3 d0 g5 s8 d2 j3 i6 d4 e0 g1 s9 c7 a9 h7 d9 c9 i1 e5 j5 g2 a1,I2 j f c y e9 r d6 c5 j1 a6 a2 b7 b8 f7 b9 f2 s5 e7 h4 i9 h3 h8 s6 f9 e8 i7 f8 c8 g8 s7 d1 h6 c3 d0 g5 s8 d2 j3 i6 d4 e0 g1 s9 c7 a9 h7 d9 c9 i1 e5 j5 g2 a1->(BId (j<j1) (((0<=j/\j<(lenZ 1 c5:Int))/\Ag (Ac a1 [] (.t (ixT 1 c5 j.toNat)) 0) (fun (x2:TV)=>Af .str x2 (fun (p0:B8)=>((0<=y/\y<(lenZ 1 c:Int))/\Ag (Ac a1 [] (.t (ixT 1 c y.toNat)) 0) (fun (k3:TV)=>((0<=j/\j<(lenZ 1 k3:Int))/\Ag (Ac a1 [] (.t (ixT 1 k3 j.toNat)) 0) (fun (x4:TV)=>Af .bool x4 (fun (o7:Bool)=>CallT PR Cz [.str p0,.bool o7,(.agg [.int .u8 a6,.int .u8 a2,.bool b7,.bool b8])] [sV] a1 (fun (o5:Int) (m6 l1:Bool) (m5:B8) (m8 o0 m9 k8 l0:Int) (l9:B8) (l3 l6 n0:TV) l2=>(Ac l2 [] (.t (ixT 1 c y.toNat)) 0=some k3/\need (List.all (cV o5 m6 l1 m5 m8 o0 m9 k8 l0 l9 l3 l6 n0) Ap) (AV 63 13 168 j5 1 (cV o5 m6 l1 m5 m8 o0 m9 k8 l0 l9 l3 l6 n0) l2 (fun (k5:TV) o3=>need (List.all [k5] Ap) ((I2 ((i64.wrap (j+(1:Int)))) f c y e9 r d6 c5 j1 a6 a2 b7 b8 f7 b9 f2 s5 e7 h4 i9 h3 h8 s6 f9 e8 i7 f8 c8 g8 s7 d1 h6 c3 d0 g5 s8 d2 j3 i6 d4 e0 g1 s9 c7 a9 h7 d9 c9 i1 e5 k5 g2 o3/\M2 ((i64.wrap (j+(1:Int)))) f c y e9 r d6 c5 j1 a6 a2 b7 b8 f7 b9 f2 s5 e7 h4 i9 h3 h8 s6 f9 e8 i7 f8 c8 g8 s7 d1 h6 c3 d0 g5 s8 d2 j3 i6 d4 e0 g1 s9 c7 a9 h7 d9 c9 i1 e5 k5 g2 o3<M2 j f c y e9 r d6 c5 j1 a6 a2 b7 b8 f7 b9 f2 s5 e7 h4 i9 h3 h8 s6 f9 e8 i7 f8 c8 g8 s7 d1 h6 c3 d0 g5 s8 d2 j3 i6 d4 e0 g1 s9 c7 a9 h7 d9 c9 i1 e5 j5 g2 a1))))))))))))))) (need (List.all (cV d4 e0 g1 s9 c7 a9 h7 d9 c9 i1 e5 j5 g2) Ap) (AV 63 13 168 j3 1 (cV d4 e0 g1 s9 c7 a9 h7 d9 c9 i1 e5 j5 g2) a1 (fun (j9:TV) o4=>need (List.all [j9] Ap) ((I1 ((i64.wrap (d6+(1:Int)))) f c e9 r a6 a2 b7 b8 f7 b9 f2 s5 e7 h4 i9 h3 h8 s6 f9 e8 i7 f8 c8 g8 s7 d1 h6 c3 d0 g5 s8 d2 j9 i6 o4/\M1 ((i64.wrap (d6+(1:Int)))) f c e9 r a6 a2 b7 b8 f7 b9 f2 s5 e7 h4 i9 h3 h8 s6 f9 e8 i7 f8 c8 g8 s7 d1 h6 c3 d0 g5 s8 d2 j9 i6 o4<M1 g b e u k n3 n4 b1 b2 n5 b3 b4 s1 n6 n7 n8 n9 x s2 v3 v4 v5 n b5 b6 s3 l m s q o s4 v6 v7 v8 p)))))))) (BId ((0:Int)<g) (need (isSl v9) (∃(I3:Int->TV->TV->Int->TV->Int->Int->TV->Int->Int->Int->Bool->Bool->V13 (V13 (V13 (St->Prop)))) (M3:Int->TV->TV->Int->TV->Int->Int->TV->Int->Int->Int->Bool->Bool->V13 (V13 (V13 (St->Nat)))),(I3 0 b e g u k g v9 ((lenS v9:Int)) n3 n4 b1 b2 n5 b3 b4 s1 n6 n7 n8 n9 x s2 v3 v4 v5 n b5 b6 s3 l m s q o s4 v6 v7 v8 7 false false [] 0 0 0 0 0 [] .nilSlice .nilSlice .nilSlice p)/\∀i a d w d8 a7 c6 h5 a5 a0 z a3 a4 e6 d7 e3 h9 i4 f3 e2 i8 h1 g0 i3 f5 b0 j0 f0 d3 h2 g6 i2 h0 e4 c2 a8 f4 j2 i0 f6 c0 g9 c4 c1 d5 g4 i5 g3 g7 f1 e1 j4 v,I3 i a d w d8 a7 c6 h5 a5 a0 z a3 a4 e6 d7 e3 h9 i4 f3 e2 i8 h1 g0 i3 f5 b0 j0 f0 d3 h2 g6 i2 h0 e4 c2 a8 f4 j2 i0 f6 c0 g9 c4 c1 d5 g4 i5 g3 g7 f1 e1 j4 v->(BId (i<a5) (((0<=i/\i<(lenZ 1 h5:Int))/\Ag (Ac v [] (.t (ixT 1 h5 i.toNat)) 0) (fun (x5:TV)=>Af .str x5 (fun (o6:B8)=>((0<=(0:Int)/\(0:Int)<(lenZ 1 a:Int))/\Ag (Ac v [] (.t (ixT 1 a (Int.toNat (0:Int)))) 0) (fun (j7:TV)=>((0<=i/\i<(lenZ 1 j7:Int))/\Ag (Ac v [] (.t (ixT 1 j7 i.toNat)) 0) (fun (x7:TV)=>Af .str x7 (fun (k6:B8)=>((0<=w/\w<(lenZ 1 d:Int))/\Ag (Ac v [] (.t (ixT 1 d w.toNat)) 0) (fun (j8:TV)=>((0<=i/\i<(lenZ 1 j8:Int))/\Ag (Ac v [] (.t (ixT 1 j8 i.toNat)) 0) (fun (x9:TV)=>Af .bool x9 (fun (o9:Bool)=>CallT PR Cz [.str o6,.bool o9,(.agg [.int .u8 a0,.int .u8 z,.bool a3,.bool a4])] [sV] v (fun (l7:Int) (m2 l5:Bool) (m3:B8) (k7 m7 m1 k9 o2:Int) (l8:B8) (l4 m4 m0:TV) j6=>(Ac j6 [] (.t (ixT 1 d w.toNat)) 0=some j8/\(Ac j6 [] (.t (ixT 1 j7 i.toNat)) 0=some (.str k6)/\(Ac j6 [] (.t (ixT 1 a (Int.toNat (0:Int)))) 0=some j7/\need (List.all [.str k6,.int .i64 l7,.bool m2,.bool l5,.str m3,.int .i64 k7,.int .i64 m7,.int .i64 m1,.int .i64 k9,.int .i64 o2,.str l8,l4,m4,m0] Ap) (AV 136 14 184 j4 1 [.str k6,.int .i64 l7,.bool m2,.bool l5,.str m3,.int .i64 k7,.int .i64 m7,.int .i64 m1,.int .i64 k9,.int .i64 o2,.str l8,l4,m4,m0] j6 (fun (k4:TV) k2=>need (List.all [k4] Ap) ((I3 ((i64.wrap (i+(1:Int)))) a d w d8 a7 c6 h5 a5 a0 z a3 a4 e6 d7 e3 h9 i4 f3 e2 i8 h1 g0 i3 f5 b0 j0 f0 d3 h2 g6 i2 h0 e4 c2 a8 f4 j2 i0 f6 c0 g9 c4 c1 d5 g4 i5 g3 g7 f1 e1 k4 k2/\M3 ((i64.wrap (i+(1:Int)))) a d w d8 a7 c6 h5 a5 a0 z a3 a4 e6 d7 e3 h9 i4 f3 e2 i8 h1 g0 i3 f5 b0 j0 f0 d3 h2 g6 i2 h0 e4 c2 a8 f4 j2 i0 f6 c0 g9 c4 c1 d5 g4 i5 g3 g7 f1 e1 k4 k2<M3 i a d w d8 a7 c6 h5 a5 a0 z a3 a4 e6 d7 e3 h9 i4 f3 e2 i8 h1 g0 i3 f5 b0 j0 f0 d3 h2 g6 i2 h0 e4 c2 a8 f4 j2 i0 f6 c0 g9 c4 c1 d5 g4 i5 g3 g7 f1 e1 j4 v)))))))))))))))))))))) (need (List.all (cV f6 c0 g9 c4 c1 d5 g4 i5 g3 g7 f1 e1 j4) Ap) (AV 63 13 168 j2 1 (cV f6 c0 g9 c4 c1 d5 g4 i5 g3 g7 f1 e1 j4) v (fun (k0:TV) k1=>need (List.all [k0] Ap) ((I1 ((i64.wrap (c6+(1:Int)))) a d d8 a7 a0 z a3 a4 e6 d7 e3 h9 i4 f3 e2 i8 h1 g0 i3 f5 b0 j0 f0 d3 h2 g6 i2 h0 e4 c2 a8 f4 k0 i0 k1/\M1 ((i64.wrap (c6+(1:Int)))) a d d8 a7 a0 z a3 a4 e6 d7 e3 h9 i4 f3 e2 i8 h1 g0 i3 f5 b0 j0 f0 d3 h2 g6 i2 h0 e4 c2 a8 f4 k0 i0 k1<M1 g b e u k n3 n4 b1 b2 n5 b3 b4 s1 n6 n7 n8 n9 x s2 v3 v4 v5 n b5 b6 s3 l m s q o s4 v6 v7 v8 p)))))))) ((I1 ((i64.wrap (g+(1:Int)))) b e u k n3 n4 b1 b2 n5 b3 b4 s1 n6 n7 n8 n9 x s2 v3 v4 v5 n b5 b6 s3 l m s q o s4 v6 v7 v8 p/\M1 ((i64.wrap (g+(1:Int)))) b e u k n3 n4 b1 b2 n5 b3 b4 s1 n6 n7 n8 n9 x s2 v3 v4 v5 n b5 b6 s3 l m s q o s4 v6 v7 v8 p<M1 g b e u k n3 n4 b1 b2 n5 b3 b4 s1 n6 n7 n8 n9 x s2 v3 v4 v5 n b5 b6 s3 l m s q o s4 v6 v7 v8 p)))))) (need (List.all (cV n b5 b6 s3 l m s q o s4 v6 v7 v8) Ap) (K n b5 b6 s3 l m s q o s4 v6 v7 v8 0 p)))))))):CallT PR EZ [(.agg [.int .i64 n_0,.str g,.str k,j,.str r]),(.agg [.int .u8 d_0,.int .u8 d_1,.bool d_2,.bool d_3])] [sV,.one (.int .i64)] st K:=
 Ae (cfg:=⟨[2,3,4,10,13,16],[],[61,64,92,95,100,103]⟩) (h:=(.seq .none (.seq .none (.seq .none (.seq .none (.seq .none (.seq (.seq .none (.block (.loop ⟨[(38,.int .i64),(6,.tv),(8,.tv),(36,.tv),(37,.int .i64)],[(3,1,0),(4,2,0),(10,3,0)],[(1,4),(2,13),(3,13)],[(1,0,.int .u8),(1,1,.int .u8),(1,2,.bool),(1,3,.bool),(2,0,.int .i64),(2,1,.bool),(2,2,.bool),(2,3,.str),(2,4,.int .i64),(2,5,.int .i64),(2,6,.int .i64),(2,7,.int .i64),(2,8,.int .i64),(2,9,.str),(2,10,.tv),(2,11,.tv),(2,12,.tv),(3,0,.int .i64),(3,1,.bool),(3,2,.bool),(3,3,.str),(3,4,.int .i64),(3,5,.int .i64),(3,6,.int .i64),(3,7,.int .i64),(3,8,.int .i64),(3,9,.str),(3,10,.tv),(3,11,.tv),(3,12,.tv)]⟩ (.seq .none (.seq .none (.seq (.block (.seq .none (.block (.seq .none (.cond (.seq .none (.seq (.seq .none (.block (.loop ⟨[(50,.int .i64),(6,.tv),(8,.tv),(11,.int .i64),(36,.tv),(37,.int .i64),(38,.int .i64),(48,.tv),(49,.int .i64)],[(3,1,0),(4,2,0),(10,3,0),(13,4,0)],[(1,4),(2,13),(3,13),(4,13)],[(1,0,.int .u8),(1,1,.int .u8),(1,2,.bool),(1,3,.bool),(2,0,.int .i64),(2,1,.bool),(2,2,.bool),(2,3,.str),(2,4,.int .i64),(2,5,.int .i64),(2,6,.int .i64),(2,7,.int .i64),(2,8,.int .i64),(2,9,.str),(2,10,.tv),(2,11,.tv),(2,12,.tv),(3,0,.int .i64),(3,1,.bool),(3,2,.bool),(3,3,.str),(3,4,.int .i64),(3,5,.int .i64),(3,6,.int .i64),(3,7,.int .i64),(3,8,.int .i64),(3,9,.str),(3,10,.tv),(3,11,.tv),(3,12,.tv),(4,0,.int .i64),(4,1,.bool),(4,2,.bool),(4,3,.str),(4,4,.int .i64),(4,5,.int .i64),(4,6,.int .i64),(4,7,.int .i64),(4,8,.int .i64),(4,9,.str),(4,10,.tv),(4,11,.tv),(4,12,.tv)]⟩ .none))) .none)) (.seq .none (.cond (.seq .none (.seq (.seq .none (.block (.loop ⟨[(83,.int .i64),(6,.tv),(8,.tv),(11,.int .i64),(36,.tv),(37,.int .i64),(38,.int .i64),(81,.tv),(82,.int .i64)],[(3,1,0),(4,2,0),(10,3,0),(16,5,0)],[(1,4),(2,13),(3,13),(5,13)],[(1,0,.int .u8),(1,1,.int .u8),(1,2,.bool),(1,3,.bool),(2,0,.int .i64),(2,1,.bool),(2,2,.bool),(2,3,.str),(2,4,.int .i64),(2,5,.int .i64),(2,6,.int .i64),(2,7,.int .i64),(2,8,.int .i64),(2,9,.str),(2,10,.tv),(2,11,.tv),(2,12,.tv),(3,0,.int .i64),(3,1,.bool),(3,2,.bool),(3,3,.str),(3,4,.int .i64),(3,5,.int .i64),(3,6,.int .i64),(3,7,.int .i64),(3,8,.int .i64),(3,9,.str),(3,10,.tv),(3,11,.tv),(3,12,.tv),(5,0,.int .i64),(5,1,.bool),(5,2,.bool),(5,3,.str),(5,4,.int .i64),(5,5,.int .i64),(5,6,.int .i64),(5,7,.int .i64),(5,8,.int .i64),(5,9,.str),(5,10,.tv),(5,11,.tv),(5,12,.tv)]⟩ .none))) .none)) .none))))))) .none)))))) .none))))))) mixed (fun _ _=>Tryz.call42 _ _) Tryz.func42 (by kernel_rfl) (by kernel_rfl) h
theorem Hk (n_0:Int) (n_1:B8) (n_2:B8) (n_3:TV) (n_4:B8) (d_0:Int) (d_1:Int) (d_2:Bool) (d_3:Bool) (st:St) (K:TV->Int->St->Prop) (h:CallT PR Cs [(.agg [.int .i64 n_0,.str n_1,.str n_2,n_3,.str n_4]),(.agg [.int .u8 d_0,.int .u8 d_1,.bool d_2,.bool d_3])] [.one .tv,.one (.int .i64)] st (fun (v1:TV) (n1:Int) a=>BId (n1≠0) (K .nilSlice n1 a) (BIf (!d_2) (K .nilSlice 0 a) (need (isSl v1) (BId ((lenS v1:Int)=(0:Int)) (K .nilSlice 0 a) (((0<=(0:Int)/\(0:Int)<(lenZ 1 v1:Int))/\Ag (Ac a [] (.t (ixT 1 v1 (Int.toNat (0:Int)))) 0) (fun (v2:TV)=>K v2 0 a)))))))):CallT PR Cr [(.agg [.int .i64 n_0,.str n_1,.str n_2,n_3,.str n_4]),(.agg [.int .u8 d_0,.int .u8 d_1,.bool d_2,.bool d_3])] [.one .tv,.one (.int .i64)] st K:=
 Ae (cfg:=⟨[2,3],[],[]⟩) (h:= .none) mixed (fun _ _=>Tryz.call45 _ _) Tryz.func45 (by kernel_rfl) (by kernel_rfl) h
theorem HN (n_0:Int) (n_1:B8) (n_2:B8) (n_3:TV) (n_4:B8) (d_0:Int) (d_1:Int) (d_2:Bool) (d_3:Bool) (p:TV) (st:St) (K:TV->Int->St->Prop) (h:CallT PR CD [(.agg [.int .i64 n_0,.str n_1,.str n_2,n_3,.str n_4]),(.agg [.int .u8 d_0,.int .u8 d_1,.bool d_2,.bool d_3])] [.one .bool] st (fun (b1:Bool) g=>BIf (!b1) (K .nilSlice 1 g) (CallT PR BU [p] [.one .bool] g (fun (b2:Bool) i=>BIf (!b2) (K .nilSlice 1 i) (CallT PR D4 [(.agg [.int .i64 n_0,.str n_1,.str n_2,n_3,.str n_4]),(.agg [.int .u8 d_0,.int .u8 d_1,.bool d_2,.bool d_3])] [sV] i (fun (n1:Int) (b3 b4:Bool) (s1:B8) (n2 n3 n4 n5 n6:Int) (s2:B8) (v1 v2 v3:TV) r=>CallT PR DJ [(.agg (cV n1 b3 b4 s1 n2 n3 n4 n5 n6 s2 v1 v2 v3)),p] [sV,.one (.int .i64)] r (fun (n7:Int) (b5 b6:Bool) (s3:B8) (n8 n9 l n m:Int) (s4:B8) (v4 v5 v6:TV) (f:Int) d=>need (List.all (cV n7 b5 b6 s3 n8 n9 l n m s4 v4 v5 v6) Ap) (BId (f≠0) (K .nilSlice f d) (need (isSl p) (BId ((lenS p:Int)<(2:Int)) (K .nilSlice 26 d) (BIf (!d_2) (((0<=(0:Int)/\(0:Int)<(lenZ 3 p:Int))/\need (isPtr (ixT 3 p (Int.toNat (0:Int)))) (Ag (Ac d [] (.t (Ao (ixT 3 p (Int.toNat (0:Int))) 2)) 0) (fun (x1:TV)=>Af (.int .i64) x1 (fun (o:Int)=>((0<=(1:Int)/\(1:Int)<(lenZ 3 p:Int))/\need (isPtr (ixT 3 p (Int.toNat (1:Int)))) (Ag (Ac d [] (.t (Ao (ixT 3 p (Int.toNat (1:Int))) 2)) 0) (fun (x2:TV)=>Af (.int .i64) x2 (fun (k:Int)=>K ((.list 1 .full 3 [.int .i64 o,.int .i64 k,.int .i64 0])) 0 d))))))))) (CallT PR Cr [(.agg [.int .i64 n_0,.str n_1,.str n_2,n_3,.str n_4]),(.agg [.int .u8 d_0,.int .u8 d_1,.bool d_2,.bool d_3])] [.one .tv,.one (.int .i64)] d (fun (v7:TV) (s:Int) q=>∃(I1:Int->TV->TV->St->Prop) (M1:Int->TV->TV->St->Nat),(I1 0 p v7 q)/\∀b a e c,I1 b a e c->(((0<=b/\b<(lenZ 1 e:Int))/\Ag (Ac c [] (.t (ixT 1 e b.toNat)) 0) (fun (x3:TV)=>Af .str x3 (fun (s5:B8)=>((0<=(1:Int)/\(1:Int)<(lenZ 3 a:Int))/\need (isPtr (ixT 3 a (Int.toNat (1:Int)))) (Ag (Ac c [] (.t (Ao (ixT 3 a (Int.toNat (1:Int))) 1)) 0) (fun (x4:TV)=>Af .str x4 (fun (s6:B8)=>BId (s5≠s6) ((I1 ((i64.wrap (b+(1:Int)))) a e c/\M1 ((i64.wrap (b+(1:Int)))) a e c<M1 b a e c)) (((0<=(0:Int)/\(0:Int)<(lenZ 3 a:Int))/\need (isPtr (ixT 3 a (Int.toNat (0:Int)))) (Ag (Ac c [] (.t (Ao (ixT 3 a (Int.toNat (0:Int))) 2)) 0) (fun (x5:TV)=>Af (.int .i64) x5 (fun (j:Int)=>K ((.list 1 .full 3 [(.int .i64 (i64.wrap (j+(1:Int)))),.int .i64 b,.int .i64 0])) 0 c)))))))))))))))))))))))))):CallT PR CC [(.agg [.int .i64 n_0,.str n_1,.str n_2,n_3,.str n_4]),(.agg [.int .u8 d_0,.int .u8 d_1,.bool d_2,.bool d_3]),p] [.one .tv,.one (.int .i64)] st K:=
 Ae (cfg:=⟨[3,4,8],[],[]⟩) (h:=(.seq .none (.seq .none (.seq .none (.seq .none (.seq .none (.seq .none (.seq .none (.seq (.block (.loop ⟨[(12,.int .i64),(2,.tv),(10,.tv)],[],[],[]⟩ .none)) .none))))))))) mixed (fun _ _=>Tryz.call48 _ _) Tryz.func48 (by kernel_rfl) (by kernel_rfl) h
theorem N4 (v_0:Int) (v_1:Bool) (v_2:Bool) (v_3:B8) (v_4:Int) (v_5:Int) (v_6:Int) (v_7:Int) (v_8:Int) (v_9:B8) (v_10:TV) (v_11:TV) (v_12:TV) (st:St) (K:Int->St->Prop) (h:stB (st.push (.cells [.int .i64 0]) (some 3)) (.box st.nb 0) [.int .i64 0] (fun a=>CallT PR Dm [(.agg (cV v_0 v_1 v_2 v_3 v_4 v_5 v_6 v_7 v_8 v_9 v_10 v_11 v_12)),.int .i64 1,(.box st.nb 0)] [.one (.int .i64)] a (fun (n1:Int) b=>K n1 b))):CallT PR Gf [(.agg (cV v_0 v_1 v_2 v_3 v_4 v_5 v_6 v_7 v_8 v_9 v_10 v_11 v_12))] [.one (.int .i64)] st K:=
 Ae (cfg:=⟨[1],[],[]⟩) (h:= .none) mixed (fun _ _=>Tryz.call58 _ _) Tryz.func58 (by kernel_rfl) (by kernel_rfl) h
theorem QX (v_0:Int) (v_1:Bool) (v_2:Bool) (v_3:B8) (v_4:Int) (v_5:Int) (v_6:Int) (v_7:Int) (v_8:Int) (v_9:B8) (v_10:TV) (v_11:TV) (v_12:TV) (d_0:Int) (d_1:Int) (d_2:Bool) (d_3:Bool) (st:St) (K:B8->Int->St->Prop) (h:BIf (!d_3) (BId (v_0≠4) (K [] 27 st) (BId (v_0=0) (K [] 0 st) (BId (v_0=1) (BIf v_1 (K Kt 0 st) (K Vx 0 st)) (BId (v_0=2) (CallT PR D1 [(.agg [.bool v_2,.str v_3,.int .i64 v_4])] [.one .str] st (fun (s1:B8) k=>K s1 0 k)) (BId (v_0=3) (CallT PR Ep [(.agg [.int .i64 v_5,.int .i64 v_6,.int .i64 v_7,.int .i64 v_8])] [.one .str] st (fun (s2:B8) j=>K s2 0 j)) (BId (v_0=4) (CallT PR Et [.str v_9,(.agg [.int .u8 d_0,.int .u8 d_1,.bool d_2,.bool d_3])] [.one .str,.one (.int .i64)] st (fun (s3:B8) (n1:Int) f=>BId (n1≠0) (K s3 n1 f) (BId (s3≠v_9) (K s3 n1 f) (CallT PR Cz [.str s3,.bool false,(.agg [.int .u8 d_0,.int .u8 d_1,.bool d_2,.bool d_3])] [sV] f (fun (n2:Int) (b1 b2:Bool) (s4:B8) (n3 n4 n5 n6 n7:Int) (s5:B8) (v1 v2 v3:TV) d=>BId (n2=4) (K s3 n1 d) (Ag ((toBytes d (.list 1 .full 1 [.int .u8 d_1])).map TV.str) (fun (x1:TV)=>Af .str x1 (fun (s6:B8)=>(s6.length+s6.length<=9223372036854775807/\CallT PR AE [.str s3,.str s6,(.str (s6++s6))] [.one .str] d (fun (s7:B8) l=>(s6.length+s7.length<=9223372036854775807/\(((s6++s7)).length+s6.length<=9223372036854775807/\K (((s6++s7)++s6)) 0 l)))))))))))) (K [] 27 st))))))) (BId (v_0=0) (K [] 0 st) (BId (v_0=1) (BIf v_1 (K Kt 0 st) (K Vx 0 st)) (BId (v_0=2) (CallT PR D1 [(.agg [.bool v_2,.str v_3,.int .i64 v_4])] [.one .str] st (fun (s8:B8) m=>K s8 0 m)) (BId (v_0=3) (CallT PR Ep [(.agg [.int .i64 v_5,.int .i64 v_6,.int .i64 v_7,.int .i64 v_8])] [.one .str] st (fun (s9:B8) n=>K s9 0 n)) (BId (v_0=4) (CallT PR Et [.str v_9,(.agg [.int .u8 d_0,.int .u8 d_1,.bool d_2,.bool d_3])] [.one .str,.one (.int .i64)] st (fun (b:B8) (n8:Int) c=>BId (n8≠0) (K b n8 c) (BId (b≠v_9) (K b n8 c) (CallT PR Cz [.str b,.bool false,(.agg [.int .u8 d_0,.int .u8 d_1,.bool d_2,.bool d_3])] [sV] c (fun (n9:Int) (b3 b4:Bool) (r:B8) (o s p q t:Int) (u:B8) (v4 v5 v6:TV) e=>BId (n9=4) (K b n8 e) (Ag ((toBytes e (.list 1 .full 1 [.int .u8 d_1])).map TV.str) (fun (x2:TV)=>Af .str x2 (fun (a:B8)=>(a.length+a.length<=9223372036854775807/\CallT PR AE [.str b,.str a,(.str (a++a))] [.one .str] e (fun (g:B8) i=>(a.length+g.length<=9223372036854775807/\(((a++g)).length+a.length<=9223372036854775807/\K (((a++g)++a)) 0 i)))))))))))) (K [] 27 st))))))):CallT PR Ig [(.agg (cV v_0 v_1 v_2 v_3 v_4 v_5 v_6 v_7 v_8 v_9 v_10 v_11 v_12)),(.agg [.int .u8 d_0,.int .u8 d_1,.bool d_2,.bool d_3])] [.one .str,.one (.int .i64)] st K:=
 Ae (cfg:=⟨[2,3],[],[]⟩) (h:= .none) mixed (fun _ _=>Tryz.call87 _ _) Tryz.func87 (by kernel_rfl) (by kernel_rfl) h
theorem GT (s:B8) (st:St) (K:V13 (St->Prop)) (h:K 4 false false [] 0 0 0 0 0 s .nilSlice .nilSlice .nilSlice st):CallT PR CQ [.str s] [sV] st K:=
 Ae (cfg:=⟨[2],[],[]⟩) (h:= .none) mixed (fun _ _=>Tryz.call93 _ _) Tryz.func93 (by kernel_rfl) (by kernel_rfl) h
theorem Pt (st:St) (K:V13 (St->Prop)) (h:K 0 false false [] 0 0 0 0 0 [] .nilSlice .nilSlice .nilSlice st):CallT PR KH [] [sV] st K:=
 Ae (cfg:=⟨[0],[],[]⟩) (h:= .none) mixed (fun _ _=>Tryz.call94 _ _) Tryz.func94 (by kernel_rfl) (by kernel_rfl) h
theorem Kr (b:Bool) (st:St) (K:V13 (St->Prop)) (h:K 1 b false [] 0 0 0 0 0 [] .nilSlice .nilSlice .nilSlice st):CallT PR G2 [.bool b] [sV] st K:=
 Ae (cfg:=⟨[2],[],[]⟩) (h:= .none) mixed (fun _ _=>Tryz.call95 _ _) Tryz.func95 (by kernel_rfl) (by kernel_rfl) h
theorem L9 (s:B8) (st:St) (K:Bool->B8->Int->Int->St->Prop) (h:CallT PR A1 [.str s,.str E6] [.one .bool] st (fun (b1:Bool) a3=>∃(C1:B8->Bool->Bool->B8->Int->St->Prop),(BIf b1 (((0<=(1:Int)/\(1:Int)<=(s.length:Int))/\C1 ((List.drop (Int.toNat (1:Int)) s)) b1 false [] 0 a3)) (C1 s b1 false [] 0 a3))/\∀l n b2 s1 n1 a2,C1 l n b2 s1 n1 a2->(CallT PR Dq [.str l] [.one (.int .i64)] a2 (fun (n2:Int) v=>∃(C2:B8->Bool->Int->Bool->B8->Int->St->Prop),(BId (n2=0) (K false [] 0 3 v) (BId ((1:Int)<n2) (((0<=(0:Int)/\(0:Int)<(l.length:Int))/\BId (((List.getD l (Int.toNat (0:Int)) 0).toNat:Int)=(48:Int)) (K false [] 0 3 v) (C2 l n n2 b2 s1 n1 v))) (C2 l n n2 b2 s1 n1 v)))/\∀b m a b3 s2 n3 a0,C2 b m a b3 s2 n3 a0->(((0<=a/\a<=(b.length:Int))/\((0<=a/\a<=(b.length:Int))/\∃(C3:B8->B8->Int->Bool->Bool->B8->Int->St->Prop),(CallT PR A1 [(.str (List.drop a.toNat b)),.str Ks] [.one .bool] a0 (fun (b4:Bool) a4=>BIf b4 (((0<=(1:Int)/\(1:Int)<=(((List.drop a.toNat b)).length:Int))/\CallT PR Dq [(.str (List.drop (Int.toNat (1:Int)) (List.drop a.toNat b)))] [.one (.int .i64)] a4 (fun (n4:Int) a5=>BId (n4=0) (K false [] 0 3 a5) (((0<=(1:Int)/\(1:Int)<=(i64.wrap (n4+(1:Int)))/\(i64.wrap (n4+(1:Int)))<=(((List.drop a.toNat b)).length:Int))/\(((List.take a.toNat b)).length+((List.drop (Int.toNat (1:Int)) (List.take (Int.toNat (i64.wrap (n4+(1:Int)))) (List.drop a.toNat b)))).length<=9223372036854775807/\((0<=(i64.wrap (n4+(1:Int)))/\(i64.wrap (n4+(1:Int)))<=(((List.drop a.toNat b)).length:Int))/\C3 ((List.drop (Int.toNat (i64.wrap (n4+(1:Int)))) (List.drop a.toNat b))) (((List.take a.toNat b)++(List.drop (Int.toNat (1:Int)) (List.take (Int.toNat (i64.wrap (n4+(1:Int)))) (List.drop a.toNat b))))) ((i64.wrap (0-n4))) m b3 s2 n3 a5))))))) (C3 ((List.drop a.toNat b)) ((List.take a.toNat b)) 0 m b3 s2 n3 a4)))/\∀d k e f b5 s3 n5 p,C3 d k e f b5 s3 n5 p->(BId (d≠([]:B8)) (∃(C4:B8->Bool->B8->Int->Bool->B8->Int->St->Prop),(((0<=(0:Int)/\(0:Int)<(d.length:Int))/\BId (((List.getD d (Int.toNat (0:Int)) 0).toNat:Int)≠(101:Int)) (((0<=(0:Int)/\(0:Int)<(d.length:Int))/\BId (((List.getD d (Int.toNat (0:Int)) 0).toNat:Int)≠(69:Int)) (K false [] 0 3 p) (C4 d f k e b5 s3 n5 p))) (C4 d f k e b5 s3 n5 p)))/\∀c i j g b6 s4 n6 z,C4 c i j g b6 s4 n6 z->(((0<=(1:Int)/\(1:Int)<=(c.length:Int))/\CallT PR A1 [(.str (List.drop (Int.toNat (1:Int)) c)),.str E6] [.one .bool] z (fun (b7:Bool) a1=>∃(C5:B8->Bool->B8->Int->Bool->Bool->B8->Int->St->Prop),(BIf b7 (((0<=(1:Int)/\(1:Int)<=(((List.drop (Int.toNat (1:Int)) c)).length:Int))/\C5 ((List.drop (Int.toNat (1:Int)) (List.drop (Int.toNat (1:Int)) c))) i j g b7 b6 s4 n6 a1)) (CallT PR A1 [(.str (List.drop (Int.toNat (1:Int)) c)),.str Sr] [.one .bool] a1 (fun (b8:Bool) x=>BIf b8 (((0<=(1:Int)/\(1:Int)<=(((List.drop (Int.toNat (1:Int)) c)).length:Int))/\C5 ((List.drop (Int.toNat (1:Int)) (List.drop (Int.toNat (1:Int)) c))) i j g b7 b6 s4 n6 x)) (C5 ((List.drop (Int.toNat (1:Int)) c)) i j g b7 b6 s4 n6 x))))/\∀o t u w q b9 s5 n7 r,C5 o t u w q b9 s5 n7 r->(BId (o=([]:B8)) (K false [] 0 3 r) (CallT PR Dq [.str o] [.one (.int .i64)] r (fun (n8:Int) y=>BId (n8≠(o.length:Int)) (K false [] 0 3 y) (CallT PR DI [.str o,.str Ls] [.one .str] y (fun (s6:B8) a7=>CallT PR EQ [.int .i64 w,.bool q,.str s6] [.one (.int .i64)] a7 (fun (n9:Int) a9=>CallT PR CN [.bool t,.str u,.int .i64 n9] [.agg [.bool,.str,.int .i64],.one (.int .i64)] a9 (fun (c1:Bool) (s7:B8) (b0 c4:Int) a6=>K c1 s7 b0 c4 a6))))))))))) (CallT PR CN [.bool f,.str k,.int .i64 e] [.agg [.bool,.str,.int .i64],.one (.int .i64)] p (fun (c2:Bool) (s8:B8) (c0 c3:Int) a8=>K c2 s8 c0 c3 a8)))))))))):CallT PR Cq [.str s] [.agg [.bool,.str,.int .i64],.one (.int .i64)] st K:=
 Ae (cfg:=⟨[2],[],[]⟩) (h:=(.seq .none (.seq .none (.cut ⟨[(0,.str),(4,.bool)],[(2,0,0)],[(0,3)],[(0,0,.bool),(0,1,.str),(0,2,.int .i64)]⟩ .none (.seq .none (.cut ⟨[(0,.str),(4,.bool),(5,.int .i64)],[(2,0,0)],[(0,3)],[(0,0,.bool),(0,1,.str),(0,2,.int .i64)]⟩ .none (.seq .none (.seq .none (.seq .none (.cut ⟨[(0,.str),(6,.str),(7,.int .i64),(4,.bool)],[(2,0,0)],[(0,3)],[(0,0,.bool),(0,1,.str),(0,2,.int .i64)]⟩ .none (.seq (.seq .none (.cond (.cut ⟨[(0,.str),(4,.bool),(6,.str),(7,.int .i64)],[(2,0,0)],[(0,3)],[(0,0,.bool),(0,1,.str),(0,2,.int .i64)]⟩ .none (.seq .none (.seq .none (.cut ⟨[(0,.str),(4,.bool),(6,.str),(7,.int .i64),(8,.bool)],[(2,0,0)],[(0,3)],[(0,0,.bool),(0,1,.str),(0,2,.int .i64)]⟩ .none .none)))) .none)) .none))))))))))) mixed (fun _ _=>Tryz.call96 _ _) Tryz.func96 (by kernel_rfl) (by kernel_rfl) h
theorem QS (d_0:Bool) (d_1:B8) (d_2:Int) (st:St) (K:V13 (St->Prop)) (h:K 2 false d_0 d_1 d_2 0 0 0 0 [] .nilSlice .nilSlice .nilSlice st):CallT PR FP [(.agg [.bool d_0,.str d_1,.int .i64 d_2])] [sV] st K:=
 Ae (cfg:=⟨[1,2],[],[]⟩) (h:= .none) mixed (fun _ _=>Tryz.call97 _ _) Tryz.func97 (by kernel_rfl) (by kernel_rfl) h
theorem Nq (s:B8) (st:St) (K:Int->Int->Int->Int->Int->St->Prop) (h:CallT PR CT [(.box st.nb 0),(.box (st.push (.cells [.str s,.bool false]) (some 220)).nb 0)] [.one (.int .i64)] ((st.push (.cells [.str s,.bool false]) (some 220)).push (.cells [.int .i64 0,.int .i64 0,.int .i64 0,.int .i64 0,.int .i64 0,.int .i64 0,.int .i64 0,.int .u8 0,.int .i64 0,.int .i64 0]) (some 222)) (fun (n1:Int) a=>Ag (Ac a [] (.t (.box st.nb 1)) 0) (fun (x1:TV)=>Af .bool x1 (fun (b1:Bool)=>BIf b1 (K 0 0 0 0 3 a) (Ag (Ac a [] (.t (.box st.nb 0)) 0) (fun (x2:TV)=>Af .str x2 (fun (s1:B8)=>BId (s1≠([]:B8)) (K 0 0 0 0 3 a) (BId (n1≠2) (Ag (Ac a [] (.t (.box (st.push (.cells [.str s,.bool false]) (some 220)).nb 0)) 0) (fun (x3:TV)=>Af (.int .i64) x3 (fun (n2:Int)=>Ag (Ac a [] (.t (.box (st.push (.cells [.str s,.bool false]) (some 220)).nb 1)) 0) (fun (x4:TV)=>Af (.int .i64) x4 (fun (n3:Int)=>Ag (Ac a [] (.t (.box (st.push (.cells [.str s,.bool false]) (some 220)).nb 2)) 0) (fun (x5:TV)=>Af (.int .i64) x5 (fun (n4:Int)=>CallT PR Fq [.int .i64 n2,.int .i64 n3,.int .i64 n4] [.one (.int .i64),.one (.int .i64)] a (fun (n5 n6:Int) b=>BId (n6≠0) (K 0 0 0 0 2 b) (Ag (Ac b [] (.t (.box (st.push (.cells [.str s,.bool false]) (some 220)).nb 3)) 0) (fun (x6:TV)=>Af (.int .i64) x6 (fun (n7:Int)=>BId ((23:Int)<n7) (K 0 0 0 0 2 b) (Ag (Ac b [] (.t (.box (st.push (.cells [.str s,.bool false]) (some 220)).nb 4)) 0) (fun (x7:TV)=>Af (.int .i64) x7 (fun (n8:Int)=>BId ((59:Int)<n8) (K 0 0 0 0 2 b) (Ag (Ac b [] (.t (.box (st.push (.cells [.str s,.bool false]) (some 220)).nb 5)) 0) (fun (x8:TV)=>Af (.int .i64) x8 (fun (n9:Int)=>BId ((59:Int)<n9) (K 0 0 0 0 2 b) (Ag (Ac b [] (.t (.box (st.push (.cells [.str s,.bool false]) (some 220)).nb 8)) 0) (fun (x9:TV)=>Af (.int .i64) x9 (fun (x:Int)=>BId ((23:Int)<x) (K 0 0 0 0 2 b) (Ag (Ac b [] (.t (.box (st.push (.cells [.str s,.bool false]) (some 220)).nb 9)) 0) (fun (a5:TV)=>Af (.int .i64) a5 (fun (b5:Int)=>BId ((59:Int)<b5) (K 0 0 0 0 2 b) (Ag (Ac b [] (.t (.box (st.push (.cells [.str s,.bool false]) (some 220)).nb 3)) 0) (fun (a6:TV)=>Af (.int .i64) a6 (fun (c:Int)=>Ag (Ac b [] (.t (.box (st.push (.cells [.str s,.bool false]) (some 220)).nb 4)) 0) (fun (a1:TV)=>Af (.int .i64) a1 (fun (j:Int)=>Ag (Ac b [] (.t (.box (st.push (.cells [.str s,.bool false]) (some 220)).nb 5)) 0) (fun (b7:TV)=>Af (.int .i64) b7 (fun (l:Int)=>Ag (Ac b [] (.t (.box (st.push (.cells [.str s,.bool false]) (some 220)).nb 6)) 0) (fun (b4:TV)=>Af (.int .i64) b4 (fun (f:Int)=>Ag (Ac b [] (.t (.box (st.push (.cells [.str s,.bool false]) (some 220)).nb 8)) 0) (fun (u:TV)=>Af (.int .i64) u (fun (d:Int)=>Ag (Ac b [] (.t (.box (st.push (.cells [.str s,.bool false]) (some 220)).nb 9)) 0) (fun (p:TV)=>Af (.int .i64) p (fun (e:Int)=>Ag (Ac b [] (.t (.box (st.push (.cells [.str s,.bool false]) (some 220)).nb 7)) 0) (fun (c0:TV)=>Af (.int .u8) c0 (fun (b2:Int)=>BId (b2=45) (K n1 n5 ((i64.wrap ((i64.wrap ((i64.wrap ((i64.wrap ((i64.wrap ((i64.wrap (c*(60:Int)))+j))*(60:Int)))+l))*(1000000000:Int)))+f))) ((i64.wrap (0-(i64.wrap ((i64.wrap (d*(60:Int)))+e))))) 0 b) (K n1 n5 ((i64.wrap ((i64.wrap ((i64.wrap ((i64.wrap ((i64.wrap ((i64.wrap (c*(60:Int)))+j))*(60:Int)))+l))*(1000000000:Int)))+f))) ((i64.wrap ((i64.wrap (d*(60:Int)))+e))) 0 b))))))))))))))))))))))))))))))))))))))) (Ag (Ac a [] (.t (.box (st.push (.cells [.str s,.bool false]) (some 220)).nb 3)) 0) (fun (y:TV)=>Af (.int .i64) y (fun (a8:Int)=>BId ((23:Int)<a8) (K 0 0 0 0 2 a) (Ag (Ac a [] (.t (.box (st.push (.cells [.str s,.bool false]) (some 220)).nb 4)) 0) (fun (a9:TV)=>Af (.int .i64) a9 (fun (a2:Int)=>BId ((59:Int)<a2) (K 0 0 0 0 2 a) (Ag (Ac a [] (.t (.box (st.push (.cells [.str s,.bool false]) (some 220)).nb 5)) 0) (fun (q:TV)=>Af (.int .i64) q (fun (b3:Int)=>BId ((59:Int)<b3) (K 0 0 0 0 2 a) (Ag (Ac a [] (.t (.box (st.push (.cells [.str s,.bool false]) (some 220)).nb 8)) 0) (fun (v:TV)=>Af (.int .i64) v (fun (b6:Int)=>BId ((23:Int)<b6) (K 0 0 0 0 2 a) (Ag (Ac a [] (.t (.box (st.push (.cells [.str s,.bool false]) (some 220)).nb 9)) 0) (fun (r:TV)=>Af (.int .i64) r (fun (b0:Int)=>BId ((59:Int)<b0) (K 0 0 0 0 2 a) (Ag (Ac a [] (.t (.box (st.push (.cells [.str s,.bool false]) (some 220)).nb 3)) 0) (fun (w:TV)=>Af (.int .i64) w (fun (o:Int)=>Ag (Ac a [] (.t (.box (st.push (.cells [.str s,.bool false]) (some 220)).nb 4)) 0) (fun (b8:TV)=>Af (.int .i64) b8 (fun (i:Int)=>Ag (Ac a [] (.t (.box (st.push (.cells [.str s,.bool false]) (some 220)).nb 5)) 0) (fun (a3:TV)=>Af (.int .i64) a3 (fun (m:Int)=>Ag (Ac a [] (.t (.box (st.push (.cells [.str s,.bool false]) (some 220)).nb 6)) 0) (fun (a4:TV)=>Af (.int .i64) a4 (fun (n:Int)=>Ag (Ac a [] (.t (.box (st.push (.cells [.str s,.bool false]) (some 220)).nb 8)) 0) (fun (z:TV)=>Af (.int .i64) z (fun (g:Int)=>Ag (Ac a [] (.t (.box (st.push (.cells [.str s,.bool false]) (some 220)).nb 9)) 0) (fun (b9:TV)=>Af (.int .i64) b9 (fun (k:Int)=>Ag (Ac a [] (.t (.box (st.push (.cells [.str s,.bool false]) (some 220)).nb 7)) 0) (fun (a7:TV)=>Af (.int .u8) a7 (fun (a0:Int)=>BId (a0=45) (K n1 0 ((i64.wrap ((i64.wrap ((i64.wrap ((i64.wrap ((i64.wrap ((i64.wrap (o*(60:Int)))+i))*(60:Int)))+m))*(1000000000:Int)))+n))) ((i64.wrap (0-(i64.wrap ((i64.wrap (g*(60:Int)))+k))))) 0 a) (K n1 0 ((i64.wrap ((i64.wrap ((i64.wrap ((i64.wrap ((i64.wrap ((i64.wrap (o*(60:Int)))+i))*(60:Int)))+m))*(1000000000:Int)))+n))) ((i64.wrap ((i64.wrap (g*(60:Int)))+k))) 0 a))))))))))))))))))))))))))))))))))))))):CallT PR CM [.str s] [.agg [.int .i64,.int .i64,.int .i64,.int .i64],.one (.int .i64)] st K:=
 Ae (cfg:=⟨[2,7],[],[]⟩) (h:= .none) mixed (fun _ _=>Tryz.call98 _ _) Tryz.func98 (by kernel_rfl) (by kernel_rfl) h
theorem Ps (t_0:Int) (t_1:Int) (t_2:Int) (t_3:Int) (st:St) (K:V13 (St->Prop)) (h:K 3 false false [] 0 t_0 t_1 t_2 t_3 [] .nilSlice .nilSlice .nilSlice st):CallT PR EW [(.agg [.int .i64 t_0,.int .i64 t_1,.int .i64 t_2,.int .i64 t_3])] [sV] st K:=
 Ae (cfg:=⟨[1,2],[],[]⟩) (h:= .none) mixed (fun _ _=>Tryz.call99 _ _) Tryz.func99 (by kernel_rfl) (by kernel_rfl) h
theorem GW (s:B8) (st:St) (K:Bool->Bool->St->Prop) (h:∃(C1:Int->B8->St->Prop),(BId ((0:Int)<(s.length:Int)) (((0<=(0:Int)/\(0:Int)<(s.length:Int))/\BId (((List.getD s (Int.toNat (0:Int)) 0).toNat:Int)=(45:Int)) (C1 ((i64.wrap ((0:Int)+(1:Int)))) s st) (C1 0 s st))) (C1 0 s st))/\∀f g o,C1 f g o->(BId (f=(g.length:Int)) (K false true o) (CallT PR AA [.str g,.int .i64 f] [.one (.int .i64)] o (fun (n1:Int) j=>∃(C2:B8->Int->St->Prop),(BId (n1=f) (K false false j) (((0<=f/\f<(g.length:Int))/\BId (((List.getD g f.toNat 0).toNat:Int)=(48:Int)) (BId ((i64.wrap (f+(1:Int)))<n1) (K false false j) (C2 g n1 j)) (C2 g n1 j))))/\∀d e k,C2 d e k->(∃(C3:Int->B8->St->Prop),(BId (e<(d.length:Int)) (((0<=e/\e<(d.length:Int))/\BId (((List.getD d e.toNat 0).toNat:Int)=(46:Int)) (CallT PR AA [.str d,(.int .i64 (i64.wrap (e+(1:Int))))] [.one (.int .i64)] k (fun (n2:Int) r=>BId (n2=(i64.wrap (e+(1:Int)))) (K false ((decide (n2=(d.length:Int)))) r) (C3 n2 d r))) (C3 e d k))) (C3 e d k))/\∀b a c,C3 b a c->(BId (b<(a.length:Int)) (((0<=b/\b<(a.length:Int))/\BId (((List.getD a b.toNat 0).toNat:Int)=(101:Int)) (BId ((i64.wrap (b+(1:Int)))<(a.length:Int)) (((0<=(i64.wrap (b+(1:Int)))/\(i64.wrap (b+(1:Int)))<(a.length:Int))/\BId (((List.getD a (Int.toNat (i64.wrap (b+(1:Int)))) 0).toNat:Int)=(43:Int)) (CallT PR AA [.str a,(.int .i64 (i64.wrap ((i64.wrap (b+(1:Int)))+(1:Int))))] [.one (.int .i64)] c (fun (n3:Int) u=>BId (n3=(i64.wrap ((i64.wrap (b+(1:Int)))+(1:Int)))) (K false ((decide (n3=(a.length:Int)))) u) (K ((decide (n3=(a.length:Int)))) ((decide (n3=(a.length:Int)))) u))) (((0<=(i64.wrap (b+(1:Int)))/\(i64.wrap (b+(1:Int)))<(a.length:Int))/\BId (((List.getD a (Int.toNat (i64.wrap (b+(1:Int)))) 0).toNat:Int)=(45:Int)) (CallT PR AA [.str a,(.int .i64 (i64.wrap ((i64.wrap (b+(1:Int)))+(1:Int))))] [.one (.int .i64)] c (fun (n4:Int) v=>BId (n4=(i64.wrap ((i64.wrap (b+(1:Int)))+(1:Int)))) (K false ((decide (n4=(a.length:Int)))) v) (K ((decide (n4=(a.length:Int)))) ((decide (n4=(a.length:Int)))) v))) (CallT PR AA [.str a,(.int .i64 (i64.wrap (b+(1:Int))))] [.one (.int .i64)] c (fun (n5:Int) q=>BId (n5=(i64.wrap (b+(1:Int)))) (K false ((decide (n5=(a.length:Int)))) q) (K ((decide (n5=(a.length:Int)))) ((decide (n5=(a.length:Int)))) q))))))) (CallT PR AA [.str a,(.int .i64 (i64.wrap (b+(1:Int))))] [.one (.int .i64)] c (fun (n6:Int) t=>BId (n6=(i64.wrap (b+(1:Int)))) (K false ((decide (n6=(a.length:Int)))) t) (K ((decide (n6=(a.length:Int)))) ((decide (n6=(a.length:Int)))) t)))) (((0<=b/\b<(a.length:Int))/\BId (((List.getD a b.toNat 0).toNat:Int)=(69:Int)) (BId ((i64.wrap (b+(1:Int)))<(a.length:Int)) (((0<=(i64.wrap (b+(1:Int)))/\(i64.wrap (b+(1:Int)))<(a.length:Int))/\BId (((List.getD a (Int.toNat (i64.wrap (b+(1:Int)))) 0).toNat:Int)=(43:Int)) (CallT PR AA [.str a,(.int .i64 (i64.wrap ((i64.wrap (b+(1:Int)))+(1:Int))))] [.one (.int .i64)] c (fun (n7:Int) l=>BId (n7=(i64.wrap ((i64.wrap (b+(1:Int)))+(1:Int)))) (K false ((decide (n7=(a.length:Int)))) l) (K ((decide (n7=(a.length:Int)))) ((decide (n7=(a.length:Int)))) l))) (((0<=(i64.wrap (b+(1:Int)))/\(i64.wrap (b+(1:Int)))<(a.length:Int))/\BId (((List.getD a (Int.toNat (i64.wrap (b+(1:Int)))) 0).toNat:Int)=(45:Int)) (CallT PR AA [.str a,(.int .i64 (i64.wrap ((i64.wrap (b+(1:Int)))+(1:Int))))] [.one (.int .i64)] c (fun (n8:Int) p=>BId (n8=(i64.wrap ((i64.wrap (b+(1:Int)))+(1:Int)))) (K false ((decide (n8=(a.length:Int)))) p) (K ((decide (n8=(a.length:Int)))) ((decide (n8=(a.length:Int)))) p))) (CallT PR AA [.str a,(.int .i64 (i64.wrap (b+(1:Int))))] [.one (.int .i64)] c (fun (n9:Int) m=>BId (n9=(i64.wrap (b+(1:Int)))) (K false ((decide (n9=(a.length:Int)))) m) (K ((decide (n9=(a.length:Int)))) ((decide (n9=(a.length:Int)))) m))))))) (CallT PR AA [.str a,(.int .i64 (i64.wrap (b+(1:Int))))] [.one (.int .i64)] c (fun (i:Int) n=>BId (i=(i64.wrap (b+(1:Int)))) (K false ((decide (i=(a.length:Int)))) n) (K ((decide (i=(a.length:Int)))) ((decide (i=(a.length:Int)))) n)))) (K ((decide (b=(a.length:Int)))) ((decide (b=(a.length:Int)))) c))))) (K ((decide (b=(a.length:Int)))) ((decide (b=(a.length:Int)))) c))))))):CallT PR Cg [.str s] [.one .bool,.one .bool] st K:=
 Ae (cfg:=⟨[],[],[]⟩) (h:=(.seq .none (.seq .none (.cut ⟨[(4,.int .i64),(0,.str)],[],[],[]⟩ .none (.seq .none (.seq .none (.cut ⟨[(0,.str),(5,.int .i64)],[],[],[]⟩ .none (.seq .none (.cut ⟨[(4,.int .i64),(0,.str)],[],[],[]⟩ .none .none))))))))) mixed (fun _ _=>Tryz.call100 _ _) Tryz.func100 (by kernel_rfl) (by kernel_rfl) h
theorem IV (s:B8) (st:St) (K:Bool->B8->Int->Int->St->Prop) (h:∃(C1:Int->B8->Bool->B8->Int->St->Prop),(BId ((0:Int)<(s.length:Int)) (((0<=(0:Int)/\(0:Int)<(s.length:Int))/\BId (((List.getD s (Int.toNat (0:Int)) 0).toNat:Int)=(45:Int)) (C1 1 s false [] 0 st) (C1 0 s false [] 0 st))) (C1 0 s false [] 0 st))/\∀i a1 b1 s1 n1 d4,C1 i a1 b1 s1 n1 d4->(CallT PR Bx [.str a1,.int .i64 i] [.one (.int .i64)] d4 (fun (n2:Int) c4=>∃(C2:B8->Int->Bool->Int->Bool->B8->Int->St->Prop),(BId (n2=i) (K false [] 0 3 c4) (((0<=i/\i<(a1.length:Int))/\BId (((List.getD a1 i.toNat 0).toNat:Int)=(48:Int)) (BId ((i64.wrap (i+(1:Int)))<n2) (K false [] 0 3 c4) (C2 a1 i ((decide (i=1))) n2 b1 s1 n1 c4)) (C2 a1 i ((decide (i=1))) n2 b1 s1 n1 c4))))/\∀p a8 a7 g b2 s2 n3 c9,C2 p a8 a7 g b2 s2 n3 c9->(((0<=a8/\a8<=g/\g<=(p.length:Int))/\∃(C3:Int->B8->Int->B8->Bool->Bool->B8->Int->St->Prop),(∃(C4:Bool->B8->Bool->Int->B8->Int->Bool->B8->Int->St->Prop),(BId (g<(p.length:Int)) (((0<=g/\g<(p.length:Int))/\C4 ((decide (((List.getD p g.toNat 0).toNat:Int)=(46:Int)))) p a7 g ((List.drop a8.toNat (List.take g.toNat p))) 0 b2 s2 n3 c9)) (C4 false p a7 g ((List.drop a8.toNat (List.take g.toNat p))) 0 b2 s2 n3 c9))/\∀d5 z a6 o c c1 b3 s3 n4 c8,C4 d5 z a6 o c c1 b3 s3 n4 c8->(BIf d5 (CallT PR Bx [.str z,(.int .i64 (i64.wrap (o+(1:Int))))] [.one (.int .i64)] c8 (fun (n5:Int) d6=>BId (n5=(i64.wrap (o+(1:Int)))) (K false [] 0 3 d6) (((0<=(i64.wrap (o+(1:Int)))/\(i64.wrap (o+(1:Int)))<=n5/\n5<=(z.length:Int))/\(c.length+((List.drop (Int.toNat (i64.wrap (o+(1:Int)))) (List.take n5.toNat z))).length<=9223372036854775807/\C3 n5 ((c++(List.drop (Int.toNat (i64.wrap (o+(1:Int)))) (List.take n5.toNat z)))) ((i64.wrap ((i64.wrap (o+(1:Int)))-n5))) z a6 b3 s3 n4 d6))))) (C3 o c c1 z a6 b3 s3 n4 c8)))/\∀f d u n t b4 s4 n6 c5,C3 f d u n t b4 s4 n6 c5->(∃(C5:Int->Int->B8->Bool->B8->Bool->B8->Int->St->Prop),(∃(C6:Bool->B8->Bool->Int->B8->Int->Bool->B8->Int->St->Prop),(BId (f<(n.length:Int)) (((0<=f/\f<(n.length:Int))/\BId (((List.getD n f.toNat 0).toNat:Int)=(101:Int)) (C6 true n t f d u b4 s4 n6 c5) (((0<=f/\f<(n.length:Int))/\C6 ((decide (((List.getD n f.toNat 0).toNat:Int)=(69:Int)))) n t f d u b4 s4 n6 c5)))) (C6 false n t f d u b4 s4 n6 c5))/\∀d2 x w r b v b5 s5 n7 c6,C6 d2 x w r b v b5 s5 n7 c6->(BIf d2 (∃(C7:Bool->B8->Bool->Int->B8->Int->Bool->B8->Int->St->Prop),(BId ((i64.wrap (r+(1:Int)))<(x.length:Int)) (((0<=(i64.wrap (r+(1:Int)))/\(i64.wrap (r+(1:Int)))<(x.length:Int))/\C7 ((decide (((List.getD x (Int.toNat (i64.wrap (r+(1:Int)))) 0).toNat:Int)=(45:Int)))) x w ((i64.wrap (r+(1:Int)))) b v b5 s5 n7 c6)) (C7 false x w ((i64.wrap (r+(1:Int)))) b v b5 s5 n7 c6))/\∀j k m e a q b6 s6 n8 a9,C7 j k m e a q b6 s6 n8 a9->(∃(C8:Int->B8->Bool->B8->Int->Bool->Bool->B8->Int->St->Prop),(BId (e<(k.length:Int)) (((0<=e/\e<(k.length:Int))/\BId (((List.getD k e.toNat 0).toNat:Int)=(45:Int)) (C8 ((i64.wrap (e+(1:Int)))) k m a q j b6 s6 n8 a9) (((0<=e/\e<(k.length:Int))/\BId (((List.getD k e.toNat 0).toNat:Int)=(43:Int)) (C8 ((i64.wrap (e+(1:Int)))) k m a q j b6 s6 n8 a9) (C8 e k m a q j b6 s6 n8 a9))))) (C8 e k m a q j b6 s6 n8 a9))/\∀a3 a2 a5 l a4 b0 b7 s7 n9 d3,C8 a3 a2 a5 l a4 b0 b7 s7 n9 d3->(CallT PR Bx [.str a2,.int .i64 a3] [.one (.int .i64)] d3 (fun (a0:Int) c7=>BId (a0=a3) (K false [] 0 3 c7) (((0<=a3/\a3<=a0/\a0<=(a2.length:Int))/\CallT PR C9 [(.str (List.drop a3.toNat (List.take a0.toNat a2)))] [.one (.int .i64)] c7 (fun (d7:Int) d0=>BIf b0 (C5 a0 ((i64.wrap (a4+(i64.wrap (0-d7))))) a2 a5 l b7 s7 n9 d0) (C5 a0 ((i64.wrap (a4+d7))) a2 a5 l b7 s7 n9 d0)))))))) (C5 r v x w b b5 s5 n7 c6)))/\∀d1 c3 d8 c2 y b8 s8 e0 c0,C5 d1 c3 d8 c2 y b8 s8 e0 c0->(BId (d1<(d8.length:Int)) (K false [] 0 3 c0) (CallT PR CH [.bool c2,.str y,.int .i64 c3] [.agg [.bool,.str,.int .i64],.one (.int .i64)] c0 (fun (b9:Bool) (s9:B8) (e1 e2:Int) d9=>K b9 s9 e1 e2 d9))))))))):CallT PR Da [.str s] [.agg [.bool,.str,.int .i64],.one (.int .i64)] st K:=
 Ae (cfg:=⟨[2],[],[]⟩) (h:=(.seq .none (.seq .none (.cut ⟨[(4,.int .i64),(0,.str)],[(2,0,0)],[(0,3)],[(0,0,.bool),(0,1,.str),(0,2,.int .i64)]⟩ .none (.seq .none (.seq .none (.cut ⟨[(0,.str),(4,.int .i64),(5,.bool),(6,.int .i64)],[(2,0,0)],[(0,3)],[(0,0,.bool),(0,1,.str),(0,2,.int .i64)]⟩ .none (.seq .none (.seq .none (.cut ⟨[(6,.int .i64),(7,.str),(8,.int .i64),(0,.str),(5,.bool)],[(2,0,0)],[(0,3)],[(0,0,.bool),(0,1,.str),(0,2,.int .i64)]⟩ (.cut ⟨[(55,.bool),(0,.str),(5,.bool),(6,.int .i64),(7,.str),(8,.int .i64)],[(2,0,0)],[(0,3)],[(0,0,.bool),(0,1,.str),(0,2,.int .i64)]⟩ .none .none) (.cut ⟨[(6,.int .i64),(8,.int .i64),(0,.str),(5,.bool),(7,.str)],[(2,0,0)],[(0,3)],[(0,0,.bool),(0,1,.str),(0,2,.int .i64)]⟩ (.cut ⟨[(92,.bool),(0,.str),(5,.bool),(6,.int .i64),(7,.str),(8,.int .i64)],[(2,0,0)],[(0,3)],[(0,0,.bool),(0,1,.str),(0,2,.int .i64)]⟩ .none (.cond (.seq .none (.cut ⟨[(10,.bool),(0,.str),(5,.bool),(6,.int .i64),(7,.str),(8,.int .i64)],[(2,0,0)],[(0,3)],[(0,0,.bool),(0,1,.str),(0,2,.int .i64)]⟩ .none (.cut ⟨[(6,.int .i64),(0,.str),(5,.bool),(7,.str),(8,.int .i64),(10,.bool)],[(2,0,0)],[(0,3)],[(0,0,.bool),(0,1,.str),(0,2,.int .i64)]⟩ .none .none))) .none)) .none))))))))))) mixed (fun _ _=>Tryz.call101 _ _) Tryz.func101 (by kernel_rfl) (by kernel_rfl) h
theorem IR (s:B8) (st:St) (K:Int->Int->Int->Int->Int->St->Prop) (h:CallT PR A9 [.str s,.str str21] [.one .bool] st (fun (b1:Bool) k=>BIf (!b1) (CallT PR AL [.str s] [.one (.int .i64),.one .str,.one .bool,.one .bool] k (fun (n1:Int) (s1:B8) (b2 b3:Bool) i=>BIf (!b2) (K 0 0 0 0 3 i) (BId (s1≠([]:B8)) (K 0 0 0 0 3 i) (BIf (!b3) (K 0 0 0 0 2 i) (K 2 0 n1 0 0 i))))) (((0<=(4:Int)/\(4:Int)<=(s.length:Int))/\((0<=(5:Int)/\(5:Int)<=(7:Int)/\(7:Int)<=(s.length:Int))/\((0<=(8:Int)/\(8:Int)<=(10:Int)/\(10:Int)<=(s.length:Int))/\CallT PR Av [(.str (List.take (Int.toNat (4:Int)) s))] [.one (.int .i64)] k (fun (n2:Int) v=>CallT PR Av [(.str (List.drop (Int.toNat (5:Int)) (List.take (Int.toNat (7:Int)) s)))] [.one (.int .i64)] v (fun (n3:Int) p=>CallT PR Av [(.str (List.drop (Int.toNat (8:Int)) (List.take (Int.toNat (10:Int)) s)))] [.one (.int .i64)] p (fun (n4:Int) u=>CallT PR DK [.int .i64 n2,.int .i64 n3,.int .i64 n4] [.one (.int .i64),.one (.int .i64)] u (fun (n5 n6:Int) e=>((0<=(10:Int)/\(10:Int)<=(s.length:Int))/\BId ((List.drop (Int.toNat (10:Int)) s)=([]:B8)) (BId (n6≠0) (K 0 0 0 0 n6 e) (K 1 n5 0 0 0 e)) (((0<=(0:Int)/\(0:Int)<(((List.drop (Int.toNat (10:Int)) s)).length:Int))/\BId (((List.getD (List.drop (Int.toNat (10:Int)) s) (Int.toNat (0:Int)) 0).toNat:Int)≠(84:Int)) (((0<=(0:Int)/\(0:Int)<(((List.drop (Int.toNat (10:Int)) s)).length:Int))/\BId (((List.getD (List.drop (Int.toNat (10:Int)) s) (Int.toNat (0:Int)) 0).toNat:Int)≠(116:Int)) (((0<=(0:Int)/\(0:Int)<(((List.drop (Int.toNat (10:Int)) s)).length:Int))/\BId (((List.getD (List.drop (Int.toNat (10:Int)) s) (Int.toNat (0:Int)) 0).toNat:Int)≠(32:Int)) (K 0 0 0 0 3 e) (((0<=(1:Int)/\(1:Int)<=(((List.drop (Int.toNat (10:Int)) s)).length:Int))/\CallT PR AL [(.str (List.drop (Int.toNat (1:Int)) (List.drop (Int.toNat (10:Int)) s)))] [.one (.int .i64),.one .str,.one .bool,.one .bool] e (fun (n7:Int) (s2:B8) (b4 b5:Bool) g=>BIf (!b4) (K 0 0 0 0 3 g) (BId (s2≠([]:B8)) (CallT PR AQ [.str s2] [.one (.int .i64),.one .bool,.one .bool] g (fun (n8:Int) (b6 b7:Bool) d=>BIf (!b6) (K 0 0 0 0 3 d) (BIf b5 (BId (n6≠0) (K 0 0 0 0 2 d) (BIf (!b7) (K 0 0 0 0 2 d) (K 4 n5 n7 n8 0 d))) (BId (n6≠0) (K 0 0 0 0 2 d) (K 0 0 0 0 2 d))))) (BId (n6≠0) (K 0 0 0 0 2 g) (BIf (!b5) (K 0 0 0 0 2 g) (K 3 n5 n7 0 0 g))))))))) (((0<=(1:Int)/\(1:Int)<=(((List.drop (Int.toNat (10:Int)) s)).length:Int))/\CallT PR AL [(.str (List.drop (Int.toNat (1:Int)) (List.drop (Int.toNat (10:Int)) s)))] [.one (.int .i64),.one .str,.one .bool,.one .bool] e (fun (n9:Int) (s3:B8) (b8 b9:Bool) f=>BIf (!b8) (K 0 0 0 0 3 f) (BId (s3≠([]:B8)) (CallT PR AQ [.str s3] [.one (.int .i64),.one .bool,.one .bool] f (fun (m:Int) (r t:Bool) a=>BIf (!r) (K 0 0 0 0 3 a) (BIf b9 (BId (n6≠0) (K 0 0 0 0 2 a) (BIf (!t) (K 0 0 0 0 2 a) (K 4 n5 n9 m 0 a))) (BId (n6≠0) (K 0 0 0 0 2 a) (K 0 0 0 0 2 a))))) (BId (n6≠0) (K 0 0 0 0 2 f) (BIf (!b9) (K 0 0 0 0 2 f) (K 3 n5 n9 0 0 f))))))))) (((0<=(1:Int)/\(1:Int)<=(((List.drop (Int.toNat (10:Int)) s)).length:Int))/\CallT PR AL [(.str (List.drop (Int.toNat (1:Int)) (List.drop (Int.toNat (10:Int)) s)))] [.one (.int .i64),.one .str,.one .bool,.one .bool] e (fun (l:Int) (s4:B8) (q j:Bool) c=>BIf (!q) (K 0 0 0 0 3 c) (BId (s4≠([]:B8)) (CallT PR AQ [.str s4] [.one (.int .i64),.one .bool,.one .bool] c (fun (n:Int) (w o:Bool) b=>BIf (!w) (K 0 0 0 0 3 b) (BIf j (BId (n6≠0) (K 0 0 0 0 2 b) (BIf (!o) (K 0 0 0 0 2 b) (K 4 n5 l n 0 b))) (BId (n6≠0) (K 0 0 0 0 2 b) (K 0 0 0 0 2 b))))) (BId (n6≠0) (K 0 0 0 0 2 c) (BIf (!j) (K 0 0 0 0 2 c) (K 3 n5 l 0 0 c)))))))))))))))))))):CallT PR C0 [.str s] [.agg [.int .i64,.int .i64,.int .i64,.int .i64],.one (.int .i64)] st K:=
 Ae (cfg:=⟨[2,14],[],[]⟩) (h:= .none) mixed (fun _ _=>Tryz.call102 _ _) Tryz.func102 (by kernel_rfl) (by kernel_rfl) h
theorem KS (n_0:Int) (n_1:B8) (n_2:B8) (n_3:TV) (n_4:B8) (d_0:Int) (d_1:Int) (d_2:Bool) (d_3:Bool) (st:St) (K:V13 (St->Prop)) (h:∃(I1:TV->Int->Int->B8->B8->TV->B8->Int->Int->Bool->Bool->V13 (V13 (St->Prop))) (M1:TV->Int->Int->B8->B8->TV->B8->Int->Int->Bool->Bool->V13 (V13 (St->Nat))),(I1 .nilSlice 0 n_0 n_1 n_2 n_3 n_4 d_0 d_1 d_2 d_3 0 false false [] 0 0 0 0 0 [] .nilSlice .nilSlice .nilSlice 6 false false [] 0 0 0 0 0 [] .nilSlice .nilSlice .nilSlice st)/\∀g h5 n1 s1 s2 v1 s3 n2 n3 b1 b2 n4 b3 b4 s4 n5 n6 n7 n8 n9 s5 v2 v3 v4 d8 b5 b6 s6 d7 d5 d6 e0 d9 s7 v5 v6 v7 i6,I1 g h5 n1 s1 s2 v1 s3 n2 n3 b1 b2 n4 b3 b4 s4 n5 n6 n7 n8 n9 s5 v2 v3 v4 d8 b5 b6 s6 d7 d5 d6 e0 d9 s7 v5 v6 v7 i6->(need (isSl v1) (BId (h5<(lenS v1:Int)) (∃(I2:TV->Int->TV->Int->Int->B8->B8->TV->B8->Int->Int->Bool->Bool->V13 (V13 (V13 (St->Prop)))) (M2:TV->Int->TV->Int->Int->B8->B8->TV->B8->Int->Int->Bool->Bool->V13 (V13 (V13 (St->Nat)))),(I2 .nilSlice 0 g h5 n1 s1 s2 v1 s3 n2 n3 b1 b2 n4 b3 b4 s4 n5 n6 n7 n8 n9 s5 v2 v3 v4 d8 b5 b6 s6 d7 d5 d6 e0 d9 s7 v5 v6 v7 6 false false [] 0 0 0 0 0 [] .nilSlice .nilSlice .nilSlice i6)/\∀e a2 a c m s8 s9 v8 a7 f d b7 b8 q b9 p a1 n a0 a9 z a6 a3 v9 s o r j w v l a4 i k u a5 a8 b0 x c4 c6 c8 c7 c2 c1 d0 c5 c3 c9 d2 d4 d1 y,I2 e a2 a c m s8 s9 v8 a7 f d b7 b8 q b9 p a1 n a0 a9 z a6 a3 v9 s o r j w v l a4 i k u a5 a8 b0 x c4 c6 c8 c7 c2 c1 d0 c5 c3 c9 d2 d4 d1 y->(((0<=c/\c<(lenZ 5 v8:Int))/\need (isPtr (ixT 5 v8 c.toNat)) (Ag (Ac y [] (.t (Ao (ixT 5 v8 c.toNat) 3)) 0) (fun (o8:TV)=>need (isSl o8) (BId (a2<(lenS o8:Int)) (((0<=c/\c<(lenZ 5 v8:Int))/\need (isPtr (ixT 5 v8 c.toNat)) (Ag (Ac y [] (.t (Ao (ixT 5 v8 c.toNat) 3)) 0) (fun (l1:TV)=>((0<=a2/\a2<(lenZ 5 l1:Int))/\need (isPtr (ixT 5 l1 a2.toNat)) (Ag (Ac y [] (.t (Ao (ixT 5 l1 a2.toNat) 3)) 0) (fun (k9:TV)=>((0<=(0:Int)/\(0:Int)<(lenZ 5 k9:Int))/\need (isPtr (ixT 5 k9 (Int.toNat (0:Int)))) (Ag (Ac y [] (.t (Ao (ixT 5 k9 (Int.toNat (0:Int))) 2)) 0) (fun (x4:TV)=>Af .str x4 (fun (j3:B8)=>CallT PR A5 [.str j3,(.agg [.int .u8 f,.int .u8 d,.bool b7,.bool b8])] [.one .str] y (fun (k7:B8) r2=>AV 9 1 16 e 1 [.str k7] r2 (fun (j8:TV) n0=>BId (j3≠([]:B8)) (((0<=(0:Int)/\(0:Int)<(j3.length:Int))/\CallT PR B9 [.str k7,(.bool (decide (((List.getD j3 (Int.toNat (0:Int)) 0).toNat:Int)=d))),(.agg [.int .u8 f,.int .u8 d,.bool b7,.bool b8])] [sV] n0 (fun (r0:Int) (o9 p5:Bool) (p1:B8) (p8 q4 q1 l8 m4:Int) (o1:B8) (q2 q5 m7:TV) r1=>need (List.all (cV r0 o9 p5 p1 p8 q4 q1 l8 m4 o1 q2 q5 m7) Ap) (AV 63 13 168 d4 1 (cV r0 o9 p5 p1 p8 q4 q1 l8 m4 o1 q2 q5 m7) r1 (fun (l5:TV) q9=>need (List.all [l5] Ap) ((I2 j8 ((i64.wrap (a2+(1:Int)))) a c m s8 s9 v8 a7 f d b7 b8 q b9 p a1 n a0 a9 z a6 a3 v9 s o r j w v l a4 i k u a5 a8 b0 x c4 c6 c8 c7 c2 c1 d0 c5 c3 c9 d2 l5 d1 q9/\M2 j8 ((i64.wrap (a2+(1:Int)))) a c m s8 s9 v8 a7 f d b7 b8 q b9 p a1 n a0 a9 z a6 a3 v9 s o r j w v l a4 i k u a5 a8 b0 x c4 c6 c8 c7 c2 c1 d0 c5 c3 c9 d2 l5 d1 q9<M2 e a2 a c m s8 s9 v8 a7 f d b7 b8 q b9 p a1 n a0 a9 z a6 a3 v9 s o r j w v l a4 i k u a5 a8 b0 x c4 c6 c8 c7 c2 c1 d0 c5 c3 c9 d2 d4 d1 y))))))) (CallT PR B9 [.str k7,.bool false,(.agg [.int .u8 f,.int .u8 d,.bool b7,.bool b8])] [sV] n0 (fun (m1:Int) (m6 p2:Bool) (q8:B8) (l9 o0 q6 o4 m9:Int) (p4:B8) (o6 m2 o5:TV) r3=>need (List.all (cV m1 m6 p2 q8 l9 o0 q6 o4 m9 p4 o6 m2 o5) Ap) (AV 63 13 168 d4 1 (cV m1 m6 p2 q8 l9 o0 q6 o4 m9 p4 o6 m2 o5) r3 (fun (l0:TV) p6=>need (List.all [l0] Ap) ((I2 j8 ((i64.wrap (a2+(1:Int)))) a c m s8 s9 v8 a7 f d b7 b8 q b9 p a1 n a0 a9 z a6 a3 v9 s o r j w v l a4 i k u a5 a8 b0 x c4 c6 c8 c7 c2 c1 d0 c5 c3 c9 d2 l0 d1 p6/\M2 j8 ((i64.wrap (a2+(1:Int)))) a c m s8 s9 v8 a7 f d b7 b8 q b9 p a1 n a0 a9 z a6 a3 v9 s o r j w v l a4 i k u a5 a8 b0 x c4 c6 c8 c7 c2 c1 d0 c5 c3 c9 d2 l0 d1 p6<M2 e a2 a c m s8 s9 v8 a7 f d b7 b8 q b9 p a1 n a0 a9 z a6 a3 v9 s o r j w v l a4 i k u a5 a8 b0 x c4 c6 c8 c7 c2 c1 d0 c5 c3 c9 d2 d4 d1 y))))))))))))))))))) (BIf (!b7) (need (List.all (cV c4 c6 c8 c7 c2 c1 d0 c5 c3 c9 d2 d4 d1) Ap) (AV 63 13 168 b0 1 (cV c4 c6 c8 c7 c2 c1 d0 c5 c3 c9 d2 d4 d1) y (fun (l4:TV) o2=>need (List.all [l4] Ap) ((I1 a ((i64.wrap (c+(1:Int)))) m s8 s9 v8 a7 f d b7 b8 q b9 p a1 n a0 a9 z a6 a3 v9 s o r j w v l a4 i k u a5 a8 l4 x o2/\M1 a ((i64.wrap (c+(1:Int)))) m s8 s9 v8 a7 f d b7 b8 q b9 p a1 n a0 a9 z a6 a3 v9 s o r j w v l a4 i k u a5 a8 l4 x o2<M1 g h5 n1 s1 s2 v1 s3 n2 n3 b1 b2 n4 b3 b4 s4 n5 n6 n7 n8 n9 s5 v2 v3 v4 d8 b5 b6 s6 d7 d5 d6 e0 d9 s7 v5 v6 v7 i6))))) (BId (c=0) ((I1 e ((i64.wrap (c+(1:Int)))) m s8 s9 v8 a7 f d b7 b8 q b9 p a1 n a0 a9 z a6 a3 v9 s o r j w v l a4 i k u a5 a8 b0 x y/\M1 e ((i64.wrap (c+(1:Int)))) m s8 s9 v8 a7 f d b7 b8 q b9 p a1 n a0 a9 z a6 a3 v9 s o r j w v l a4 i k u a5 a8 b0 x y<M1 g h5 n1 s1 s2 v1 s3 n2 n3 b1 b2 n4 b3 b4 s4 n5 n6 n7 n8 n9 s5 v2 v3 v4 d8 b5 b6 s6 d7 d5 d6 e0 d9 s7 v5 v6 v7 i6)) (∃(I3:Int->TV->Int->Int->B8->B8->TV->B8->Int->Int->Bool->Bool->V13 (V13 (V13 (V13 (St->Prop))))) (M3:Int->TV->Int->Int->B8->B8->TV->B8->Int->Int->Bool->Bool->V13 (V13 (V13 (V13 (St->Nat))))),(I3 0 a c m s8 s9 v8 a7 f d b7 b8 q b9 p a1 n a0 a9 z a6 a3 v9 s o r j w v l a4 i k u a5 a8 b0 x c4 c6 c8 c7 c2 c1 d0 c5 c3 c9 d2 d4 d1 7 false false [] 0 0 0 0 0 [] .nilSlice .nilSlice .nilSlice y)/\∀c0 b i3 i7 f9 g6 g2 i9 h3 j0 i1 f1 h0 f5 g1 e3 i0 h1 f6 e6 g3 h8 f4 h9 i8 e5 e8 e4 h6 f0 g9 i4 g7 f8 f7 e1 j2 h7 j4 k0 k1 j7 k3 k2 j5 k6 k5 k4 j9 g4 j6 g0 h4 f3 i5 g8 g5 e9 f2 e2 e7 i2 h2 j1 d3,I3 c0 b i3 i7 f9 g6 g2 i9 h3 j0 i1 f1 h0 f5 g1 e3 i0 h1 f6 e6 g3 h8 f4 h9 i8 e5 e8 e4 h6 f0 g9 i4 g7 f8 f7 e1 j2 h7 j4 k0 k1 j7 k3 k2 j5 k6 k5 k4 j9 g4 j6 g0 h4 f3 i5 g8 g5 e9 f2 e2 e7 i2 h2 j1 d3->(need (isSl b) (BId (c0<(lenS b:Int)) (((0<=c0/\c0<(lenZ 1 b:Int))/\Ag (Ac d3 [] (.t (ixT 1 b c0.toNat)) 0) (fun (x5:TV)=>Af .str x5 (fun (q7:B8)=>((0<=c0/\c0<(lenZ 13 g4:Int))/\Ag ((Aj d3 [] (.t (ixT 13 g4 c0.toNat)) 0 13).map TV.agg) (fun (x6:TV)=>AT [.int .i64,.bool,.bool,.str,.int .i64,.int .i64,.int .i64,.int .i64,.int .i64,.str,.tv,.tv,.tv] x6 (fun (l7:Int) (m8 o7:Bool) (o3:B8) (m0 q0 p3 m3 p7:Int) (m5:B8) (p9 p0 q3:TV)=>need (List.all [.str q7,.int .i64 l7,.bool m8,.bool o7,.str o3,.int .i64 m0,.int .i64 q0,.int .i64 p3,.int .i64 m3,.int .i64 p7,.str m5,p9,p0,q3] Ap) (AV 136 14 184 j1 1 [.str q7,.int .i64 l7,.bool m8,.bool o7,.str o3,.int .i64 m0,.int .i64 q0,.int .i64 p3,.int .i64 m3,.int .i64 p7,.str m5,p9,p0,q3] d3 (fun (l6:TV) k8=>need (List.all [l6] Ap) ((I3 ((i64.wrap (c0+(1:Int)))) b i3 i7 f9 g6 g2 i9 h3 j0 i1 f1 h0 f5 g1 e3 i0 h1 f6 e6 g3 h8 f4 h9 i8 e5 e8 e4 h6 f0 g9 i4 g7 f8 f7 e1 j2 h7 j4 k0 k1 j7 k3 k2 j5 k6 k5 k4 j9 g4 j6 g0 h4 f3 i5 g8 g5 e9 f2 e2 e7 i2 h2 l6 k8/\M3 ((i64.wrap (c0+(1:Int)))) b i3 i7 f9 g6 g2 i9 h3 j0 i1 f1 h0 f5 g1 e3 i0 h1 f6 e6 g3 h8 f4 h9 i8 e5 e8 e4 h6 f0 g9 i4 g7 f8 f7 e1 j2 h7 j4 k0 k1 j7 k3 k2 j5 k6 k5 k4 j9 g4 j6 g0 h4 f3 i5 g8 g5 e9 f2 e2 e7 i2 h2 l6 k8<M3 c0 b i3 i7 f9 g6 g2 i9 h3 j0 i1 f1 h0 f5 g1 e3 i0 h1 f6 e6 g3 h8 f4 h9 i8 e5 e8 e4 h6 f0 g9 i4 g7 f8 f7 e1 j2 h7 j4 k0 k1 j7 k3 k2 j5 k6 k5 k4 j9 g4 j6 g0 h4 f3 i5 g8 g5 e9 f2 e2 e7 i2 h2 j1 d3))))))))))) (need (List.all (cV g0 h4 f3 i5 g8 g5 e9 f2 e2 e7 i2 h2 j1) Ap) (AV 63 13 168 j2 1 (cV g0 h4 f3 i5 g8 g5 e9 f2 e2 e7 i2 h2 j1) d3 (fun (l3:TV) l2=>need (List.all [l3] Ap) ((I1 b ((i64.wrap (i3+(1:Int)))) i7 f9 g6 g2 i9 h3 j0 i1 f1 h0 f5 g1 e3 i0 h1 f6 e6 g3 h8 f4 h9 i8 e5 e8 e4 h6 f0 g9 i4 g7 f8 f7 e1 l3 h7 l2/\M1 b ((i64.wrap (i3+(1:Int)))) i7 f9 g6 g2 i9 h3 j0 i1 f1 h0 f5 g1 e3 i0 h1 f6 e6 g3 h8 f4 h9 i8 e5 e8 e4 h6 f0 g9 i4 g7 f8 f7 e1 l3 h7 l2<M1 g h5 n1 s1 s2 v1 s3 n2 n3 b1 b2 n4 b3 b4 s4 n5 n6 n7 n8 n9 s5 v2 v3 v4 d8 b5 b6 s6 d7 d5 d6 e0 d9 s7 v5 v6 v7 i6)))))))))))))))) (need (List.all (cV d8 b5 b6 s6 d7 d5 d6 e0 d9 s7 v5 v6 v7) Ap) (K d8 b5 b6 s6 d7 d5 d6 e0 d9 s7 v5 v6 v7 i6))))):CallT PR D4 [(.agg [.int .i64 n_0,.str n_1,.str n_2,n_3,.str n_4]),(.agg [.int .u8 d_0,.int .u8 d_1,.bool d_2,.bool d_3])] [sV] st K:=
 Ae (cfg:=⟨[2,3,4,5,8,13],[],[]⟩) (h:=(.seq .none (.seq .none (.seq .none (.seq (.seq .none (.block (.loop ⟨[(6,.tv),(7,.int .i64)],[(2,0,0),(3,1,0),(4,2,0),(5,3,0)],[(0,5),(1,4),(2,13),(3,13)],[(0,0,.int .i64),(0,1,.str),(0,2,.str),(0,3,.tv),(0,4,.str),(1,0,.int .u8),(1,1,.int .u8),(1,2,.bool),(1,3,.bool),(2,0,.int .i64),(2,1,.bool),(2,2,.bool),(2,3,.str),(2,4,.int .i64),(2,5,.int .i64),(2,6,.int .i64),(2,7,.int .i64),(2,8,.int .i64),(2,9,.str),(2,10,.tv),(2,11,.tv),(2,12,.tv),(3,0,.int .i64),(3,1,.bool),(3,2,.bool),(3,3,.str),(3,4,.int .i64),(3,5,.int .i64),(3,6,.int .i64),(3,7,.int .i64),(3,8,.int .i64),(3,9,.str),(3,10,.tv),(3,11,.tv),(3,12,.tv)]⟩ (.seq .none (.seq (.block (.seq .none (.seq .none (.seq (.seq .none (.block (.loop ⟨[(9,.tv),(10,.int .i64),(6,.tv),(7,.int .i64)],[(2,0,0),(3,1,0),(4,2,0),(5,3,0),(8,4,0)],[(0,5),(1,4),(2,13),(3,13),(4,13)],[(0,0,.int .i64),(0,1,.str),(0,2,.str),(0,3,.tv),(0,4,.str),(1,0,.int .u8),(1,1,.int .u8),(1,2,.bool),(1,3,.bool),(2,0,.int .i64),(2,1,.bool),(2,2,.bool),(2,3,.str),(2,4,.int .i64),(2,5,.int .i64),(2,6,.int .i64),(2,7,.int .i64),(2,8,.int .i64),(2,9,.str),(2,10,.tv),(2,11,.tv),(2,12,.tv),(3,0,.int .i64),(3,1,.bool),(3,2,.bool),(3,3,.str),(3,4,.int .i64),(3,5,.int .i64),(3,6,.int .i64),(3,7,.int .i64),(3,8,.int .i64),(3,9,.str),(3,10,.tv),(3,11,.tv),(3,12,.tv),(4,0,.int .i64),(4,1,.bool),(4,2,.bool),(4,3,.str),(4,4,.int .i64),(4,5,.int .i64),(4,6,.int .i64),(4,7,.int .i64),(4,8,.int .i64),(4,9,.str),(4,10,.tv),(4,11,.tv),(4,12,.tv)]⟩ .none))) (.seq .none (.seq .none (.seq .none (.seq (.seq .none (.block (.loop ⟨[(14,.int .i64),(6,.tv),(7,.int .i64)],[(2,0,0),(3,1,0),(4,2,0),(5,3,0),(8,4,0),(13,5,0)],[(0,5),(1,4),(2,13),(3,13),(4,13),(5,13)],[(0,0,.int .i64),(0,1,.str),(0,2,.str),(0,3,.tv),(0,4,.str),(1,0,.int .u8),(1,1,.int .u8),(1,2,.bool),(1,3,.bool),(2,0,.int .i64),(2,1,.bool),(2,2,.bool),(2,3,.str),(2,4,.int .i64),(2,5,.int .i64),(2,6,.int .i64),(2,7,.int .i64),(2,8,.int .i64),(2,9,.str),(2,10,.tv),(2,11,.tv),(2,12,.tv),(3,0,.int .i64),(3,1,.bool),(3,2,.bool),(3,3,.str),(3,4,.int .i64),(3,5,.int .i64),(3,6,.int .i64),(3,7,.int .i64),(3,8,.int .i64),(3,9,.str),(3,10,.tv),(3,11,.tv),(3,12,.tv),(4,0,.int .i64),(4,1,.bool),(4,2,.bool),(4,3,.str),(4,4,.int .i64),(4,5,.int .i64),(4,6,.int .i64),(4,7,.int .i64),(4,8,.int .i64),(4,9,.str),(4,10,.tv),(4,11,.tv),(4,12,.tv),(5,0,.int .i64),(5,1,.bool),(5,2,.bool),(5,3,.str),(5,4,.int .i64),(5,5,.int .i64),(5,6,.int .i64),(5,7,.int .i64),(5,8,.int .i64),(5,9,.str),(5,10,.tv),(5,11,.tv),(5,12,.tv)]⟩ .none))) .none)))))))) .none))))) .none))))) mixed (fun _ _=>Tryz.call103 _ _) Tryz.func103 (by kernel_rfl) (by kernel_rfl) h
theorem PA (p:TV) (st:St) (K:Bool->St->Prop) (h:need (isSl p) (BId ((48:Int)<(lenS p:Int)) (K false st) (need (isSl p) (∃(I1:Int->TV->Int->St->Prop) (M1:Int->TV->Int->St->Nat),(I1 0 p ((lenS p:Int)) st)/\∀b c d a,I1 b c d a->(BId (b<d) (((0<=b/\b<(lenZ 3 c:Int))/\Ag ((Aj a [] (.t (ixT 3 c b.toNat)) 0 3).map TV.agg) (fun (x1:TV)=>AT [.bool,.str,.int .i64] x1 (fun (b1:Bool) (s1:B8) (n1:Int)=>BIf b1 (BId (s1≠([]:B8)) (K false a) (BId (n1<0) (K false a) (BId ((65536:Int)<n1) (K false a) ((I1 ((i64.wrap (b+(1:Int)))) c d a/\M1 ((i64.wrap (b+(1:Int)))) c d a<M1 b c d a))))) (BId (n1≠0) (K false a) (BId ((1024:Int)<(s1.length:Int)) (K false a) (CallT PR DB [.str s1] [.one .bool] a (fun (b2:Bool) e=>BIf (!b2) (K false e) ((I1 ((i64.wrap (b+(1:Int)))) c d e/\M1 ((i64.wrap (b+(1:Int)))) c d e<M1 b c d a)))))))))) (K true a)))))):CallT PR G6 [p] [.one .bool] st K:=
 Ae (cfg:=⟨[4],[],[]⟩) (h:=(.seq .none (.seq .none (.seq (.seq .none (.block (.loop ⟨[(10,.int .i64),(8,.tv),(9,.int .i64)],[],[],[]⟩ .none))) .none)))) mixed (fun _ _=>Tryz.call110 _ _) Tryz.func110 (by kernel_rfl) (by kernel_rfl) h
theorem QY (v_0:Int) (b:Bool) (a:Bool) (v_3:B8) (v_4:Int) (v_5:Int) (v_6:Int) (v_7:Int) (v_8:Int) (v_9:B8) (v_10:TV) (v_11:TV) (v_12:TV) (s_0:Bool) (s_1:B8) (s_2:Int) (st:St) (K:V13 (Int->Int->St->Prop)) (h:BIf s_0 (BId (v_0=6) (need (isSl v_11) (BId ((lenS v_11:Int)<=s_2) (need (List.all (cV v_0 b a v_3 v_4 v_5 v_6 v_7 v_8 v_9 v_10 v_11 v_12) Ap) (K v_0 b a v_3 v_4 v_5 v_6 v_7 v_8 v_9 v_10 v_11 v_12 0 7 st)) (((0<=s_2/\s_2<(lenZ 13 v_11:Int))/\Ag ((Aj st [] (.t (ixT 13 v_11 s_2.toNat)) 0 13).map TV.agg) (fun (x1:TV)=>AT [.int .i64,.bool,.bool,.str,.int .i64,.int .i64,.int .i64,.int .i64,.int .i64,.str,.tv,.tv,.tv] x1 (fun (n1:Int) (b1 b2:Bool) (s1:B8) (n2 n3 n4 n5 n6:Int) (s2:B8) (v1 v2 v3:TV)=>need (List.all (cV n1 b1 b2 s1 n2 n3 n4 n5 n6 s2 v1 v2 v3) Ap) (K n1 b1 b2 s1 n2 n3 n4 n5 n6 s2 v1 v2 v3 s_2 0 st))))))) (BIf (!s_0) (BId (v_0=7) (need (isSl v_12) (∃(I1:Int->TV->Int->V13 (Bool->B8->Int->V13 (St->Prop))) (M1:Int->TV->Int->V13 (Bool->B8->Int->V13 (St->Nat))),(I1 0 v_12 ((lenS v_12:Int)) v_0 b a v_3 v_4 v_5 v_6 v_7 v_8 v_9 v_10 v_11 v_12 s_0 s_1 s_2 0 false false [] 0 0 0 0 0 [] .nilSlice .nilSlice .nilSlice st)/\∀d b z n7 b3 b4 s3 n8 n9 i s j s4 v4 v5 v6 b5 s5 c5 c9 b6 b7 s6 b0 a7 a8 c4 c2 s7 v7 v8 v9 f,I1 d b z n7 b3 b4 s3 n8 n9 i s j s4 v4 v5 v6 b5 s5 c5 c9 b6 b7 s6 b0 a7 a8 c4 c2 s7 v7 v8 v9 f->(BId (d<z) (((0<=d/\d<(lenZ 14 b:Int))/\Ag ((Aj f [] (.t (ixT 14 b d.toNat)) 0 14).map TV.agg) (fun (x2:TV)=>AT [.str,.int .i64,.bool,.bool,.str,.int .i64,.int .i64,.int .i64,.int .i64,.int .i64,.str,.tv,.tv,.tv] x2 (fun (s8:B8) (e2:Int) (b8 b9:Bool) (s9:B8) (f0 f1 e7 f4 e6:Int) (d5:B8) (e8 e3 e5:TV)=>need (List.all [.str s8,.int .i64 e2,.bool b8,.bool b9,.str s9,.int .i64 f0,.int .i64 f1,.int .i64 e7,.int .i64 f4,.int .i64 e6,.str d5,e8,e3,e5] Ap) (BId (s8=s5) (need (List.all (cV e2 b8 b9 s9 f0 f1 e7 f4 e6 d5 e8 e3 e5) Ap) (K e2 b8 b9 s9 f0 f1 e7 f4 e6 d5 e8 e3 e5 d 0 f)) ((I1 ((i64.wrap (d+(1:Int)))) b z n7 b3 b4 s3 n8 n9 i s j s4 v4 v5 v6 b5 s5 c5 c9 b6 b7 s6 b0 a7 a8 c4 c2 s7 v7 v8 v9 f/\M1 ((i64.wrap (d+(1:Int)))) b z n7 b3 b4 s3 n8 n9 i s j s4 v4 v5 v6 b5 s5 c5 c9 b6 b7 s6 b0 a7 a8 c4 c2 s7 v7 v8 v9 f<M1 d b z n7 b3 b4 s3 n8 n9 i s j s4 v4 v5 v6 b5 s5 c5 c9 b6 b7 s6 b0 a7 a8 c4 c2 s7 v7 v8 v9 f))))))) (need (List.all (cV n7 b3 b4 s3 n8 n9 i s j s4 v4 v5 v6) Ap) (K n7 b3 b4 s3 n8 n9 i s j s4 v4 v5 v6 0 7 f))))) (need (List.all (cV v_0 b a v_3 v_4 v_5 v_6 v_7 v_8 v_9 v_10 v_11 v_12) Ap) (K v_0 b a v_3 v_4 v_5 v_6 v_7 v_8 v_9 v_10 v_11 v_12 0 6 st))) (need (List.all (cV v_0 b a v_3 v_4 v_5 v_6 v_7 v_8 v_9 v_10 v_11 v_12) Ap) (K v_0 b a v_3 v_4 v_5 v_6 v_7 v_8 v_9 v_10 v_11 v_12 0 6 st)))) (BIf (!s_0) (BId (v_0=7) (need (isSl v_12) (∃(I2:Int->TV->Int->V13 (Bool->B8->Int->V13 (St->Prop))) (M2:Int->TV->Int->V13 (Bool->B8->Int->V13 (St->Nat))),(I2 0 v_12 ((lenS v_12:Int)) v_0 b a v_3 v_4 v_5 v_6 v_7 v_8 v_9 v_10 v_11 v_12 s_0 s_1 s_2 0 false false [] 0 0 0 0 0 [] .nilSlice .nilSlice .nilSlice st)/\∀c a a0 v p q r x n u k g m w l o c1 y c3 a4 a3 d0 a6 c8 a2 c6 a5 a1 c7 a9 c0 d1 e,I2 c a a0 v p q r x n u k g m w l o c1 y c3 a4 a3 d0 a6 c8 a2 c6 a5 a1 c7 a9 c0 d1 e->(BId (c<a0) (((0<=c/\c<(lenZ 14 a:Int))/\Ag ((Aj e [] (.t (ixT 14 a c.toNat)) 0 14).map TV.agg) (fun (x3:TV)=>AT [.str,.int .i64,.bool,.bool,.str,.int .i64,.int .i64,.int .i64,.int .i64,.int .i64,.str,.tv,.tv,.tv] x3 (fun (f5:B8) (e0:Int) (d8 f3:Bool) (d2:B8) (d6 d3 e1 d7 d4:Int) (e4:B8) (e9 f2 d9:TV)=>need (List.all [.str f5,.int .i64 e0,.bool d8,.bool f3,.str d2,.int .i64 d6,.int .i64 d3,.int .i64 e1,.int .i64 d7,.int .i64 d4,.str e4,e9,f2,d9] Ap) (BId (f5=y) (need (List.all (cV e0 d8 f3 d2 d6 d3 e1 d7 d4 e4 e9 f2 d9) Ap) (K e0 d8 f3 d2 d6 d3 e1 d7 d4 e4 e9 f2 d9 c 0 e)) ((I2 ((i64.wrap (c+(1:Int)))) a a0 v p q r x n u k g m w l o c1 y c3 a4 a3 d0 a6 c8 a2 c6 a5 a1 c7 a9 c0 d1 e/\M2 ((i64.wrap (c+(1:Int)))) a a0 v p q r x n u k g m w l o c1 y c3 a4 a3 d0 a6 c8 a2 c6 a5 a1 c7 a9 c0 d1 e<M2 c a a0 v p q r x n u k g m w l o c1 y c3 a4 a3 d0 a6 c8 a2 c6 a5 a1 c7 a9 c0 d1 e))))))) (need (List.all (cV v p q r x n u k g m w l o) Ap) (K v p q r x n u k g m w l o 0 7 e))))) (need (List.all (cV v_0 b a v_3 v_4 v_5 v_6 v_7 v_8 v_9 v_10 v_11 v_12) Ap) (K v_0 b a v_3 v_4 v_5 v_6 v_7 v_8 v_9 v_10 v_11 v_12 0 6 st))) (need (List.all (cV v_0 b a v_3 v_4 v_5 v_6 v_7 v_8 v_9 v_10 v_11 v_12) Ap) (K v_0 b a v_3 v_4 v_5 v_6 v_7 v_8 v_9 v_10 v_11 v_12 0 6 st)))):CallT PR Ih [(.agg (cV v_0 b a v_3 v_4 v_5 v_6 v_7 v_8 v_9 v_10 v_11 v_12)),(.agg [.bool s_0,.str s_1,.int .i64 s_2])] [sV,.one (.int .i64),.one (.int .i64)] st K:=
 Ae (cfg:=⟨[2,3,4,8],[],[]⟩) (h:=(.seq .none (.seq (.block (.seq .none (.cond .none (.seq .none (.cond (.seq (.seq .none (.block (.loop ⟨[(44,.int .i64),(42,.tv),(43,.int .i64)],[(2,0,0),(3,1,0),(4,2,0)],[(0,13),(1,3),(2,13)],[(0,0,.int .i64),(0,1,.bool),(0,2,.bool),(0,3,.str),(0,4,.int .i64),(0,5,.int .i64),(0,6,.int .i64),(0,7,.int .i64),(0,8,.int .i64),(0,9,.str),(0,10,.tv),(0,11,.tv),(0,12,.tv),(1,0,.bool),(1,1,.str),(1,2,.int .i64),(2,0,.int .i64),(2,1,.bool),(2,2,.bool),(2,3,.str),(2,4,.int .i64),(2,5,.int .i64),(2,6,.int .i64),(2,7,.int .i64),(2,8,.int .i64),(2,9,.str),(2,10,.tv),(2,11,.tv),(2,12,.tv)]⟩ .none))) .none) .none))))) .none))) mixed (fun _ _=>Tryz.call111 _ _) Tryz.func111 (by kernel_rfl) (by kernel_rfl) h
theorem IQ (p:TV) (st:St) (K:Bool->St->Prop) (h:need (isSl p) (BId ((48:Int)<(lenS p:Int)) (K false st) (∃(I1:Int->TV->St->Prop) (M1:Int->TV->St->Nat),(I1 0 p st)/\∀a b c,I1 a b c->(need (isSl b) (BId (a<(lenS b:Int)) (((0<=a/\a<(lenZ 3 b:Int))/\need (isPtr (ixT 3 b a.toNat)) (Ag (Ac c [] (.t (Ao (ixT 3 b a.toNat) 0)) 0) (fun (x1:TV)=>Af .bool x1 (fun (b1:Bool)=>BIf b1 (((0<=a/\a<(lenZ 3 b:Int))/\need (isPtr (ixT 3 b a.toNat)) (Ag (Ac c [] (.t (Ao (ixT 3 b a.toNat) 1)) 0) (fun (x2:TV)=>Af .str x2 (fun (s1:B8)=>BId (s1≠([]:B8)) (K false c) (((0<=a/\a<(lenZ 3 b:Int))/\need (isPtr (ixT 3 b a.toNat)) (Ag (Ac c [] (.t (Ao (ixT 3 b a.toNat) 2)) 0) (fun (x3:TV)=>Af (.int .i64) x3 (fun (n1:Int)=>BId (n1<0) (K false c) (((0<=a/\a<(lenZ 3 b:Int))/\need (isPtr (ixT 3 b a.toNat)) (Ag (Ac c [] (.t (Ao (ixT 3 b a.toNat) 2)) 0) (fun (x4:TV)=>Af (.int .i64) x4 (fun (n2:Int)=>BId ((65536:Int)<n2) (K false c) (((0<=a/\a<(lenZ 3 b:Int))/\need (isPtr (ixT 3 b a.toNat)) (Ag (Ac c [] (.t (Ao (ixT 3 b a.toNat) 0)) 0) (fun (x5:TV)=>Af .bool x5 (fun (b2:Bool)=>BIf (!b2) (((0<=a/\a<(lenZ 3 b:Int))/\need (isPtr (ixT 3 b a.toNat)) (Ag (Ac c [] (.t (Ao (ixT 3 b a.toNat) 2)) 0) (fun (x6:TV)=>Af (.int .i64) x6 (fun (n3:Int)=>BId (n3≠0) (K false c) (((0<=a/\a<(lenZ 3 b:Int))/\need (isPtr (ixT 3 b a.toNat)) (Ag (Ac c [] (.t (Ao (ixT 3 b a.toNat) 1)) 0) (fun (x7:TV)=>Af .str x7 (fun (s2:B8)=>BId ((1024:Int)<(s2.length:Int)) (K false c) (((0<=a/\a<(lenZ 3 b:Int))/\need (isPtr (ixT 3 b a.toNat)) (Ag (Ac c [] (.t (Ao (ixT 3 b a.toNat) 1)) 0) (fun (x8:TV)=>Af .str x8 (fun (s3:B8)=>CallT PR BV [.str s3] [.one .bool] c (fun (b3:Bool) e=>BIf (!b3) (K false e) ((I1 ((i64.wrap (a+(1:Int)))) b e/\M1 ((i64.wrap (a+(1:Int)))) b e<M1 a b c)))))))))))))))))) ((I1 ((i64.wrap (a+(1:Int)))) b c/\M1 ((i64.wrap (a+(1:Int)))) b c<M1 a b c)))))))))))))))))))))) (((0<=a/\a<(lenZ 3 b:Int))/\need (isPtr (ixT 3 b a.toNat)) (Ag (Ac c [] (.t (Ao (ixT 3 b a.toNat) 0)) 0) (fun (x9:TV)=>Af .bool x9 (fun (b4:Bool)=>BIf (!b4) (((0<=a/\a<(lenZ 3 b:Int))/\need (isPtr (ixT 3 b a.toNat)) (Ag (Ac c [] (.t (Ao (ixT 3 b a.toNat) 2)) 0) (fun (g:TV)=>Af (.int .i64) g (fun (n4:Int)=>BId (n4≠0) (K false c) (((0<=a/\a<(lenZ 3 b:Int))/\need (isPtr (ixT 3 b a.toNat)) (Ag (Ac c [] (.t (Ao (ixT 3 b a.toNat) 1)) 0) (fun (i:TV)=>Af .str i (fun (s4:B8)=>BId ((1024:Int)<(s4.length:Int)) (K false c) (((0<=a/\a<(lenZ 3 b:Int))/\need (isPtr (ixT 3 b a.toNat)) (Ag (Ac c [] (.t (Ao (ixT 3 b a.toNat) 1)) 0) (fun (f:TV)=>Af .str f (fun (s5:B8)=>CallT PR BV [.str s5] [.one .bool] c (fun (b5:Bool) d=>BIf (!b5) (K false d) ((I1 ((i64.wrap (a+(1:Int)))) b d/\M1 ((i64.wrap (a+(1:Int)))) b d<M1 a b c)))))))))))))))))) ((I1 ((i64.wrap (a+(1:Int)))) b c/\M1 ((i64.wrap (a+(1:Int)))) b c<M1 a b c)))))))))))) (K true c)))))):CallT PR BU [p] [.one .bool] st K:=
 Ae (cfg:=⟨[],[],[]⟩) (h:=(.seq .none (.seq .none (.seq (.seq .none (.block (.loop ⟨[(3,.int .i64),(0,.tv)],[],[],[]⟩ .none))) .none)))) mixed (fun _ _=>Tryz.call112 _ _) Tryz.func112 (by kernel_rfl) (by kernel_rfl) h
theorem Ki (v_0:Int) (v_1:Bool) (v_2:Bool) (v_3:B8) (v_4:Int) (v_5:Int) (v_6:Int) (v_7:Int) (v_8:Int) (v_9:B8) (v_10:TV) (v_11:TV) (v_12:TV) (p:TV) (st:St) (K:V13 (Int->St->Prop)) (h:CallT PR BU [p] [.one .bool] st (fun (b1:Bool) o=>BIf (!b1) (K 0 false false [] 0 0 0 0 0 [] .nilSlice .nilSlice .nilSlice 1 o) (∃(I1:Int->TV->V13 (V13 (St->Prop))) (M1:Int->TV->V13 (V13 (St->Nat))),(I1 0 p v_0 v_1 v_2 v_3 v_4 v_5 v_6 v_7 v_8 v_9 v_10 v_11 v_12 0 false false [] 0 0 0 0 0 [] .nilSlice .nilSlice .nilSlice o)/\∀a b n1 b2 b3 s1 n2 n3 n4 n5 n6 s2 v1 v2 v3 n7 b4 b5 s3 n8 n9 d f e s4 v4 v5 v6 c,I1 a b n1 b2 b3 s1 n2 n3 n4 n5 n6 s2 v1 v2 v3 n7 b4 b5 s3 n8 n9 d f e s4 v4 v5 v6 c->(need (isSl b) (BId (a<(lenS b:Int)) (((0<=a/\a<(lenZ 3 b:Int))/\Ag ((Aj c [] (.t (ixT 3 b a.toNat)) 0 3).map TV.agg) (fun (x1:TV)=>AT [.bool,.str,.int .i64] x1 (fun (b6:Bool) (s5:B8) (s:Int)=>CallT PR Dt [(.agg (cV n1 b2 b3 s1 n2 n3 n4 n5 n6 s2 v1 v2 v3)),(.agg [.bool b6,.str s5,.int .i64 s])] [.one (.int .i64),.one (.int .i64)] c (fun (u n:Int) r=>BId (n≠0) (K 0 false false [] 0 0 0 0 0 [] .nilSlice .nilSlice .nilSlice n r) (CallT PR Ds [(.agg (cV n1 b2 b3 s1 n2 n3 n4 n5 n6 s2 v1 v2 v3)),.int .i64 u] [sV] r (fun (g:Int) (b7 b8:Bool) (s6:B8) (k i l m j:Int) (s7:B8) (v7 v8 v9:TV) q=>need (List.all (cV g b7 b8 s6 k i l m j s7 v7 v8 v9) Ap) ((I1 ((i64.wrap (a+(1:Int)))) b g b7 b8 s6 k i l m j s7 v7 v8 v9 n7 b4 b5 s3 n8 n9 d f e s4 v4 v5 v6 q/\M1 ((i64.wrap (a+(1:Int)))) b g b7 b8 s6 k i l m j s7 v7 v8 v9 n7 b4 b5 s3 n8 n9 d f e s4 v4 v5 v6 q<M1 a b n1 b2 b3 s1 n2 n3 n4 n5 n6 s2 v1 v2 v3 n7 b4 b5 s3 n8 n9 d f e s4 v4 v5 v6 c))))))))) (need (List.all (cV n1 b2 b3 s1 n2 n3 n4 n5 n6 s2 v1 v2 v3) Ap) (K n1 b2 b3 s1 n2 n3 n4 n5 n6 s2 v1 v2 v3 0 c))))))):CallT PR DJ [(.agg (cV v_0 v_1 v_2 v_3 v_4 v_5 v_6 v_7 v_8 v_9 v_10 v_11 v_12)),p] [sV,.one (.int .i64)] st K:=
 Ae (cfg:=⟨[2,4],[],[24]⟩) (h:=(.seq .none (.seq .none (.seq (.seq .none (.block (.loop ⟨[(6,.int .i64),(1,.tv)],[(2,0,0),(4,1,0)],[(0,13),(1,13)],[(0,0,.int .i64),(0,1,.bool),(0,2,.bool),(0,3,.str),(0,4,.int .i64),(0,5,.int .i64),(0,6,.int .i64),(0,7,.int .i64),(0,8,.int .i64),(0,9,.str),(0,10,.tv),(0,11,.tv),(0,12,.tv),(1,0,.int .i64),(1,1,.bool),(1,2,.bool),(1,3,.str),(1,4,.int .i64),(1,5,.int .i64),(1,6,.int .i64),(1,7,.int .i64),(1,8,.int .i64),(1,9,.str),(1,10,.tv),(1,11,.tv),(1,12,.tv)]⟩ .none))) .none)))) mixed (fun _ _=>Tryz.call113 _ _) Tryz.func113 (by kernel_rfl) (by kernel_rfl) h
theorem DG (b:Nat) (st:St) (K:B8->St->Prop) (h:Ag (Ac st [] (.t (.box b 1)) 0) (fun (v1:TV)=>Ag (Ou v1) (fun (v2:TV)=>Ag (Ac st [] (.t (.box b 1)) 0) (fun (v3:TV)=>need (isSl v3) (usK 5 v2 (lenS v3:Int) st (fun (s1:B8) a=>K s1 a)))))):CallT PR B1 [(.box b 0)] [.one .str] st K:=
 Ae (cfg:=⟨[],[],[]⟩) (h:= .none) mixed (fun _ _=>Tryz.call123 _ _) Tryz.func123 (by kernel_rfl) (by kernel_rfl) h
theorem N3 (v_0:Int) (e:Bool) (d:Bool) (v_3:B8) (v_4:Int) (v_5:Int) (v_6:Int) (v_7:Int) (v_8:Int) (v_9:B8) (v_10:TV) (v_11:TV) (v_12:TV) (depth:Int) (n:Nat) (st:St) (K:Int->St->Prop) (h:Ag (Ac st [] (.t (.box n 0)) 0) (fun (x1:TV)=>Af (.int .i64) x1 (fun (n1:Int)=>stB st (.box n 0) [(.int .i64 (i64.wrap (n1+(1:Int))))] (fun q=>∃(C1:Int->TV->V13 (St->Prop)),(BId ((48:Int)<depth) (K 9 q) (Ag (Ac q [] (.t (.box n 0)) 0) (fun (x2:TV)=>Af (.int .i64) x2 (fun (n2:Int)=>BId ((65536:Int)<n2) (K 10 q) (∃(C2:Bool->Int->TV->V13 (St->Prop)),(BId (v_0<0) (C2 true depth ((.box n 0)) v_0 e d v_3 v_4 v_5 v_6 v_7 v_8 v_9 v_10 v_11 v_12 q) (BId ((8:Int)<=v_0) (C2 true depth ((.box n 0)) v_0 e d v_3 v_4 v_5 v_6 v_7 v_8 v_9 v_10 v_11 v_12 q) (CallT PR Ge [(.agg (cV v_0 e d v_3 v_4 v_5 v_6 v_7 v_8 v_9 v_10 v_11 v_12))] [.one .bool] q (fun (b1:Bool) g8=>C2 b1 depth ((.box n 0)) v_0 e d v_3 v_4 v_5 v_6 v_7 v_8 v_9 v_10 v_11 v_12 g8))))/\∀f3 b p n3 b2 b3 s1 n4 n5 n6 n7 n8 s2 v1 v2 v3 w,C2 f3 b p n3 b2 b3 s1 n4 n5 n6 n7 n8 s2 v1 v2 v3 w->(BIf f3 (K 6 w) (∃(C3:Bool->Int->TV->V13 (St->Prop)),(BId (n3=2) (CallT PR DD [(.agg [.bool b3,.str s1,.int .i64 n4])] [.one .bool] w (fun (b4:Bool) c4=>BIf (!b4) (C3 true b p n3 b2 b3 s1 n4 n5 n6 n7 n8 s2 v1 v2 v3 c4) (BId (n3=3) (CallT PR CL [(.agg [.int .i64 n5,.int .i64 n6,.int .i64 n7,.int .i64 n8])] [.one .bool] c4 (fun (b5:Bool) g7=>C3 ((!b5)) b p n3 b2 b3 s1 n4 n5 n6 n7 n8 s2 v1 v2 v3 g7)) (C3 false b p n3 b2 b3 s1 n4 n5 n6 n7 n8 s2 v1 v2 v3 c4)))) (BId (n3=3) (CallT PR CL [(.agg [.int .i64 n5,.int .i64 n6,.int .i64 n7,.int .i64 n8])] [.one .bool] w (fun (b6:Bool) h0=>C3 ((!b6)) b p n3 b2 b3 s1 n4 n5 n6 n7 n8 s2 v1 v2 v3 h0)) (C3 false b p n3 b2 b3 s1 n4 n5 n6 n7 n8 s2 v1 v2 v3 w)))/\∀d8 f c0 n9 b7 b8 s3 c5 c2 b0 c1 c6 s4 v4 v5 v6 r,C3 d8 f c0 n9 b7 b8 s3 c5 c2 b0 c1 c6 s4 v4 v5 v6 r->(BIf d8 (K 2 r) (BId (n9=4) (CallT PR DB [.str s4] [.one .bool] r (fun (b9:Bool) a8=>BIf (!b9) (K 5 a8) (BId ((65536:Int)<(s4.length:Int)) (K 10 a8) (need (isSl v4) (BId ((65536:Int)<(lenS v4:Int)) (K 10 a8) (C1 f c0 n9 b7 b8 s3 c5 c2 b0 c1 c6 s4 v4 v5 v6 a8)))))) (BId ((65536:Int)<(s4.length:Int)) (K 10 r) (need (isSl v4) (BId ((65536:Int)<(lenS v4:Int)) (K 10 r) (C1 f c0 n9 b7 b8 s3 c5 c2 b0 c1 c6 s4 v4 v5 v6 r)))))))))))))/\∀o g1 f0 e3 d2 s5 d9 g2 e5 e4 e1 s6 v7 v8 v9 e2,C1 o g1 f0 e3 d2 s5 d9 g2 e5 e4 e1 s6 v7 v8 v9 e2->(CallT PR G1 [v9] [.one (.int .i64)] e2 (fun (f4:Int) c3=>BId (f4≠0) (K f4 c3) (need (isSl v8) (∃(I1:Int->Int->TV->TV->Int->V13 (St->Prop)) (M1:Int->Int->TV->TV->Int->V13 (St->Nat)),(I1 0 o g1 v8 ((lenS v8:Int)) f0 e3 d2 s5 d9 g2 e5 e4 e1 s6 v7 v8 v9 c3)/\∀i a m e v a9 a4 a0 s7 a5 a7 a2 z a6 s8 a3 a1 l k,I1 i a m e v a9 a4 a0 s7 a5 a7 a2 z a6 s8 a3 a1 l k->(BId (i<v) (((0<=i/\i<(lenZ 13 e:Int))/\Ag ((Aj k [] (.t (ixT 13 e i.toNat)) 0 13).map TV.agg) (fun (x3:TV)=>AT [.int .i64,.bool,.bool,.str,.int .i64,.int .i64,.int .i64,.int .i64,.int .i64,.str,.tv,.tv,.tv] x3 (fun (d0:Int) (e6 e8:Bool) (s9:B8) (d4 e9 d6 d1 c8:Int) (f9:B8) (d5 f2 g5:TV)=>need (List.all (cV d0 e6 e8 s9 d4 e9 d6 d1 c8 f9 d5 f2 g5) Ap) (CallT PR Dm [(.agg (cV d0 e6 e8 s9 d4 e9 d6 d1 c8 f9 d5 f2 g5)),(.int .i64 (i64.wrap (a+(1:Int)))),m] [.one (.int .i64)] k (fun (f6:Int) x=>BId (f6≠0) (K f6 x) ((I1 ((i64.wrap (i+(1:Int)))) a m e v a9 a4 a0 s7 a5 a7 a2 z a6 s8 a3 a1 l x/\M1 ((i64.wrap (i+(1:Int)))) a m e v a9 a4 a0 s7 a5 a7 a2 z a6 s8 a3 a1 l x<M1 i a m e v a9 a4 a0 s7 a5 a7 a2 z a6 s8 a3 a1 l k)))))))) (need (isSl l) (∃(I2:Int->Int->TV->TV->Int->St->Prop) (M2:Int->Int->TV->TV->Int->St->Nat),(I2 0 a m l ((lenS l:Int)) k)/\∀g c s d u j,I2 g c s d u j->(BId (g<u) (((0<=g/\g<(lenZ 14 d:Int))/\Ag ((Aj j [] (.t (ixT 14 d g.toNat)) 0 14).map TV.agg) (fun (x4:TV)=>AT [.str,.int .i64,.bool,.bool,.str,.int .i64,.int .i64,.int .i64,.int .i64,.int .i64,.str,.tv,.tv,.tv] x4 (fun (g9:B8) (d7:Int) (f7 c9:Bool) (f5:B8) (d3 g6 f8 g4 g0:Int) (f1:B8) (e0 g3 e7:TV)=>need (List.all [.str g9,.int .i64 d7,.bool f7,.bool c9,.str f5,.int .i64 d3,.int .i64 g6,.int .i64 f8,.int .i64 g4,.int .i64 g0,.str f1,e0,g3,e7] Ap) (CallT PR Dm [(.agg (cV d7 f7 c9 f5 d3 g6 f8 g4 g0 f1 e0 g3 e7)),(.int .i64 (i64.wrap (c+(1:Int)))),s] [.one (.int .i64)] j (fun (c7:Int) y=>BId (c7≠0) (K c7 y) ((I2 ((i64.wrap (g+(1:Int)))) c s d u y/\M2 ((i64.wrap (g+(1:Int)))) c s d u y<M2 g c s d u j)))))))) (K 0 j))))))))))))):CallT PR Dm [(.agg (cV v_0 e d v_3 v_4 v_5 v_6 v_7 v_8 v_9 v_10 v_11 v_12)),.int .i64 depth,(.box n 0)] [.one (.int .i64)] st K:=
 Ae (cfg:=⟨[3,9,12],[],[]⟩) (h:=(.seq .none (.seq .none (.cut ⟨[(1,.int .i64),(2,.tv)],[(3,0,0)],[(0,13)],[(0,0,.int .i64),(0,1,.bool),(0,2,.bool),(0,3,.str),(0,4,.int .i64),(0,5,.int .i64),(0,6,.int .i64),(0,7,.int .i64),(0,8,.int .i64),(0,9,.str),(0,10,.tv),(0,11,.tv),(0,12,.tv)]⟩ (.block (.seq .none (.cond .none (.seq .none (.cond .none (.cut ⟨[(27,.bool),(1,.int .i64),(2,.tv)],[(3,0,0)],[(0,13)],[(0,0,.int .i64),(0,1,.bool),(0,2,.bool),(0,3,.str),(0,4,.int .i64),(0,5,.int .i64),(0,6,.int .i64),(0,7,.int .i64),(0,8,.int .i64),(0,9,.str),(0,10,.tv),(0,11,.tv),(0,12,.tv)]⟩ .none (.cond .none (.cut ⟨[(40,.bool),(1,.int .i64),(2,.tv)],[(3,0,0)],[(0,13)],[(0,0,.int .i64),(0,1,.bool),(0,2,.bool),(0,3,.str),(0,4,.int .i64),(0,5,.int .i64),(0,6,.int .i64),(0,7,.int .i64),(0,8,.int .i64),(0,9,.str),(0,10,.tv),(0,11,.tv),(0,12,.tv)]⟩ .none .none)))))))) (.seq .none (.seq (.seq .none (.block (.loop ⟨[(91,.int .i64),(1,.int .i64),(2,.tv),(89,.tv),(90,.int .i64)],[(3,0,0)],[(0,13)],[(0,0,.int .i64),(0,1,.bool),(0,2,.bool),(0,3,.str),(0,4,.int .i64),(0,5,.int .i64),(0,6,.int .i64),(0,7,.int .i64),(0,8,.int .i64),(0,9,.str),(0,10,.tv),(0,11,.tv),(0,12,.tv)]⟩ .none))) (.seq (.seq .none (.block (.loop ⟨[(107,.int .i64),(1,.int .i64),(2,.tv),(105,.tv),(106,.int .i64)],[],[],[]⟩ .none))) .none))))))) mixed (fun _ _=>Tryz.call124 _ _) Tryz.func124 (by kernel_rfl) (by kernel_rfl) h
theorem Kk (s:B8) (st:St) (K:Int->St->Prop) (h:CallT PR Be [.str s] [.one .tv,.one .bool] st (fun (v1:TV) (b1:Bool) a=>need (isSl v1) (((0<=(i64.wrap ((lenS v1:Int)-(1:Int)))/\(i64.wrap ((lenS v1:Int)-(1:Int)))<(lenZ 1 v1:Int))/\Ag (Ac a [] (.t (ixT 1 v1 (Int.toNat (i64.wrap ((lenS v1:Int)-(1:Int)))))) 0) (fun (x1:TV)=>Af (.int .i64) x1 (fun (n1:Int)=>K n1 a)))))):CallT PR DL [.str s] [.one (.int .i64)] st K:=
 Ae (cfg:=⟨[],[],[]⟩) (h:= .none) mixed (fun _ _=>Tryz.call127 _ _) Tryz.func127 (by kernel_rfl) (by kernel_rfl) h
theorem Pv (s:B8) (atx:Int) (st:St) (K:Int->Int->St->Prop) (h:BId (atx<0) (K 0 0 st) (BId ((s.length:Int)<=atx) (K 0 0 st) (((0<=atx/\atx<(s.length:Int))/\CallT PR JH [(.int .u8 ((List.getD s atx.toNat 0).toNat:Int))] [.one (.int .i64),.one (.int .i64)] st (fun (n1 n2:Int) g=>BId (n1=0) (K 0 0 g) (BId ((i64.wrap ((s.length:Int)-atx))<n1) (K 0 0 g) (∃(I1:Int->Int->B8->Int->Int->St->Prop) (M1:Int->Int->B8->Int->Int->St->Nat),(I1 n2 1 s atx n1 g)/\∀d b c a e f,I1 d b c a e f->(BId (b<e) (((0<=(i64.wrap (a+b))/\(i64.wrap (a+b))<(c.length:Int))/\BId ((AM .and .u8 ((List.getD c (Int.toNat (i64.wrap (a+b))) 0).toNat:Int) (192:Int))≠(128:Int)) (K 0 0 f) ((I1 ((AM .or .i64 (i64.wrap (d*2^(min (Int.toNat (6:Int)) (IntKind.bits .i64)))) (i64.wrap (AM .and .u8 ((List.getD c (Int.toNat (i64.wrap (a+b))) 0).toNat:Int) (63:Int))))) ((i64.wrap (b+(1:Int)))) c a e f/\M1 ((AM .or .i64 (i64.wrap (d*2^(min (Int.toNat (6:Int)) (IntKind.bits .i64)))) (i64.wrap (AM .and .u8 ((List.getD c (Int.toNat (i64.wrap (a+b))) 0).toNat:Int) (63:Int))))) ((i64.wrap (b+(1:Int)))) c a e f<M1 d b c a e f)))) (CallT PR G3 [.int .i64 d] [.one .bool] f (fun (b1:Bool) j=>BIf (!b1) (K 0 0 j) (CallT PR Ie [.int .i64 d] [.one (.int .i64)] j (fun (n3:Int) i=>BId (n3≠e) (K 0 0 i) (K d e i))))))))))))):CallT PR EX [.str s,.int .i64 atx] [.one (.int .i64),.one (.int .i64)] st K:=
 Ae (cfg:=⟨[],[],[]⟩) (h:=(.seq .none (.seq .none (.seq .none (.seq .none (.seq (.seq .none (.block (.loop ⟨[(4,.int .i64),(7,.int .i64),(0,.str),(1,.int .i64),(6,.int .i64)],[],[],[]⟩ .none))) .none)))))) mixed (fun _ _=>Tryz.call133 _ _) Tryz.func133 (by kernel_rfl) (by kernel_rfl) h
theorem Iq (d_0:Bool) (d_1:B8) (d_2:Int) (st:St) (K:B8->St->Prop) (h:∃(C1:Bool->B8->Int->St->Prop),(BId (d_1=([]:B8)) (K Ls st) (CallT PR DD [(.agg [.bool d_0,.str d_1,.int .i64 d_2])] [.one .bool] st (fun (b1:Bool) u=>BIf (!b1) (K Ls u) (C1 d_0 d_1 d_2 u))))/\∀b2 s1 n1 o,C1 b2 s1 n1 o->(∃(C2:B8->Bool->B8->Int->St->Prop),(BIf b2 (C2 E6 b2 s1 n1 o) (C2 [] b2 s1 n1 o))/\∀p b3 s2 n2 r,C2 p b3 s2 n2 r->(∃(C3:B8->Int->Int->Bool->B8->Int->St->Prop),(∃(C4:Bool->B8->Int->Int->Bool->B8->Int->St->Prop),(BId ((0:Int)<=n2) (C4 ((decide ((i64.wrap ((s2.length:Int)+n2))<=(21:Int)))) p ((s2.length:Int)) ((i64.wrap ((s2.length:Int)+n2))) b3 s2 n2 r) (C4 false p ((s2.length:Int)) ((i64.wrap ((s2.length:Int)+n2))) b3 s2 n2 r))/\∀v d k e b4 s3 n3 g,C4 v d k e b4 s3 n3 g->(BIf v ((d.length+s3.length<=9223372036854775807/\CallT PR Eo [.str Ls,.int .i64 n3] [.one .str] g (fun (s4:B8) y=>(((d++s3)).length+s4.length<=9223372036854775807/\K (((d++s3)++s4)) y)))) (∃(C5:Bool->B8->Int->Int->Bool->B8->Int->St->Prop),(BId (n3<0) (BId ((1:Int)<=e) (C5 ((decide (e<=21))) d k e b4 s3 n3 g) (C5 false d k e b4 s3 n3 g)) (C5 false d k e b4 s3 n3 g))/\∀s b q a b5 s5 n4 i,C5 s b q a b5 s5 n4 i->(BIf s (((0<=a/\a<=(s5.length:Int))/\(b.length+((List.take a.toNat s5)).length<=9223372036854775807/\(((b++(List.take a.toNat s5))).length+Ks.length<=9223372036854775807/\((0<=a/\a<=(s5.length:Int))/\((((b++(List.take a.toNat s5))++Ks)).length+((List.drop a.toNat s5)).length<=9223372036854775807/\K ((((b++(List.take a.toNat s5))++Ks)++(List.drop a.toNat s5))) i)))))) (BId ((-5:Int)<=a) (BId (a<=0) ((b.length+Vw.length<=9223372036854775807/\CallT PR Eo [.str Ls,(.int .i64 (i64.wrap (0-a)))] [.one .str] i (fun (s6:B8) z=>(((b++Vw)).length+s6.length<=9223372036854775807/\((((b++Vw)++s6)).length+s5.length<=9223372036854775807/\K ((((b++Vw)++s6)++s5)) z))))) (C3 b q a b5 s5 n4 i)) (C3 b q a b5 s5 n4 i))))))/\∀f t m b6 s7 n5 l,C3 f t m b6 s7 n5 l->(((0<=(1:Int)/\(1:Int)<=(s7.length:Int))/\(f.length+((List.take (Int.toNat (1:Int)) s7)).length<=9223372036854775807/\∃(C6:B8->Int->St->Prop),(BId ((1:Int)<t) (((0<=(1:Int)/\(1:Int)<=(s7.length:Int))/\(Ks.length+((List.drop (Int.toNat (1:Int)) s7)).length<=9223372036854775807/\(((f++(List.take (Int.toNat (1:Int)) s7))).length+((Ks++(List.drop (Int.toNat (1:Int)) s7))).length<=9223372036854775807/\C6 (((f++(List.take (Int.toNat (1:Int)) s7))++(Ks++(List.drop (Int.toNat (1:Int)) s7)))) m l)))) (C6 ((f++(List.take (Int.toNat (1:Int)) s7))) m l))/\∀c j n,C6 c j n->(BId (j<1) ((c.length+W9.length<=9223372036854775807/\CallT PR DC [(.int .i64 (i64.wrap ((1:Int)-j)))] [.one .str] n (fun (s8:B8) w=>(((c++W9)).length+s8.length<=9223372036854775807/\K (((c++W9)++s8)) w)))) ((c.length+Xa.length<=9223372036854775807/\CallT PR DC [(.int .i64 (i64.wrap (j-(1:Int))))] [.one .str] n (fun (s9:B8) x=>(((c++Xa)).length+s9.length<=9223372036854775807/\K (((c++Xa)++s9)) x))))))))))):CallT PR D1 [(.agg [.bool d_0,.str d_1,.int .i64 d_2])] [.one .str] st K:=
 Ae (cfg:=⟨[1],[],[]⟩) (h:=(.seq .none (.cut ⟨[],[(1,0,0)],[(0,3)],[(0,0,.bool),(0,1,.str),(0,2,.int .i64)]⟩ .none (.seq .none (.cut ⟨[(3,.str)],[(1,0,0)],[(0,3)],[(0,0,.bool),(0,1,.str),(0,2,.int .i64)]⟩ .none (.seq .none (.seq .none (.cut ⟨[(3,.str),(4,.int .i64),(5,.int .i64)],[(1,0,0)],[(0,3)],[(0,0,.bool),(0,1,.str),(0,2,.int .i64)]⟩ (.block (.cut ⟨[(23,.bool),(3,.str),(4,.int .i64),(5,.int .i64)],[(1,0,0)],[(0,3)],[(0,0,.bool),(0,1,.str),(0,2,.int .i64)]⟩ .none (.cond .none (.cut ⟨[(39,.bool),(3,.str),(4,.int .i64),(5,.int .i64)],[(1,0,0)],[(0,3)],[(0,0,.bool),(0,1,.str),(0,2,.int .i64)]⟩ .none .none)))) (.seq .none (.cut ⟨[(3,.str),(5,.int .i64)],[],[],[]⟩ .none .none)))))))))) mixed (fun _ _=>Tryz.call143 _ _) Tryz.func143 (by kernel_rfl) (by kernel_rfl) h
theorem N5 (t_0:Int) (t_1:Int) (t_2:Int) (t_3:Int) (st:St) (K:B8->St->Prop) (h:CallT PR CL [(.agg [.int .i64 t_0,.int .i64 t_1,.int .i64 t_2,.int .i64 t_3])] [.one .bool] st (fun (b1:Bool) a=>BIf (!b1) (K [] a) (BId (t_0=1) (CallT PR Bk [.int .i64 t_1] [.one .str] a (fun (s1:B8) i=>K s1 i)) (BId (t_0=2) (CallT PR Bg [.int .i64 t_2] [.one .str] a (fun (s2:B8) g=>K s2 g)) (BId (t_0=3) (CallT PR Bk [.int .i64 t_1] [.one .str] a (fun (s3:B8) d=>(s3.length+Ok.length<=9223372036854775807/\CallT PR Bg [.int .i64 t_2] [.one .str] d (fun (s4:B8) e=>(((s3++Ok)).length+s4.length<=9223372036854775807/\K (((s3++Ok)++s4)) e))))) (CallT PR Bk [.int .i64 t_1] [.one .str] a (fun (s5:B8) f=>(s5.length+Ok.length<=9223372036854775807/\CallT PR Bg [.int .i64 t_2] [.one .str] f (fun (s6:B8) c=>(((s5++Ok)).length+s6.length<=9223372036854775807/\CallT PR Do [.int .i64 t_3] [.one .str] c (fun (s7:B8) b=>((((s5++Ok)++s6)).length+s7.length<=9223372036854775807/\K ((((s5++Ok)++s6)++s7)) b)))))))))))):CallT PR Ep [(.agg [.int .i64 t_0,.int .i64 t_1,.int .i64 t_2,.int .i64 t_3])] [.one .str] st K:=
 Ae (cfg:=⟨[1],[],[]⟩) (h:= .none) mixed (fun _ _=>Tryz.call144 _ _) Tryz.func144 (by kernel_rfl) (by kernel_rfl) h
theorem IT (s:B8) (st:St) (K:Bool->St->Prop) (h:CallT PR Be [.str s] [.one .tv,.one .bool] st (fun (v1:TV) (b1:Bool) a=>K b1 a)):CallT PR BV [.str s] [.one .bool] st K:=
 Ae (cfg:=⟨[],[],[]⟩) (h:= .none) mixed (fun _ _=>Tryz.call155 _ _) Tryz.func155 (by kernel_rfl) (by kernel_rfl) h
theorem Ja (s:B8) (prefixx:B8) (st:St) (K:Bool->St->Prop) (h:CallT PR DW [.str s,.str prefixx] [.one .bool] st (fun (b1:Bool) a=>K b1 a)):CallT PR A1 [.str s,.str prefixx] [.one .bool] st K:=
 Ae (cfg:=⟨[],[],[]⟩) (h:= .none) mixed (fun _ _=>Tryz.call156 _ _) Tryz.func156 (by kernel_rfl) (by kernel_rfl) h
theorem Ob (s:B8) (st:St) (K:Int->St->Prop) (h:∃(I1:Int->B8->St->Prop) (M1:Int->B8->St->Nat),(I1 0 s st)/\∀a b c,I1 a b c->(BId (a<(b.length:Int)) (((0<=a/\a<(b.length:Int))/\BId ((48:Int)<=((List.getD b a.toNat 0).toNat:Int)) (((0<=a/\a<(b.length:Int))/\BId (((List.getD b a.toNat 0).toNat:Int)<=(57:Int)) ((I1 ((i64.wrap (a+(1:Int)))) b c/\M1 ((i64.wrap (a+(1:Int)))) b c<M1 a b c)) (K a c))) (K a c))) (K a c))):CallT PR Dq [.str s] [.one (.int .i64)] st K:=
 Ae (cfg:=⟨[],[],[]⟩) (h:=(.seq .none (.seq .none (.seq (.block (.loop ⟨[(3,.int .i64),(0,.str)],[],[],[]⟩ .none)) .none)))) mixed (fun _ _=>Tryz.call157 _ _) Tryz.func157 (by kernel_rfl) (by kernel_rfl) h
theorem L7 (exp:Int) (less:Bool) (byx:B8) (st:St) (K:Int->St->Prop) (h:BId ((byx.length:Int)<=(12:Int)) (CallT PR Fm [.str byx] [.one (.int .i64),.one (.int .i64)] st (fun (n1 n2:Int) a=>BIf less (K ((i64.wrap (exp-n1))) a) (K ((i64.wrap (exp+n1))) a))) (BIf less (K ((i64.wrap (exp-(1099511627776:Int)))) st) (K ((i64.wrap (exp+(1099511627776:Int)))) st))):CallT PR EQ [.int .i64 exp,.bool less,.str byx] [.one (.int .i64)] st K:=
 Ae (cfg:=⟨[],[],[]⟩) (h:= .none) mixed (fun _ _=>Tryz.call158 _ _) Tryz.func158 (by kernel_rfl) (by kernel_rfl) h
theorem Ny (neg:Bool) (s:B8) (exp:Int) (st:St) (K:Bool->B8->Int->Int->St->Prop) (h:∃(I1:Int->Bool->B8->Int->Int->Bool->B8->Int->St->Prop) (M1:Int->Bool->B8->Int->Int->Bool->B8->Int->St->Nat),(I1 0 neg s exp ((s.length:Int)) false [] 0 st)/\∀a d b c f b1 s1 n1 e,I1 a d b c f b1 s1 n1 e->(BId (a<f) (((0<=a/\a<(b.length:Int))/\BId (((List.getD b a.toNat 0).toNat:Int)<(48:Int)) (K false [] 0 3 e) (((0<=a/\a<(b.length:Int))/\BId ((57:Int)<((List.getD b a.toNat 0).toNat:Int)) (K false [] 0 3 e) ((I1 ((i64.wrap (a+(1:Int)))) d b c f b1 s1 n1 e/\M1 ((i64.wrap (a+(1:Int)))) d b c f b1 s1 n1 e<M1 a d b c f b1 s1 n1 e)))))) (CallT PR DI [.str b,.str Ls] [.one .str] e (fun (s2:B8) i=>CallT PR Fp [.bool d,.str s2,.int .i64 c] [.agg [.bool,.str,.int .i64],.one (.int .i64)] i (fun (b2:Bool) (s3:B8) (n2 n3:Int) g=>K b2 s3 n2 n3 g))))):CallT PR CN [.bool neg,.str s,.int .i64 exp] [.agg [.bool,.str,.int .i64],.one (.int .i64)] st K:=
 Ae (cfg:=⟨[6],[],[]⟩) (h:=(.seq .none (.seq (.seq .none (.block (.loop ⟨[(11,.int .i64),(0,.bool),(1,.str),(2,.int .i64),(10,.int .i64)],[(6,0,0)],[(0,3)],[(0,0,.bool),(0,1,.str),(0,2,.int .i64)]⟩ .none))) .none))) mixed (fun _ _=>Tryz.call160 _ _) Tryz.func160 (by kernel_rfl) (by kernel_rfl) h
theorem IA (r:Nat) (f:Nat) (st:St) (K:Int->St->Prop) (h:Ag (Ac st [] (.t (.box r 0)) 0) (fun (x1:TV)=>Af .str x1 (fun (s1:B8)=>BId ((2:Int)<(s1.length:Int)) (Ag (Ac st [] (.t (.box r 0)) 0) (fun (x2:TV)=>Af .str x2 (fun (s2:B8)=>((0<=(2:Int)/\(2:Int)<(s2.length:Int))/\BId (((List.getD s2 (Int.toNat (2:Int)) 0).toNat:Int)=(58:Int)) (CallT PR Bc [(.box r 0),(.box f 0)] [] st (fun (g:St)=>K 2 g)) (CallT PR BP [(.box r 0),(.box f 0)] [] st (fun (d:St)=>Ag (Ac d [] (.t (.box r 0)) 0) (fun (x3:TV)=>Af .str x3 (fun (s3:B8)=>BId (s3=([]:B8)) (K 1 d) (CallT PR AC [(.box r 0),.str str25] [.one (.int .u8)] d (fun (n1:Int) k=>CallT PR Bc [(.box r 0),(.box f 0)] [] k (fun (b:St)=>Ag (Ac b [] (.t (.box r 0)) 0) (fun (x4:TV)=>Af .str x4 (fun (s4:B8)=>BId (s4=([]:B8)) (K 3 b) (CallT PR Br [(.box r 0),(.box f 0)] [] b (fun (i:St)=>K 4 i))))))))))))))) (CallT PR BP [(.box r 0),(.box f 0)] [] st (fun (c:St)=>Ag (Ac c [] (.t (.box r 0)) 0) (fun (x5:TV)=>Af .str x5 (fun (s5:B8)=>BId (s5=([]:B8)) (K 1 c) (CallT PR AC [(.box r 0),.str str25] [.one (.int .u8)] c (fun (n2:Int) e=>CallT PR Bc [(.box r 0),(.box f 0)] [] e (fun (a:St)=>Ag (Ac a [] (.t (.box r 0)) 0) (fun (x6:TV)=>Af .str x6 (fun (s6:B8)=>BId (s6=([]:B8)) (K 3 a) (CallT PR Br [(.box r 0),(.box f 0)] [] a (fun (j:St)=>K 4 j)))))))))))))):CallT PR CT [(.box r 0),(.box f 0)] [.one (.int .i64)] st K:=
 Ae (cfg:=⟨[],[],[]⟩) (h:= .none) mixed (fun _ _=>Tryz.call161 _ _) Tryz.func161 (by kernel_rfl) (by kernel_rfl) h
theorem Nz (year:Int) (month:Int) (day:Int) (st:St) (K:Int->Int->St->Prop) (h:BId (day<1) (K 0 2 st) (CallT PR AR [.int .i64 year,.int .i64 month] [.one (.int .i64)] st (fun (n1:Int) f=>BId (n1<day) (K 0 2 f) (CallT PR Bs [.int .i64 year] [.one (.int .i64)] f (fun (n2:Int) i=>∃(I1:Int->Int->Int->Int->St->Prop) (M1:Int->Int->Int->Int->St->Nat),(I1 ((i64.wrap ((i64.wrap (n2+day))-(1:Int)))) 1 year month i)/\∀d c b a e,I1 d c b a e->(BId (c<a) (CallT PR AR [.int .i64 b,.int .i64 c] [.one (.int .i64)] e (fun (n3:Int) g=>(I1 ((i64.wrap (d+n3))) ((i64.wrap (c+(1:Int)))) b a g/\M1 ((i64.wrap (d+n3))) ((i64.wrap (c+(1:Int)))) b a g<M1 d c b a e))) (K d 0 e))))))):CallT PR Fq [.int .i64 year,.int .i64 month,.int .i64 day] [.one (.int .i64),.one (.int .i64)] st K:=
 Ae (cfg:=⟨[],[],[]⟩) (h:=(.seq .none (.seq .none (.seq .none (.seq (.seq .none (.block (.loop ⟨[(8,.int .i64),(9,.int .i64),(0,.int .i64),(1,.int .i64)],[],[],[]⟩ .none))) .none))))) mixed (fun _ _=>Tryz.call162 _ _) Tryz.func162 (by kernel_rfl) (by kernel_rfl) h
theorem Kg (s:B8) (i:Int) (st:St) (K:Int->St->Prop) (h:∃(I1:Int->B8->St->Prop) (M1:Int->B8->St->Nat),(I1 i s st)/\∀a b c,I1 a b c->(BId (a<(b.length:Int)) (((0<=a/\a<(b.length:Int))/\CallT PR BR [(.int .u8 ((List.getD b a.toNat 0).toNat:Int))] [.one .bool] c (fun (b1:Bool) d=>BIf b1 ((I1 ((i64.wrap (a+(1:Int)))) b d/\M1 ((i64.wrap (a+(1:Int)))) b d<M1 a b c)) (K a d)))) (K a c))):CallT PR AA [.str s,.int .i64 i] [.one (.int .i64)] st K:=
 Ae (cfg:=⟨[],[],[]⟩) (h:=(.seq .none (.seq (.block (.loop ⟨[(1,.int .i64),(0,.str)],[],[],[]⟩ .none)) .none))) mixed (fun _ _=>Tryz.call163 _ _) Tryz.func163 (by kernel_rfl) (by kernel_rfl) h
theorem Kl (s:B8) (atx:Int) (st:St) (K:Int->St->Prop) (h:∃(I1:Int->B8->St->Prop) (M1:Int->B8->St->Nat),(I1 atx s st)/\∀a b c,I1 a b c->(BId (a<(b.length:Int)) (((0<=a/\a<(b.length:Int))/\BId ((48:Int)<=((List.getD b a.toNat 0).toNat:Int)) (((0<=a/\a<(b.length:Int))/\BId (((List.getD b a.toNat 0).toNat:Int)<=(57:Int)) ((I1 ((i64.wrap (a+(1:Int)))) b c/\M1 ((i64.wrap (a+(1:Int)))) b c<M1 a b c)) (K a c))) (K a c))) (K a c))):CallT PR Bx [.str s,.int .i64 atx] [.one (.int .i64)] st K:=
 Ae (cfg:=⟨[],[],[]⟩) (h:=(.seq .none (.seq (.block (.loop ⟨[(1,.int .i64),(0,.str)],[],[],[]⟩ .none)) .none))) mixed (fun _ _=>Tryz.call164 _ _) Tryz.func164 (by kernel_rfl) (by kernel_rfl) h
theorem IU (s:B8) (st:St) (K:Int->St->Prop) (h:CallT PR BW [.str s] [.one .str] st (fun (s1:B8) a=>BId ((9:Int)<(s1.length:Int)) (K 1000000000 a) (CallT PR Dd [.str s1] [.one (.int .i64),.one (.int .i64)] a (fun (n1 n2:Int) b=>K n1 b)))):CallT PR C9 [.str s] [.one (.int .i64)] st K:=
 Ae (cfg:=⟨[],[],[]⟩) (h:= .none) mixed (fun _ _=>Tryz.call165 _ _) Tryz.func165 (by kernel_rfl) (by kernel_rfl) h
theorem HW (neg:Bool) (s:B8) (exp:Int) (st:St) (K:Bool->B8->Int->Int->St->Prop) (h:CallT PR BW [.str s] [.one .str] st (fun (s1:B8) b=>BId (s1=([]:B8)) (K false [] 0 0 b) (CallT PR Db [.str s1] [.one (.int .i64)] b (fun (n1:Int) a=>((0<=(i64.wrap ((s1.length:Int)-n1))/\(i64.wrap ((s1.length:Int)-n1))<=(s1.length:Int))/\BId ((120:Int)<(((List.take (Int.toNat (i64.wrap ((s1.length:Int)-n1))) s1)).length:Int)) (K false [] 0 2 a) (BId ((400:Int)<exp) (K false [] 0 2 a) (BId ((400:Int)<(i64.wrap (exp+n1))) (K false [] 0 2 a) (BId ((i64.wrap (exp+n1))<(-400:Int)) (K false [] 0 2 a) (K neg ((List.take (Int.toNat (i64.wrap ((s1.length:Int)-n1))) s1)) ((i64.wrap (exp+n1))) 0 a))))))))):CallT PR CH [.bool neg,.str s,.int .i64 exp] [.agg [.bool,.str,.int .i64],.one (.int .i64)] st K:=
 Ae (cfg:=⟨[6],[],[]⟩) (h:= .none) mixed (fun _ _=>Tryz.call166 _ _) Tryz.func166 (by kernel_rfl) (by kernel_rfl) h
theorem Jp (s:B8) (form:B8) (st:St) (K:Bool->St->Prop) (h:BId ((s.length:Int)<(form.length:Int)) (K false st) (∃(I1:Int->B8->B8->St->Prop) (M1:Int->B8->B8->St->Nat),(I1 0 s form st)/\∀b c a d,I1 b c a d->(BId (b<(a.length:Int)) (((0<=b/\b<(a.length:Int))/\BId (((List.getD a b.toNat 0).toNat:Int)=(100:Int)) (((0<=b/\b<(c.length:Int))/\BId (((List.getD c b.toNat 0).toNat:Int)<(48:Int)) (K false d) (((0<=b/\b<(c.length:Int))/\BId ((57:Int)<((List.getD c b.toNat 0).toNat:Int)) (K false d) (((0<=b/\b<(a.length:Int))/\BId (((List.getD a b.toNat 0).toNat:Int)≠(100:Int)) (((0<=b/\b<(c.length:Int))/\((0<=b/\b<(a.length:Int))/\BId (((List.getD c b.toNat 0).toNat:Int)≠((List.getD a b.toNat 0).toNat:Int)) (K false d) ((I1 ((i64.wrap (b+(1:Int)))) c a d/\M1 ((i64.wrap (b+(1:Int)))) c a d<M1 b c a d))))) ((I1 ((i64.wrap (b+(1:Int)))) c a d/\M1 ((i64.wrap (b+(1:Int)))) c a d<M1 b c a d)))))))) (((0<=b/\b<(a.length:Int))/\BId (((List.getD a b.toNat 0).toNat:Int)≠(100:Int)) (((0<=b/\b<(c.length:Int))/\((0<=b/\b<(a.length:Int))/\BId (((List.getD c b.toNat 0).toNat:Int)≠((List.getD a b.toNat 0).toNat:Int)) (K false d) ((I1 ((i64.wrap (b+(1:Int)))) c a d/\M1 ((i64.wrap (b+(1:Int)))) c a d<M1 b c a d))))) ((I1 ((i64.wrap (b+(1:Int)))) c a d/\M1 ((i64.wrap (b+(1:Int)))) c a d<M1 b c a d)))))) (K true d)))):CallT PR A9 [.str s,.str form] [.one .bool] st K:=
 Ae (cfg:=⟨[],[],[]⟩) (h:=(.seq .none (.seq .none (.seq (.seq .none (.block (.loop ⟨[(5,.int .i64),(0,.str),(1,.str)],[],[],[]⟩ .none))) .none)))) mixed (fun _ _=>Tryz.call167 _ _) Tryz.func167 (by kernel_rfl) (by kernel_rfl) h
theorem Gt (s:B8) (st:St) (K:Int->B8->Bool->Bool->St->Prop) (h:CallT PR A9 [.str s,.str str26] [.one .bool] st (fun (b1:Bool) l=>BIf (!b1) (K 0 [] false false l) (((0<=(2:Int)/\(2:Int)<=(s.length:Int))/\((0<=(3:Int)/\(3:Int)<=(5:Int)/\(5:Int)<=(s.length:Int))/\((0<=(6:Int)/\(6:Int)<=(8:Int)/\(8:Int)<=(s.length:Int))/\CallT PR Av [(.str (List.take (Int.toNat (2:Int)) s))] [.one (.int .i64)] l (fun (n1:Int) n=>CallT PR Av [(.str (List.drop (Int.toNat (3:Int)) (List.take (Int.toNat (5:Int)) s)))] [.one (.int .i64)] n (fun (n2:Int) m=>CallT PR Av [(.str (List.drop (Int.toNat (6:Int)) (List.take (Int.toNat (8:Int)) s)))] [.one (.int .i64)] m (fun (n3:Int) g=>((0<=(8:Int)/\(8:Int)<=(s.length:Int))/\BId ((0:Int)<(((List.drop (Int.toNat (8:Int)) s)).length:Int)) (((0<=(0:Int)/\(0:Int)<(((List.drop (Int.toNat (8:Int)) s)).length:Int))/\BId (((List.getD (List.drop (Int.toNat (8:Int)) s) (Int.toNat (0:Int)) 0).toNat:Int)=(46:Int)) (∃(I1:Int->B8->Int->Int->Int->St->Prop) (M1:Int->B8->Int->Int->Int->St->Nat),(I1 1 ((List.drop (Int.toNat (8:Int)) s)) n1 n2 n3 g)/\∀a b e d c f,I1 a b e d c f->(BId (a<(b.length:Int)) (((0<=a/\a<(b.length:Int))/\BId ((48:Int)<=((List.getD b a.toNat 0).toNat:Int)) (((0<=a/\a<(b.length:Int))/\BId (((List.getD b a.toNat 0).toNat:Int)<=(57:Int)) ((I1 ((i64.wrap (a+(1:Int)))) b e d c f/\M1 ((i64.wrap (a+(1:Int)))) b e d c f<M1 a b e d c f)) (BId (a<2) (K 0 [] false false f) (BId ((10:Int)<a) (K 0 [] false false f) (((0<=(1:Int)/\(1:Int)<=a/\a<=(b.length:Int))/\(((List.drop (Int.toNat (1:Int)) (List.take a.toNat b))).length+E5.length<=9223372036854775807/\((0<=(9:Int)/\(9:Int)<=((((List.drop (Int.toNat (1:Int)) (List.take a.toNat b))++E5)).length:Int))/\CallT PR Av [(.str (List.take (Int.toNat (9:Int)) ((List.drop (Int.toNat (1:Int)) (List.take a.toNat b))++E5)))] [.one (.int .i64)] f (fun (n4:Int) k=>((0<=a/\a<=(b.length:Int))/\BId (e<=23) (BId (d<=59) (K ((i64.wrap ((i64.wrap ((i64.wrap ((i64.wrap ((i64.wrap ((i64.wrap (e*(60:Int)))+d))*(60:Int)))+c))*(1000000000:Int)))+n4))) ((List.drop a.toNat b)) true ((decide (c<=59))) k) (K ((i64.wrap ((i64.wrap ((i64.wrap ((i64.wrap ((i64.wrap ((i64.wrap (e*(60:Int)))+d))*(60:Int)))+c))*(1000000000:Int)))+n4))) ((List.drop a.toNat b)) true false k)) (K ((i64.wrap ((i64.wrap ((i64.wrap ((i64.wrap ((i64.wrap ((i64.wrap (e*(60:Int)))+d))*(60:Int)))+c))*(1000000000:Int)))+n4))) ((List.drop a.toNat b)) true false k))))))))))) (BId (a<2) (K 0 [] false false f) (BId ((10:Int)<a) (K 0 [] false false f) (((0<=(1:Int)/\(1:Int)<=a/\a<=(b.length:Int))/\(((List.drop (Int.toNat (1:Int)) (List.take a.toNat b))).length+E5.length<=9223372036854775807/\((0<=(9:Int)/\(9:Int)<=((((List.drop (Int.toNat (1:Int)) (List.take a.toNat b))++E5)).length:Int))/\CallT PR Av [(.str (List.take (Int.toNat (9:Int)) ((List.drop (Int.toNat (1:Int)) (List.take a.toNat b))++E5)))] [.one (.int .i64)] f (fun (n5:Int) j=>((0<=a/\a<=(b.length:Int))/\BId (e<=23) (BId (d<=59) (K ((i64.wrap ((i64.wrap ((i64.wrap ((i64.wrap ((i64.wrap ((i64.wrap (e*(60:Int)))+d))*(60:Int)))+c))*(1000000000:Int)))+n5))) ((List.drop a.toNat b)) true ((decide (c<=59))) j) (K ((i64.wrap ((i64.wrap ((i64.wrap ((i64.wrap ((i64.wrap ((i64.wrap (e*(60:Int)))+d))*(60:Int)))+c))*(1000000000:Int)))+n5))) ((List.drop a.toNat b)) true false j)) (K ((i64.wrap ((i64.wrap ((i64.wrap ((i64.wrap ((i64.wrap ((i64.wrap (e*(60:Int)))+d))*(60:Int)))+c))*(1000000000:Int)))+n5))) ((List.drop a.toNat b)) true false j))))))))))) (BId (a<2) (K 0 [] false false f) (BId ((10:Int)<a) (K 0 [] false false f) (((0<=(1:Int)/\(1:Int)<=a/\a<=(b.length:Int))/\(((List.drop (Int.toNat (1:Int)) (List.take a.toNat b))).length+E5.length<=9223372036854775807/\((0<=(9:Int)/\(9:Int)<=((((List.drop (Int.toNat (1:Int)) (List.take a.toNat b))++E5)).length:Int))/\CallT PR Av [(.str (List.take (Int.toNat (9:Int)) ((List.drop (Int.toNat (1:Int)) (List.take a.toNat b))++E5)))] [.one (.int .i64)] f (fun (n6:Int) i=>((0<=a/\a<=(b.length:Int))/\BId (e<=23) (BId (d<=59) (K ((i64.wrap ((i64.wrap ((i64.wrap ((i64.wrap ((i64.wrap ((i64.wrap (e*(60:Int)))+d))*(60:Int)))+c))*(1000000000:Int)))+n6))) ((List.drop a.toNat b)) true ((decide (c<=59))) i) (K ((i64.wrap ((i64.wrap ((i64.wrap ((i64.wrap ((i64.wrap ((i64.wrap (e*(60:Int)))+d))*(60:Int)))+c))*(1000000000:Int)))+n6))) ((List.drop a.toNat b)) true false i)) (K ((i64.wrap ((i64.wrap ((i64.wrap ((i64.wrap ((i64.wrap ((i64.wrap (e*(60:Int)))+d))*(60:Int)))+c))*(1000000000:Int)))+n6))) ((List.drop a.toNat b)) true false i))))))))))) (BId (n1<=23) (BId (n2<=59) (K ((i64.wrap ((i64.wrap ((i64.wrap ((i64.wrap ((i64.wrap ((i64.wrap (n1*(60:Int)))+n2))*(60:Int)))+n3))*(1000000000:Int)))+(0:Int)))) ((List.drop (Int.toNat (8:Int)) s)) true ((decide (n3<=59))) g) (K ((i64.wrap ((i64.wrap ((i64.wrap ((i64.wrap ((i64.wrap ((i64.wrap (n1*(60:Int)))+n2))*(60:Int)))+n3))*(1000000000:Int)))+(0:Int)))) ((List.drop (Int.toNat (8:Int)) s)) true false g)) (K ((i64.wrap ((i64.wrap ((i64.wrap ((i64.wrap ((i64.wrap ((i64.wrap (n1*(60:Int)))+n2))*(60:Int)))+n3))*(1000000000:Int)))+(0:Int)))) ((List.drop (Int.toNat (8:Int)) s)) true false g)))) (BId (n1<=23) (BId (n2<=59) (K ((i64.wrap ((i64.wrap ((i64.wrap ((i64.wrap ((i64.wrap ((i64.wrap (n1*(60:Int)))+n2))*(60:Int)))+n3))*(1000000000:Int)))+(0:Int)))) ((List.drop (Int.toNat (8:Int)) s)) true ((decide (n3<=59))) g) (K ((i64.wrap ((i64.wrap ((i64.wrap ((i64.wrap ((i64.wrap ((i64.wrap (n1*(60:Int)))+n2))*(60:Int)))+n3))*(1000000000:Int)))+(0:Int)))) ((List.drop (Int.toNat (8:Int)) s)) true false g)) (K ((i64.wrap ((i64.wrap ((i64.wrap ((i64.wrap ((i64.wrap ((i64.wrap (n1*(60:Int)))+n2))*(60:Int)))+n3))*(1000000000:Int)))+(0:Int)))) ((List.drop (Int.toNat (8:Int)) s)) true false g)))))))))))):CallT PR AL [.str s] [.one (.int .i64),.one .str,.one .bool,.one .bool] st K:=
 Ae (cfg:=⟨[],[],[]⟩) (h:=(.seq .none (.seq .none (.seq .none (.seq .none (.seq .none (.seq (.seq .none (.cond (.seq .none (.seq (.block (.loop ⟨[(10,.int .i64),(0,.str),(6,.int .i64),(7,.int .i64),(8,.int .i64)],[],[],[]⟩ .none)) .none)) .none)) .none))))))) mixed (fun _ _=>Tryz.call168 _ _) Tryz.func168 (by kernel_rfl) (by kernel_rfl) h
end Go.TVF
