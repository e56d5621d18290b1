/- What the laws below rest on: a framework for Go programs, and contracts of the functions that they reach. -/
import Derived.Test.YtagglahlkknacaaGreatDoorDgB
import Derived.Deep.Slices
import Derived.WideShapes
import Derived.ChangeArms
import Derived.OpenShut
import Derived.Lib.DecodeN
import Derived.Test.YtagglahlkknacaaGreatDoorProg
import Derived.KernelRfl
set_option maxRecDepth 20000
set_option linter.unusedVariables false
set_option linter.unusedSimpArgs false
section
namespace Go.TVF
open Go.IntKind(i64 u8)
open Go.RowKit (Below)
theorem Sj {P:Program} {Q:Exit->Act->World->Prop} {a:Act} {w:World} {c:Code} (I:Nat->Act->World->Prop) (h₀:∃m,I m a w)
  (round:∀m a w,I m a w->c.wp P (Exit.then (fun a' w'=>∃m',m'<m/\I m' a' w') Q) a w):(Code.loop c).wp P Q a w:=by
 intro b k cs
 have key:∀m a w,I m a w->∃e a' w',Q e a' w'/\Arrives P (lone (b.at a (.code c:: .inLoop c::k)) cs w) b k cs e a' w':=by
  intro m
  induction m using Nat.strongRecOn with
  | _ m ih=>
   intro a w hI
   obtain⟨e,a₁,w₁,hq,harr⟩:=round m a w hI b (.inLoop c::k) cs
   cases e with
   | normal=>
    obtain⟨m',hlt,hI₁⟩:=hq
    obtain⟨e₂,a₂,w₂,hq₂,harr₂⟩:=ih m' hlt a₁ w₁ hI₁
    exact⟨e₂,a₂,w₂,hq₂,.of_steps (Steps.trans harr (.one step_inLoop)) harr₂⟩
   | exit id=>exact⟨_,a₁,w₁,hq,.pass (x:= .inLoop c) rfl (fun _ _=> .inl (by simp)) harr⟩
   | goto l=>exact⟨_,a₁,w₁,hq,.pass (x:= .inLoop c) rfl (fun _ _=> .inl (by simp)) harr⟩
   | ret=>exact⟨_,a₁,w₁,hq,.pass (x:= .inLoop c) rfl (fun _ _=> .inl (by simp)) harr⟩
   | panic ch=>exact⟨_,a₁,w₁,hq,.pass (x:= .inLoop c) rfl (fun _ _=> .inl (by simp)) harr⟩
   | outgrown=>exact⟨_,a₁,w₁,hq,.pass (x:= .inLoop c) rfl (fun _ _=> .inl (by simp)) harr⟩
 obtain⟨m,hm⟩:=h₀
 obtain⟨e,a',w',hq,harr⟩:=key m a w hm
 exact⟨e,a',w',hq,.of_steps (.one step_loop) harr⟩
theorem PJ:∀{cs:List CTy} {vs:List TV} {I:Fun cs (St->Prop)} {M:Fun cs (St->Nat)} {B:List TV->Nat->St->Prop} {st:St},AllC cs I M B->K2 cs vs I (fun p=>p st)->∃m,B vs m st
 | [],[],I,M,B,st,h,hd=>⟨_,h st hd⟩
 | [],_::_,I,M,B,st,h,hd=>hd.elim
 | _::_,[],I,M,B,st,h,hd=>hd.elim
 | c::cs,v::vs,I,M,B,st,h,hd=>by
  obtain⟨y,rfl,hd2⟩:=ED hd
  exact PJ (B:=fun l=>B (enc c y::l)) (h y) hd2
theorem QY:∀{cs:List CTy} {vs:List TV} {I:Fun cs (St->Prop)} {M:Fun cs (St->Nat)} {B:List TV->Nat->St->Prop} {st:St} {m:Nat},AllC cs I M B->Tu cs vs I M (fun p q=>p st/\q st<m)->∃m',m'<m/\B vs m' st
 | [],[],I,M,B,st,m,h,hd=>⟨_,hd.2,h st hd.1⟩
 | [],_::_,I,M,B,st,m,h,hd=>hd.elim
 | _::_,[],I,M,B,st,m,h,hd=>hd.elim
 | c::cs,v::vs,I,M,B,st,m,h,hd=>by
  obtain⟨y,rfl,hd2⟩:=ED hd
  exact QY (B:=fun l=>B (enc c y::l)) (h y) hd2
theorem NW:∀{cs:List CTy} {vs:List TV} {I:Fun cs (St->Prop)} {B:List TV->St->Prop} {st:St},YY cs I B->K2 cs vs I (fun p=>p st)->B vs st
 | [],[],I,B,st,h,hd=>h st hd
 | [],_::_,I,B,st,h,hd=>hd.elim
 | _::_,[],I,B,st,h,hd=>hd.elim
 | c::cs,v::vs,I,B,st,h,hd=>by
  obtain⟨y,rfl,hd2⟩:=ED hd
  exact NW (B:=fun l=>B (enc c y::l)) (h y) hd2
def QPost (g:Ai) (w:World) (a0:Act) (Q:Exit->Fr->St->Prop) (e:Exit) (a:Act) (w':World):Prop:=K5 g w a0 (Q e) a w'
section
variable {P:Program} {cfg:Cfg} {ns nl:Nat}
theorem WG (hm:P.follows .mixedOrders=true):∀(c:Code) (h:Kh) (Q:Exit->Fr->St->Prop) (fr:Fr) (st:St) (g:Ai) (w:World) (a:Act),cwp cfg P ns nl c h Q fr st->Sim g st fr.loc w->GU g w fr a.tmps->a.tmps.size=ns->
  c.wp P (QPost g w a Q) a w:=by
 intro c
 induction c with
 | skip=>intro h Q fr st g w a hc s hf hn;exact wp_skip ⟨fr,st,g,hc,s,hf,Ext.refl _ _,rfl,rfl⟩
 | region id ops draw=>
  intro h Q fr st g w a hc s hf hn
  cases draw with
  | false=>exact wp_region_list (NI ops.toList fr st g w a hc s hf fun a' w' hp=>hp)
  | true=>exact RM hm hc s hf fun a' w' hp=>hp
 | seq x y ihx ihy=>
  intro h Q fr st g w a hc s hf hn
  have key:∀(hx hy:Kh),cwp cfg P ns nl x hx (Sy (cwp cfg P ns nl y hy Q) Q) fr st->(Code.seq x y).wp P (QPost g w a Q) a w:=by
   intro hx hy hcx
   refine wp_seq (wp_mono (ihx hx _ fr st g w a hcx s hf hn) fun e a' w' hq=>?_)
   obtain⟨fr',st',g',h1,h2,h3,h4,h5⟩:=hq
   cases e with
   | normal=>
    refine wp_mono (ihy hy Q fr' st' g' w' a' h1 h2 h3 (h5.2.trans hn)) fun e a'' w'' hq2=>?_
    exact hq2.ext h4 h5
   | _=>exact⟨fr',st',g',h1,h2,h3,h4,h5⟩
  cases h with
  | cut k hx hy=>
   obtain⟨R,h1,h2⟩:=hc
   refine wp_seq (wp_mono (ihx hx _ fr st g w a h1 s hf hn) fun e a' w' hq=>?_)
   obtain⟨fr',st',g',q1,q2,q3,q4,q5⟩:=hq
   cases e with
   | normal=>
    have q1':need (k.ok nl fr') (K2 k.tys (k.vals fr') R fun p=>p st'):=q1
    rw[Am]at q1'
    obtain⟨w1,w2⟩:=FN.weak (ns:=ns) q1'.1 q2 q3 (q5.2.trans hn)
    have hb:=NW h2 q1'.2
    exact wp_mono (ihy hy Q _ st' g' w' a' hb w1 w2 (q5.2.trans hn)) fun e a'' w'' hq2=>hq2.ext q4 q5
   | _=>exact⟨fr',st',g',q1,q2,q3,q4,q5⟩
  | none=>exact key _ _ hc
  | seq p q=>exact key _ _ hc
  | cond p q=>exact key _ _ hc
  | block p=>exact key _ _ hc
  | loop k p=>exact key _ _ hc
 | cond c x y ihx ihy=>
  intro h Q fr st g w a hc s hf hn
  simp only[cwp]at hc
  split at hc
  ·rename_i b hb
   have hr:=Rm hf c
   rw[hb]at hr
   have hr':Rel g w (.bool b) (a.eval c):=hr
   have hev:a.eval c= .bool b:=by generalize a.eval c=q at hr';cases hr';rfl
   cases b with
   | true=>exact wp_cond_true hev (ihx h.l Q fr st g w a hc s hf hn)
   | false=>exact wp_cond_false hev (ihy h.r Q fr st g w a hc s hf hn)
  ·exact hc.elim
 | block id x ih=>
  intro h Q fr st g w a hc s hf hn
  refine wp_block (wp_mono (ih h.l (U5 id Q) fr st g w a hc s hf hn) fun e a' w' hq=>?_)
  obtain⟨fr',st',g',h1,h2,h3,h4,h5⟩:=hq
  cases e with
  | exit id'=>
   simp only[U5]at h1
   by_cases hid:id'=id
   ·subst hid
    have hbe:(id'.beq id')=true:=Nat.beq_refl id'
    simp only[hbe]at h1
    simp only[Exit.inBlock,if_true]
    exact⟨fr',st',g',h1,h2,h3,h4,h5⟩
   ·have hbe:(id'.beq id)=false:=by
     cases hq:id'.beq id with
     | false=>rfl
     | true=>exact absurd (Nat.eq_of_beq_eq_true hq) hid
    simp only[hbe]at h1
    simp only[Exit.inBlock,hid,if_false]
    exact⟨fr',st',g',h1,h2,h3,h4,h5⟩
  | _=>exact⟨fr',st',g',h1,h2,h3,h4,h5⟩
 | loop x ih=>
  intro h Q fr st g w a hc s hf hn
  cases h with
  | loop k hx=>
   obtain⟨I,M,h1,h2⟩:=hc
   rw[Am]at h1
   refine Sj (fun m a' w'=>∃vals st' g',cwp cfg P ns nl x hx (Sy (fun fr st=>need (k.ok nl fr) (Tu k.tys (k.vals fr) I M fun p q=>p st/\q st<m)) Q) (k.frame ns nl vals) st'/\
    Sim g' st' (k.frame ns nl vals).loc w'/\GU g' w' (k.frame ns nl vals) a'.tmps/\Ext g w g' w'/\a'.defers=a.defers/\a'.tmps.size=a.tmps.size) ?_ ?_
   ·obtain⟨m,hm⟩:=PJ h2 h1.2
    obtain⟨w1,w2⟩:=FN.weak (ns:=ns) h1.1 s hf hn
    exact⟨m,_,st,g,hm,w1,w2,Ext.refl _ _,rfl,rfl⟩
   ·rintro m a' w' ⟨vals,st',g',q1,q2,q3,q4,q5⟩
    refine wp_mono (ih hx _ _ st' g' w' a' q1 q2 q3 (q5.2.trans hn)) fun e a'' w'' hq=>?_
    obtain⟨fr2,st2,g2,r1,r2,r3,r4,r5⟩:=hq
    cases e with
    | normal=>
     have r1':need (k.ok nl fr2) (Tu k.tys (k.vals fr2) I M fun p q=>p st2/\q st2<m):=r1
     rw[Am]at r1'
     obtain⟨m',hlt,hB⟩:=QY h2 r1'.2
     obtain⟨w1,w2⟩:=FN.weak (ns:=ns) r1'.1 r2 r3 (r5.2.trans (q5.2.trans hn))
     exact⟨m',hlt,_,st2,g2,hB,w1,w2,q4.trans r4,r5.1.trans q5.1,r5.2.trans q5.2⟩
    | _=>exact⟨fr2,st2,g2,r1,r2,r3,q4.trans r4,r5.1.trans q5.1,r5.2.trans q5.2⟩
  | _=>exact hc.elim
 | exit id=>intro h Q fr st g w a hc s hf hn;exact wp_exit ⟨fr,st,g,hc,s,hf,Ext.refl _ _,rfl,rfl⟩
 | ret=>intro h Q fr st g w a hc s hf hn;exact wp_ret ⟨fr,st,g,hc,s,hf,Ext.refl _ _,rfl,rfl⟩
 | _=>intro h Q fr st g w a hc s hf hn;exact hc.elim
def Nf (P:Program) (fr:Fr) (st:St):ResultVar->Option TV
 | .tmp t=>some (Na fr t)
 | .cell a t=>match Lq P t with
  | some true=>match P.cellsOf t with
   | 0=>none
   | n=>(Al st fr.loc (fr.slots.f a) 0 n).map .agg
  | some false=>Af st fr.loc (fr.slots.f a) 0
  | none=>none
def J2 (P:Program) (fr:Fr) (st:St):List ResultVar->Option (List TV)
 | []=>some []
 | r::rs=>match Nf P fr st r with
  | some v=>(J2 P fr st rs).map (v::·)
  | none=>none
def TU:List TV->TV
 | [v]=>v
 | vs=> .tuple vs
def resT (P:Program) (fn:Func) (fr:Fr) (st:St):Option TV:=(J2 P fr st fn.results.toList).map TU
def Rp (P:Program) (fr:Fr) (st:St) (r:ResultVar) (k:TV->Prop):Prop:=
 match r with
 | .tmp t=>k (Na fr t)
 | .cell a t=>match Lq P t with
  | some true=>match P.cellsOf t with
   | 0=>False
   | n=>Ak ((Al st fr.loc (fr.slots.f a) 0 n).map .agg) k
  | some false=>Ak (Af st fr.loc (fr.slots.f a) 0) k
  | none=>False
def L8 (P:Program) (fr:Fr) (st:St):List ResultVar->(List TV->Prop)->Prop
 | [],k=>k []
 | r::rs,k=>Rp P fr st r fun v=>L8 P fr st rs fun vs=>k (v::vs)
theorem PZ {P:Program} {fr:Fr} {st:St} {r:ResultVar} {k:TV->Prop} (h:Rp P fr st r k):∃v,Nf P fr st r=some v/\k v:=by
 cases r with
 | tmp t=>exact⟨_,rfl,h⟩
 | cell a t=>
  unfold Rp at h
  unfold Nf
  simp only at h⊢
  cases ha:Lq P t with
  | none=>rw[ha]at h;exact h.elim
  | some b=>
   rw[ha]at h
   cases b with
   | true=>
    simp only at h⊢
    cases hn:P.cellsOf t with
    | zero=>rw[hn]at h;exact h.elim
    | succ n=>
     rw[hn]at h
     exact Ep.1 h
   | false=>exact Ep.1 h
theorem KU {P:Program} {fr:Fr} {st:St}:∀{rs:List ResultVar} {k:List TV->Prop},L8 P fr st rs k->∃vs,J2 P fr st rs=some vs/\k vs
 | [],k,h=>⟨[],rfl,h⟩
 | r::rs,k,h=>by
  obtain⟨v,h1,h2⟩:=PZ h
  obtain⟨vs,h3,h4⟩:=KU h2
  exact⟨v::vs,by simp[J2,h1,h3],h4⟩
def retQ (P:Program) (fn:Func) (R:TV->St->Prop):Exit->Fr->St->Prop
 | .normal,fr,st=>L8 P fr st fn.results.toList fun vs=>R (TU vs) st
 | .ret,fr,st=>L8 P fr st fn.results.toList fun vs=>R (TU vs) st
 | _,_,_=>False
def IO (cfg:Cfg) (fn:Func) (args:List TV):Fr:=⟨⟨fn.ntmps,fun i=>match args[i]? with | some v=> .t v | none=> .t .undef⟩,cfg.loc.map fun _=>none⟩
theorem Ro {g:Ai} {st:St} {w:World} {fr:Fr} {tmps:Array Value} (s:Sim g st fr.loc w) (hf:GU g w fr tmps) {r:ResultVar} {v:TV} (h:Nf P fr st r=some v):
  ∃u,(match r with | .tmp t=>pure (tmps.getD t Go.undef) | .cell a t=>do loadVar t (<-asAddr (tmps.getD a Go.undef)):Sem Value).run P w= .ok u w/\Rel g w v u:=by
 cases r with
 | tmp t=>
  simp only[Nf,Option.some.injEq]at h
  subst h
  exact⟨_,rfl,(hf.2 t).tv⟩
 | cell a t=>
  simp only[Nf]at h
  have hld:∀p,BN g w fr.loc p (tmps.getD a Go.undef)->(ET P st fr.loc t p).Is (.t v)->∃u,(do loadVar t (<-asAddr (tmps.getD a Go.undef)):Sem Value).run P w= .ok u w/\Rel g w v u:=by
   intro p hp hl
   have hl':=hl
   obtain⟨u,hu,hr⟩:=O7 (P:=P) s hp hl'
   have hsa:(Instr.loadAt t (tmps.getD a Go.undef)).run P w=(do loadVar t (<-asAddr (tmps.getD a Go.undef)):Sem Value).run P w:=by
    generalize hq:tmps.getD a Go.undef=q at hp hu
    simp only[Instr.loadAt,Sem.run_bind]
    cases q with
    | pointer o=>cases o with
     | none=>simp[Instr.loadAt,Instr.sureAddr]at hu
     | some ad=>simp[Instr.sureAddr,asAddr]
    | _=>simp[Instr.loadAt,Instr.sureAddr]at hu
   exact⟨u,by rw[<-hsa];exact hu,hr⟩
  split at h
  ·rename_i ha
   split at h
   ·cases h
   ·rename_i n hn
    refine hld _ (hf.2 a) ?_
    unfold ET
    rw[ha]
    exact⟨v,by
     split
     ·rename_i h0;exact absurd h0 hn
     ·exact h,rfl⟩
  ·rename_i ha
   refine hld _ (hf.2 a) ?_
   unfold ET
   rw[ha]
   exact⟨v,h,rfl⟩
  ·cases h
theorem L7 {g:Ai} {st:St} {w:World} {fr:Fr} {tmps:Array Value} (s:Sim g st fr.loc w) (hf:GU g w fr tmps):∀{rs:List ResultVar} {vs:List TV},J2 P fr st rs=some vs->
  ∃us:List Value,(rs.mapM (fun r=>match r with | .tmp t=>pure (tmps.getD t Go.undef) | .cell a t=>do loadVar t (<-asAddr (tmps.getD a Go.undef))):Sem (List Value)).run P w= .ok us w/\AT g w vs us
 | [],vs,h=>by simp only[J2,Option.some.injEq]at h;subst h;exact⟨[],rfl,.nil _ _⟩
 | r::rs,vs,h=>by
  simp only[J2]at h
  split at h
  ·rename_i v hv
   obtain⟨vs',hvs',rfl⟩:=Option.map_eq_some_iff.1 h
   obtain⟨u,hu,hr⟩:=Ro s hf hv
   obtain⟨us,hus,hrs⟩:=L7 s hf hvs'
   refine⟨u::us,?_,.cons hr hrs⟩
   rw[List.mapM_cons]
   simp only[Sem.run_bind,hu,Result.andThen_ok,hus,Sem.run_pure]
  ·cases h
theorem Ug {g:Ai} {st:St} {w:World} {fr:Fr} {tmps:Array Value} (s:Sim g st fr.loc w) (hf:GU g w fr tmps) {fn:Func} {v:TV} (h:resT P fn fr st=some v):∃u,(results fn tmps).run P w= .ok u w/\Rel g w v u:=by
 unfold resT at h
 cases hr:J2 P fr st fn.results.toList with
 | none=>rw[hr]at h;cases h
 | some vs=>
  rw[hr]at h
  obtain⟨us,hus,hrel⟩:=L7 s hf hr
  have hrun:(fn.results.mapM (fun r=>match r with | .tmp t=>pure (tmps.getD t Go.undef) | .cell a t=>do loadVar t (<-asAddr (tmps.getD a Go.undef))):Sem (Array Value)).run P w= .ok us.toArray w:=by
   rw[<-Array.toArray_toList (xs:=fn.results),List.mapM_toArray]
   simp only[Sem.run_map,hus,Result.andThen_ok]
  refine⟨if h:us.toArray.size=1 then us.toArray[0]else .tuple us.toArray,?_,?_⟩
  ·have hres:results fn tmps=(do
     let vs<-(fn.results.mapM (fun r=>match r with | .tmp t=>pure (tmps.getD t Go.undef) | .cell a t=>do loadVar t (<-asAddr (tmps.getD a Go.undef))):Sem (Array Value))
     pure (if h:vs.size=1 then vs[0]else .tuple vs)):=rfl
   rw[hres,Sem.run_bind,hrun]
   rfl
  ·cases vs with
   | nil=>
    simp only[Option.map_some,Option.some.injEq,TU]at h;subst h
    have:us=[]:=List.eq_nil_of_length_eq_zero hrel.1.symm
    subst this
    exact Rel.tuple [] [] rfl (fun i hi=>absurd hi (Nat.not_lt_zero _))
   | cons v1 vs1=>cases vs1 with
    | nil=>
     simp only[Option.map_some,Option.some.injEq,TU]at h;subst h
     cases us with
     | nil=>have:=hrel.1;simp at this
     | cons u1 us1=>
      have:us1=[]:=List.eq_nil_of_length_eq_zero (by have:=hrel.1;simpa using this.symm)
      subst this
      simpa using hrel.2 0 (by simp)
    | cons v2 vs2=>
     simp only[Option.map_some,Option.some.injEq,TU]at h;subst h
     have hl:us.toArray.size≠1:=by have:=hrel.1;simp at this⊢;omega
     rw[dif_neg hl]
     exact Rel.tuple _ us hrel.1 hrel.2
theorem VX (hm:P.follows .mixedOrders=true) {f:FuncId} {fn:Func} {c:Code} (hcall:∀(vs:Array Value) (w:World),(callFunc f vs).run P w= .ok (.enter f vs) w) (hf:P.funcs[f]? =some fn) (hb:fn.body=some c)
  (cfg:Cfg) (h:Kh) {args:List TV} {st:St} {R:TV->St->Prop} (hn:args.length<=fn.ntmps)
  (hc:cwp cfg P fn.ntmps cfg.loc.length c h (retQ P fn R) (IO cfg fn args) st):F4 P f args st R:=by
 refine EP hcall fun g w vargs s hr=>?_
 refine calls_of_wp hf hb ?_
 have hlen:vargs.length=args.length:=hr.1.symm
 have hsize:(vargs.toArray++Array.replicate (fn.ntmps-vargs.toArray.size) Go.undef).size=fn.ntmps:=by simp;omega
 have hsim:Sim g st (IO cfg fn args).loc w:=s.weakLoc fun j x' hx'=>by
  simp only[IO,List.getElem?_map]at hx'
  cases hq:cfg.loc[j]? with
  | none=>rw[hq]at hx';cases hx'
  | some q=>rw[hq]at hx';simp at hx'
 have hfr:GU g w (IO cfg fn args) (vargs.toArray++Array.replicate (fn.ntmps-vargs.toArray.size) Go.undef):=by
  refine⟨by rw[hsize];rfl,fun i=>?_⟩
  by_cases hia:i<args.length
  ·have h1:(IO cfg fn args).slots.f i= .t args[i]:=by simp[IO,hia]
   have h2:(vargs.toArray++Array.replicate (fn.ntmps-vargs.toArray.size) Go.undef).getD i Go.undef=vargs.getD i Go.undef:=by
    have:i<vargs.length:=by omega
    have hin:i<fn.ntmps:=by omega
    simp[Array.getD,Array.getElem_append,this,hin,List.getD_eq_getElem?_getD]
    omega
   rw[h1,h2]
   exact hr.2 i hia
  ·have h1:(IO cfg fn args).slots.f i= .t .undef:=by simp[IO,hia]
   have h2:(vargs.toArray++Array.replicate (fn.ntmps-vargs.toArray.size) Go.undef).getD i Go.undef=Go.undef:=by
    have:¬i<vargs.length:=by omega
    simp[Array.getD,Array.getElem_append,this]
   rw[h1,h2]
   exact Rel.undef
 refine wp_mono (WG hm c h _ _ st g w {tmps:=vargs.toArray++Array.replicate (fn.ntmps-vargs.toArray.size) Go.undef,defers:=[]} hc hsim hfr hsize) fun e a' w' hq=>?_
 obtain⟨fr',st',g',h1,h2,h3,h4,h5,h6⟩:=hq
 have fin:L8 P fr' st' fn.results.toList (fun vs=>R (TU vs) st')->a'.defers=[]/\∃v,(results fn a'.tmps).run P w'= .ok v w'/\∃v',Ending.returned v= .returned v'/\∃r st' g',R r st'/\Sim g' st' [] w'/\Rel g' w' r v'/\Ext g w g' w':=by
  intro ho
  obtain⟨vs,hvs,hR⟩:=KU ho
  obtain⟨u,hu,hrel⟩:=Ug (fn:=fn) h2 h3 (by unfold resT;rw[hvs];rfl)
  exact⟨h5,u,hu,u,rfl,_,st',g',hR,h2.dropLoc (fun j x hx=>by simp at hx),hrel,h4⟩
 cases e with
 | normal=>exact fin h1
 | ret=>exact fin h1
 | _=>exact h1.elim
def St.zero:St:={nb:=0,box:=fun _=> .dead,nt:=0,live:=fun _=>false,ty:=fun _=>none,bt:=fun _=>none}
def Ai.start (w:World):Ai:={base:=w.heap.size,w0:=w,nb:=0,bk:=fun _=>0,lam:=fun _=>0,nt:=0,sp:=fun _=>none,S:=fun a=>a.spot=none/\∃v,w.cell? a=some v,prot:=fun _=>False}
theorem Sim.start (w:World) (hG:∀w',Below w.heap.size w w'->Sd w'):Sim (Ai.start w) St.zero [] w:=by
 have hd:∀k,¬Dom St.zero [] k:=by
  intro k d
  cases k with
  | box i=>exact absurd d (Nat.not_lt_zero _)
  | loc i=>obtain⟨x,hx⟩:=d;simp at hx
 exact⟨rfl,rfl,Below.refl _ _,Nat.le_refl _,fun k d=>absurd d (hd k),fun k k' d=>absurd d (hd k),fun k d=>absurd d (hd k),fun id h=>absurd h (Nat.not_lt_zero _),
  fun id b l h hh=>(by cases hh),fun i j b l h l' h' _ hh=>(by cases hh),fun id _=>rfl,fun a ha=>⟨ha.1,ha.2,fun k d=>absurd d (hd k),fun id l h hh=>(by cases hh)⟩,fun b hb=>hb.elim,fun id b l h hh=>(by cases hh),fun id b l h T hh=>(by cases hh),fun b T hb=>absurd hb (Nat.not_lt_zero _),hG⟩
theorem UZ {f:FuncId} {args:List TV} (hcall:∀(vs:Array Value) (w:World),(callFunc f vs).run P w= .ok (.enter f vs) w) (h:F4 P f args St.zero fun r _=>r= .bool true) (w:World) (hG:∀w',Below w.heap.size w w'->Sd w') (vargs:List Value) (hr:AT (Ai.start w) w args vargs):
  Calls P f vargs.toArray w fun e w'=>e= .returned (.bool true)/\Below w.heap.size w w':=by
 have h1:=h.run (Ai.start w) w vargs (Sim.start w hG) hr
 unfold DE at h1
 rw[hcall]at h1
 refine Calls.mono h1 ?_
 rintro e w' ⟨v,rfl,r,st',g',rfl,s',hrel,e'⟩
 have hb:=s'.below
 rw[e'.base,e'.w0]at hb
 cases hrel
 exact⟨rfl,hb⟩
end
def U3 (fn:Func):Code:=match fn.body with | some c=>c | none=> .skip
def Fw (cfg:Cfg) (P:Program) (h:Kh) (fn:Func) (args:List TV) (st:St) (R:TV->St->Prop):Prop:=
 cwp cfg P fn.ntmps cfg.loc.length (U3 fn) h (retQ P fn R) (IO cfg fn args) st
def fits (fn:Func) (args:List TV):Bool:=(fn.body.isSome).and (args.length.ble fn.ntmps)
theorem Ae {P:Program} (hm:P.follows .mixedOrders=true) {f:FuncId} {fn:Func} (hcall:∀(vs:Array Value) (w:World),(callFunc f vs).run P w= .ok (.enter f vs) w) (hf:P.funcs[f]? =some fn)
  {cfg:Cfg} {h:Kh} {args:List TV} {st:St} {R:TV->St->Prop} (hn:fits fn args=true) {V:Prop} (he:Fw cfg P h fn args st R=V) (hV:V):F4 P f args st R:=by
 simp only[fits,Bool.and_eq_true]at hn
 obtain⟨c,hc⟩:=Option.isSome_iff_exists.1 hn.1
 have hb:fn.body=some (U3 fn):=by rw[U3,hc]
 rw[<-he]at hV
 exact VX hm hcall hf hb cfg h (Nat.le_of_ble_eq_true hn.2) hV
def B4 (cs:List CTy) (v:TV) (f:Fun cs Prop):Prop:=
 match v with
 | .agg l=>decL cs l f
 | _=>False
def stB (st:St) (p:TV) (xs:List TV) (k:St->Prop):Prop:=
 match p with
 | .box b off=>∃l,st.box b= .cells l/\off+xs.length<=l.length/\k (st.put b (.cells (setAll l off xs)))
 | _=>False
theorem Aa {p:Prop} [Decidable p] {x y:Prop} (h1:p->x) (h2:¬p->y):BIf (decide p) x y:=by
 by_cases h:p
 ·simp only[h,decide_true,BIf];exact h1 h
 ·simp only[h,decide_false,BIf];exact h2 h
theorem Aq {b:Bool} {x y:Prop} (h1:b=true->x) (h2:b=false->y):BIf b x y:=by
 cases b
 ·exact h2 rfl
 ·exact h1 rfl
end Go.TVF
end
section
namespace Go.TVF
open Go.IntKind(i64 u8)
structure Ah (a b:St):Prop where
 nb:a.nb<=b.nb
 box:∀i,i<a.nb->b.box i=a.box i
 nt:a.nt<=b.nt
 live:∀i,i<a.nt->b.live i=a.live i
 ty:∀i,i<a.nt->b.ty i=a.ty i
 bt:∀i,i<a.nb->b.bt i=a.bt i
theorem Ah.refl (a:St):Ah a a:=⟨Nat.le_refl _,fun _ _=>rfl,Nat.le_refl _,fun _ _=>rfl,fun _ _=>rfl,fun _ _=>rfl⟩
theorem Ah.trans {a b c:St} (h:Ah a b) (k:Ah b c):Ah a c:=
 ⟨Nat.le_trans h.nb k.nb,fun i hi=>(k.box i (Nat.lt_of_lt_of_le hi h.nb)).trans (h.box i hi),Nat.le_trans h.nt k.nt,fun i hi=>(k.live i (Nat.lt_of_lt_of_le hi h.nt)).trans (h.live i hi),fun i hi=>(k.ty i (Nat.lt_of_lt_of_le hi h.nt)).trans (h.ty i hi),fun i hi=>(k.bt i (Nat.lt_of_lt_of_le hi h.nb)).trans (h.bt i hi)⟩
theorem Ah.fresh {a b:St} (h:Ah a b) (T:Option Nat):Ah a (b.fresh T):=
 h.trans ⟨Nat.le_refl _,fun _ _=>rfl,Nat.le_succ _,fun i hi=>by simp only[St.fresh];rw[if_neg (by omega)],fun i hi=>by simp only[St.fresh];rw[if_neg (by omega)],fun _ _=>rfl⟩
theorem Ah.push {a b:St} (h:Ah a b) (o:Lv) (T:Option Nat):Ah a (b.push o T):=
 h.trans ⟨Nat.le_succ _,fun i hi=>by simp only[St.push];rw[if_neg (by omega)],Nat.le_refl _,fun _ _=>rfl,fun _ _=>rfl,fun i hi=>by simp only[St.push];rw[if_neg (by omega)]⟩
theorem Ah.retire {a b:St} (h:Ah a b) {id:Nat} (hid:a.nt<=id):Ah a (b.retire id):=
 ⟨h.nb,h.box,h.nt,fun i hi=>by simp only[St.retire];rw[if_neg (by omega)];exact h.live i hi,h.ty,h.bt⟩
theorem Ah.put {a b:St} (h:Ah a b) {i:Nat} (hi:a.nb<=i) (o:Lv):Ah a (b.put i o):=
 ⟨h.nb,fun j hj=>by simp only[St.put];rw[if_neg (by omega)];exact h.box j hj,h.nt,h.live,h.ty,h.bt⟩
theorem BO (l:B8):(At l).length=l.length:=by simp[At]
theorem BB:∀l:B8,Ex (At l)=some l
 | []=>rfl
 | c::l=>by
  have:=BB l
  simp only[At]at this
  simp[At,Ex,D5,U6,this]
theorem Hx (a b:B8):At a++At b=At (a++b):=by simp[At]
def Rd (sz:Nat) (v:TV) (n:Nat) (xs:List TV):Prop:=
 (v= .nilSlice/\n=0/\xs=[])∨∃tip,v= .list sz tip n xs
def RdB (v:TV) (l:B8):Prop:=Rd 1 v l.length (At l)
def Own (b sz:Nat) (st:St) (v:TV) (n:Nat) (xs:List TV):Prop:=
 (v= .nilSlice/\n=0/\xs=[])∨∃tip,v= .list sz tip n xs/\(tip= .full∨∃id,tip= .own id/\b<=id/\id<st.nt/\st.live id=true)
def En (b:Nat) (st:St) (v:TV) (l:B8):Prop:=Own b 1 st v l.length (At l)
theorem Own.rd {b sz:Nat} {st:St} {v:TV} {n:Nat} {xs:List TV} (h:Own b sz st v n xs):Rd sz v n xs:=by
 rcases h with h | ⟨tip,h,_⟩
 ·exact .inl h
 ·exact .inr ⟨tip,h⟩
theorem En.rd {b:Nat} {st:St} {v:TV} {l:B8} (h:En b st v l):RdB v l:=Own.rd h
theorem Own.ext {b sz:Nat} {st st':St} {v:TV} {n:Nat} {xs:List TV} (h:Own b sz st v n xs) (e:Ah st st'):Own b sz st' v n xs:=by
 rcases h with h | ⟨tip,h,ht | ⟨id,h1,h2,h3,h4⟩⟩
 ·exact .inl h
 ·exact .inr ⟨tip,h,.inl ht⟩
 ·exact .inr ⟨tip,h,.inr ⟨id,h1,h2,Nat.lt_of_lt_of_le h3 e.nt,(e.live id h3).trans h4⟩⟩
theorem Own.nil (b sz:Nat) (st:St):Own b sz st .nilSlice 0 []:= .inl ⟨rfl,rfl,rfl⟩
theorem En.nil (b:Nat) (st:St):En b st .nilSlice []:=Own.nil b 1 st
theorem Own.full (b sz:Nat) (st:St) (n:Nat) (xs:List TV):Own b sz st (.list sz .full n xs) n xs:= .inr ⟨_,rfl,.inl rfl⟩
theorem Own.fresh {b sz:Nat} {st:St} {T:Option Nat} (n:Nat) (xs:List TV) (hb:b<=st.nt):Own b sz (st.fresh T) (.list sz (.own st.nt) n xs) n xs:=
 .inr ⟨_,rfl,.inr ⟨st.nt,rfl,hb,Nat.lt_succ_self _,by simp[St.fresh]⟩⟩
theorem Rd.isSl {sz:Nat} {v:TV} {n:Nat} {xs:List TV} (h:Rd sz v n xs):TVF.isSl v=true:=by
 rcases h with⟨rfl,_⟩ | ⟨tip,rfl⟩<;>rfl
theorem Rd.lenS {sz:Nat} {v:TV} {n:Nat} {xs:List TV} (h:Rd sz v n xs):TVF.lenS v=n:=by
 rcases h with⟨rfl,rfl,_⟩ | ⟨tip,rfl⟩<;>rfl
theorem Rd.isLst {sz:Nat} {v:TV} {n:Nat} {xs:List TV} (h:Rd sz v n xs):TVF.isLst sz v=true:=by
 rcases h with⟨rfl,rfl,_⟩ | ⟨tip,rfl⟩
 ·rfl
 ·simp[TVF.isLst]
theorem Rd.one {sz:Nat} {v:TV} {n:Nat} {xs:List TV} (h:Rd sz v n xs):Ar v=true:=by
 rcases h with⟨rfl,rfl,_⟩ | ⟨tip,rfl⟩<;>rfl
theorem RdB.toBytes {v:TV} {l:B8} (h:RdB v l) (st:St):TVF.toBytes st v=some l:=by
 rcases h with⟨rfl,h1,h2⟩ | ⟨tip,rfl⟩
 ·have:l=[]:=List.eq_nil_of_length_eq_zero h1
  subst this;rfl
 ·simp[TVF.toBytes,BB]
theorem LV (st:St) (l:B8):Bb st 1 (.str l)=some (l.length,At l):=rfl
theorem H5 {T b sz bytes:Nat} {st0 st:St} {v:TV} {n k:Nat} {xs ys:List TV} {K:TV->St->Prop} (e:Ah st0 st) (hb:b=st0.nt) (h:Own b sz st v n xs) (hby:(n+k)*bytes<=140737488355328) (hys:k=0->ys=[])
  (hK:∀v' st',Ah st0 st'->st'.box=st.box->Own b sz st' v' (n+k) (xs++ys)->K v' st'):A5 T sz bytes v k ys st K:=by
 subst hb
 rcases h with⟨rfl,rfl,rfl⟩ | ⟨tip,rfl,ht⟩
 ·simp only[A5]
  cases k with
  | zero=>rw[hys rfl]at hK;exact hK _ _ e rfl (.nil _ _ _)
  | succ m=>
   simp only[Am]
   refine⟨by simpa using hby,hK _ _ (e.fresh _) rfl ?_⟩
   simp only[List.nil_append,Nat.zero_add]
   exact Own.fresh _ _ e.nt
 ·simp only[A5,Nat.beq_refl]
  refine⟨hby,?_⟩
  rcases ht with rfl | ⟨id,rfl,h1,h2,h3⟩
  ·cases k with
   | zero=>rw[hys rfl]at hK;simp only[List.append_nil]at hK;exact hK _ _ e rfl (Own.full _ _ _ _ _)
   | succ m=>exact hK _ _ (e.fresh _) rfl (Own.fresh _ _ e.nt)
  ·exact⟨h3,hK _ _ ((e.retire h1).fresh _) rfl (Own.fresh (st:=st.retire id) _ _ e.nt)⟩
theorem Fq {T:Nat} {st0 st:St} {v:TV} {l ys:B8} {K:TV->St->Prop} (e:Ah st0 st) (h:En st0.nt st v l) (hby:l.length+ys.length<=140737488355328)
  (hK:∀v' st',Ah st0 st'->st'.box=st.box->En st0.nt st' v' (l++ys)->K v' st'):A5 T 1 1 v ys.length (At ys) st K:=
 H5 e rfl h (by omega) (fun h0=>by rw[List.eq_nil_of_length_eq_zero h0];rfl) fun v' st' h1 h2 h3=>hK v' st' h1 h2 (by
  unfold En
  rw[List.length_append,<-Hx];exact h3)
theorem Ab {b:Bool} {k:Prop} (h:b=true) (hk:k):need b k:=Am.2 ⟨h,hk⟩
theorem Ac {α:Type} {o:Option α} {x:α} {k:α->Prop} (h:o=some x) (hk:k x):Ak o k:=by rw[h];exact hk
theorem Ad (x:Int) (h1: -9223372036854775808<=x) (h2:x<=9223372036854775807):IntKind.wrap .i64 x=x:=by
 unfold IntKind.wrap
 simp only[IntKind.signed,IntKind.bits]
 simp
 omega
theorem EN (x:Int) (h1:0<=x) (h2:x<=255):IntKind.wrap .u8 x=x:=by
 unfold IntKind.wrap
 simp only[IntKind.signed,IntKind.bits]
 simp
 omega
end Go.TVF
end
section
namespace Go.TVF
open Go.IntKind(i64 u8)
open Go.RowKit (Below)
theorem YJ {r:TV} {st':St} (h:Hw [.one .bool] r (fun (b:Bool) (_:St)=>b=true) (fun p=>p st')):r= .bool true:=by
 cases r<;>simp only[Hw,GQ,As]at h<;>first | exact h.elim | skip
 subst h;rfl
theorem calls_law {P:Program} {f:FuncId} {args:List TV} (hcall:∀(vs:Array Value) (w:World),(callFunc f vs).run P w= .ok (.enter f vs) w) (h:CallT P f args [.one .bool] St.zero (fun r _=>r=true)) (w:World) (hG:∀w',Below w.heap.size w w'->Sd w') (vargs:List Value) (hr:AT (Ai.start w) w args vargs):
  Calls P f vargs.toArray w fun e w'=>e= .returned (.bool true)/\Below w.heap.size w w':=
 UZ hcall (F4.mono h fun r st' hd=>YJ hd) w hG vargs hr
theorem rel_string (g:Ai) (w:World) (s:ByteArray):Rel g w (.str s.data.toList) (.string s):=by
 have:=Rel.str (g:=g) (w:=w) s.data.toList
 simpa using this
section
variable {H:Type} {enc:TypeId×Value->H} {P:Program} {w:World} {base:Nat} {sp:Nat->Bool} {held:Bool}
end
end Go.TVF
end
section
namespace Go.TVF
open Go.IntKind(i64 u8)
open Go Go.Proofs Go.ChangeShapes
section
variable {H:Type} {enc:TypeId×Value->H} {P:Program} {w:World} {base:Nat} {held:Bool}
def Op (enc:TypeId×Value->H) (P:Program) (w:World) (base:Nat) (held:Bool) (n c:Nat) (S:List TV->Prop) (e:TypeId):Prop:=
 P.cellsOf e=c/\∀vs x,DataW.trod enc P w base (fun _=>true) held n e vs=some x->∃tv,AT (Ai.start w) w tv vs/\tv.length=c/\S tv
end
end Go.TVF
end
section
namespace Go.TVF
open Go.IntKind(i64 u8)
section
variable {α:Type}
def swp (l:List α) (i j:Nat):List α:=match l[i]?,l[j]? with | some x,some y=>(l.set i y).set j x | _,_=>l
theorem swp_mid {P Y Q:List α} {x z:α}:swp (P++x::(Y++z::Q)) P.length (P.length+1+Y.length)=P++z::(Y++x::Q):=by
 have h1:(P++x::(Y++z::Q))[P.length]? =some x:=by simp
 have h2:(P++x::(Y++z::Q))[P.length+1+Y.length]? =some z:=by
  rw[List.getElem?_append_right (by omega)]
  rw[show P.length+1+Y.length-P.length=Y.length+1 by omega,List.getElem?_cons_succ,List.getElem?_append_right (by omega)]
  simp
 unfold swp
 rw[h1,h2]
 simp only
 rw[List.set_append_right _ _ (by omega),Nat.sub_self,List.set_cons_zero,List.set_append_right _ _ (by omega)]
 rw[show P.length+1+Y.length-P.length=Y.length+1 by omega,List.set_cons_succ,List.set_append_right _ _ (by omega),Nat.sub_self,List.set_cons_zero]
theorem swp_run {P X Y Z Q:List α} {i:Nat} (hi:i<X.length) (hz:Z.length=X.length):
  swp (P++(Z.take i++X.drop i)++Y++(X.take i++Z.drop i)++Q) (P.length+i) (P.length+X.length+Y.length+i)=P++(Z.take (i+1)++X.drop (i+1))++Y++(X.take (i+1)++Z.drop (i+1))++Q:=by
 have hx:X.drop i=X[i]::X.drop (i+1):=List.drop_eq_getElem_cons hi
 have hzd:Z.drop i=Z[i]'(by omega)::Z.drop (i+1):=List.drop_eq_getElem_cons (by omega)
 have e1:P++(Z.take i++X.drop i)++Y++(X.take i++Z.drop i)++Q=(P++Z.take i)++X[i]::((X.drop (i+1)++Y++X.take i)++Z[i]'(by omega)::(Z.drop (i+1)++Q)):=by
  have h1:P++(Z.take i++X.drop i)++Y++(X.take i++Z.drop i)++Q=P++Z.take i++X.drop i++(Y++X.take i++(Z.drop i++Q)):=by simp only[List.append_assoc]
  rw[h1,hx,hzd]
  simp only[List.append_assoc,List.cons_append]
 have l1:(P++Z.take i).length=P.length+i:=by simp;omega
 have l2:(X.drop (i+1)++Y++X.take i).length=X.length-1+Y.length:=by simp;omega
 rw[e1]
 have:=swp_mid (P:=P++Z.take i) (Y:=X.drop (i+1)++Y++X.take i) (Q:=Z.drop (i+1)++Q) (x:=X[i]) (z:=Z[i]'(by omega))
 rw[l1,l2,show P.length+i+1+(X.length-1+Y.length)=P.length+X.length+Y.length+i by omega]at this
 rw[this]
 have t1:X.take (i+1)=X.take i++[X[i]]:=by rw[List.take_succ_eq_append_getElem hi]
 have t2:Z.take (i+1)=Z.take i++[Z[i]'(by omega)]:=by rw[List.take_succ_eq_append_getElem (by omega)]
 simp only[t1,t2,List.append_assoc,List.cons_append,List.nil_append]
variable (le:α->α->Prop)
def Srt (l:List α):Prop:=l.Pairwise le
variable {le}
theorem Oh (tr:∀x y z,le x y->le y z->le x z) {A B:List α} (ha:Srt le A) (hb:Srt le B) (h:∀x,A.getLast? =some x->∀y,B.head? =some y->le x y) (rf:∀x,le x x):Srt le (A++B):=by
 refine List.pairwise_append.2 ⟨ha,hb,fun x hx y hy=>?_⟩
 rcases List.eq_nil_or_concat A with rfl | ⟨A',a,hA⟩
 ·simp at hx
 rw[List.concat_eq_append]at hA
 subst hA
 cases B with
 | nil=>simp at hy
 | cons b B=>
  have hab:=h a (by simp) b rfl
  have h1:le x a:=by
   rcases List.mem_append.1 hx with h | h
   ·exact(List.pairwise_append.1 ha).2.2 x h a (by simp)
   ·simp at h;subst h;exact rf x
  have h2:le b y:=by
   rcases List.mem_cons.1 hy with h | h
   ·subst h;exact rf y
   ·exact(List.pairwise_cons.1 hb).1 y h
  exact tr _ _ _ h1 (tr _ _ _ hab h2)
theorem TX (tr:∀x y z,le x y->le y z->le x z) {L1 L2 R1 R2 M1 M2:List α} (rf:∀x,le x x) (hL:Srt le (L1++L2)) (hR:Srt le (R1++R2)) (h1:∀x,R1.getLast? =some x->∀y,L2.head? =some y->le x y) (h2:∀x,L1.getLast? =some x->∀y,R2.head? =some y->le x y)
  (p1:M1.Perm (L1++R1)) (p2:M2.Perm (L2++R2)) (s1:Srt le M1) (s2:Srt le M2):(M1++M2).Perm (L1++L2++(R1++R2))/\Srt le (M1++M2):=by
 obtain⟨a1,a2,a3⟩:=List.pairwise_append.1 hL
 obtain⟨b1,b2,b3⟩:=List.pairwise_append.1 hR
 have c1:=List.pairwise_append.1 (Oh tr b1 a2 h1 rf)
 have c2:=List.pairwise_append.1 (Oh tr a1 b2 h2 rf)
 constructor
 ·refine(p1.append p2).trans ?_
  simp only[List.append_assoc]
  refine List.Perm.append_left _ ?_
  rw[<-List.append_assoc,<-List.append_assoc]
  exact List.Perm.append_right _ List.perm_append_comm
 ·refine List.pairwise_append.2 ⟨s1,s2,fun x hx y hy=>?_⟩
  rcases List.mem_append.1 (p1.mem_iff.1 hx)with hx | hx<;>rcases List.mem_append.1 (p2.mem_iff.1 hy)with hy | hy
  ·exact a3 x hx y hy
  ·exact c2.2.2 x hx y hy
  ·exact c1.2.2 x hx y hy
  ·exact b3 x hx y hy
theorem Rh (tr:∀x y z,le x y->le y z->le x z) {A B:List α} {x:α} (rf:∀x,le x x) (h:Srt le (A++B)) (h1:∀y,A.getLast? =some y->le y x) (h2:∀y,B.head? =some y->le x y):Srt le (A++x::B):=by
 obtain⟨a,b,c⟩:=List.pairwise_append.1 h
 refine Oh tr a ?_ (fun y hy z hz=>by simp at hz;subst hz;exact h1 y hy) rf
 exact Oh (A:=[x]) tr (List.pairwise_singleton _ _) b (fun y hy z hz=>by simp at hy;subst hy;exact h2 z hz) rf
end
end Go.TVF
end
namespace Go.TVF
open Go.IntKind(i64 u8)
open Go Go.Proofs
section
structure Sc where
 kind:Int
 b:Bool
 neg:Bool
 dg:B8
 ex:Int
 tk:Int
 td:Int
 tn:Int
 tz:Int
 text:B8
 bytes:B8
mutual
inductive Vl where
 | mk (s:Sc) (l:List Vl) (f:List Fd)
inductive Fd where
 | mk (k:B8) (v:Vl)
end
def Vl.sc:Vl->Sc | .mk s _ _=>s
def Vl.list:Vl->List Vl | .mk _ l _=>l
def Vl.flds:Vl->List Fd | .mk _ _ f=>f
def Fd.key:Fd->B8 | .mk k _=>k
def Fd.val:Fd->Vl | .mk _ v=>v
def SlR (st:St) (sz:Nat) (v:TV) (n:Nat) (xs:List TV):Prop:=
 Rd sz v n xs∨∃b off cap l,v= .ms sz b off n cap/\b<st.nb/\st.box b= .cells l/\off+cap*sz<=l.length/\n<=cap/\xs=(l.drop off).take (n*sz)
theorem SlR.of_rd {st:St} {sz n:Nat} {v:TV} {xs:List TV} (h:Rd sz v n xs):SlR st sz v n xs:= .inl h
def BI (st st':St):Prop:=st.nb<=st'.nb/\∀b,b<st.nb->st'.box b=st.box b
theorem SlR.keep {st st':St} (k:BI st st') {sz n:Nat} {v:TV} {xs:List TV} (h:SlR st sz v n xs):SlR st' sz v n xs:=by
 rcases h with h | ⟨b,off,cap,l,h1,h2,h3,h4,h5,h6⟩
 ·exact .inl h
 ·exact .inr ⟨b,off,cap,l,h1,Nat.lt_of_lt_of_le h2 k.1,(k.2 b h2).trans h3,h4,h5,h6⟩
mutual
def VlR (st:St):Vl->List TV->Prop
 | .mk s l f,cs=>∃ub ul uf xl xf,cs=[.int .i64 s.kind,.bool s.b,.bool s.neg,.str s.dg,.int .i64 s.ex,.int .i64 s.tk,.int .i64 s.td,.int .i64 s.tn,.int .i64 s.tz,.str s.text,ub,ul,uf]/\
   SlR st 1 ub s.bytes.length (At s.bytes)/\SlR st 13 ul l.length xl/\VsR st l xl/\SlR st 14 uf f.length xf/\FsR st f xf
def VsR (st:St):List Vl->List TV->Prop
 | [],xs=>xs=[]
 | v::r,xs=>∃a b,xs=a++b/\VlR st v a/\VsR st r b
def FdR (st:St):Fd->List TV->Prop
 | .mk k v,xs=>∃cs,xs= .str k::cs/\VlR st v cs
def FsR (st:St):List Fd->List TV->Prop
 | [],xs=>xs=[]
 | d::r,xs=>∃a b,xs=a++b/\FdR st d a/\FsR st r b
end
mutual
theorem VlR.keep {st st':St} (k:BI st st'):∀{v:Vl} {cs:List TV},VlR st v cs->VlR st' v cs
 | .mk s l f,cs,h=>by
  unfold VlR at h⊢
  obtain⟨ub,ul,uf,xl,xf,h0,h1,h2,h3,h4,h5⟩:=h
  exact⟨ub,ul,uf,xl,xf,h0,h1.keep k,h2.keep k,VsR.keep k h3,h4.keep k,FsR.keep k h5⟩
theorem VsR.keep {st st':St} (k:BI st st'):∀{l:List Vl} {cs:List TV},VsR st l cs->VsR st' l cs
 | [],cs,h=>by unfold VsR at h⊢;exact h
 | v::r,cs,h=>by
  unfold VsR at h⊢
  obtain⟨a,b,h0,h1,h2⟩:=h
  exact⟨a,b,h0,VlR.keep k h1,VsR.keep k h2⟩
theorem FdR.keep {st st':St} (k:BI st st'):∀{d:Fd} {cs:List TV},FdR st d cs->FdR st' d cs
 | .mk key v,cs,h=>by
  unfold FdR at h⊢
  obtain⟨c,h0,h1⟩:=h
  exact⟨c,h0,VlR.keep k h1⟩
theorem FsR.keep {st st':St} (k:BI st st'):∀{l:List Fd} {cs:List TV},FsR st l cs->FsR st' l cs
 | [],cs,h=>by unfold FsR at h⊢;exact h
 | d::r,cs,h=>by
  unfold FsR at h⊢
  obtain⟨a,b,h0,h1,h2⟩:=h
  exact⟨a,b,h0,FdR.keep k h1,FsR.keep k h2⟩
end
theorem VlR.len {st:St} {v:Vl} {cs:List TV} (h:VlR st v cs):cs.length=13:=by
 cases v;unfold VlR at h;obtain⟨ub,ul,uf,xl,xf,rfl,_⟩:=h;rfl
theorem FdR.len {st:St} {v:Fd} {cs:List TV} (h:FdR st v cs):cs.length=14:=by
 cases v;unfold FdR at h;obtain⟨c,rfl,h⟩:=h;simp[h.len]
theorem VsR.len {st:St}:∀{l:List Vl} {xs:List TV},VsR st l xs->xs.length=l.length*13
 | [],xs,h=>by unfold VsR at h;subst h;rfl
 | v::r,xs,h=>by
  unfold VsR at h
  obtain⟨a,b,rfl,h1,h2⟩:=h
  rw[List.length_append,h1.len,VsR.len h2,List.length_cons];omega
theorem FsR.len {st:St}:∀{l:List Fd} {xs:List TV},FsR st l xs->xs.length=l.length*14
 | [],xs,h=>by unfold FsR at h;subst h;rfl
 | v::r,xs,h=>by
  unfold FsR at h
  obtain⟨a,b,rfl,h1,h2⟩:=h
  rw[List.length_append,h1.len,FsR.len h2,List.length_cons];omega
theorem VsR.get {st:St}:∀{l:List Vl} {xs:List TV} {i:Nat} {v:Vl},VsR st l xs->l[i]? =some v->∃cs,VlR st v cs/\(xs.drop (i*13)).take 13=cs/\cs.length=13
 | [],xs,i,v,h,hi=>by simp at hi
 | w::r,xs,i,v,h,hi=>by
  unfold VsR at h
  obtain⟨a,b,rfl,h1,h2⟩:=h
  cases i with
  | zero=>
   simp only[List.getElem?_cons_zero,Option.some.injEq]at hi
   subst hi
   refine⟨a,h1,?_,h1.len⟩
   rw[Nat.zero_mul,List.drop_zero,<-h1.len,List.take_left]
  | succ i=>
   obtain⟨cs,h3,h4,h5⟩:=VsR.get h2 (by simpa using hi)
   refine⟨cs,h3,?_,h5⟩
   rw[show(i+1)*13=a.length+i*13 by rw[h1.len];omega,List.drop_append]
   simp only[Nat.add_sub_cancel_left]
   rw[List.drop_of_length_le (by omega),List.nil_append];exact h4
theorem FsR.get {st:St}:∀{l:List Fd} {xs:List TV} {i:Nat} {v:Fd},FsR st l xs->l[i]? =some v->∃cs,FdR st v cs/\(xs.drop (i*14)).take 14=cs/\cs.length=14
 | [],xs,i,v,h,hi=>by simp at hi
 | w::r,xs,i,v,h,hi=>by
  unfold FsR at h
  obtain⟨a,b,rfl,h1,h2⟩:=h
  cases i with
  | zero=>
   simp only[List.getElem?_cons_zero,Option.some.injEq]at hi
   subst hi
   refine⟨a,h1,?_,h1.len⟩
   rw[Nat.zero_mul,List.drop_zero,<-h1.len,List.take_left]
  | succ i=>
   obtain⟨cs,h3,h4,h5⟩:=FsR.get h2 (by simpa using hi)
   refine⟨cs,h3,?_,h5⟩
   rw[show(i+1)*14=a.length+i*14 by rw[h1.len];omega,List.drop_append]
   simp only[Nat.add_sub_cancel_left]
   rw[List.drop_of_length_le (by omega),List.nil_append];exact h4
mutual
def Vl.cnt:Vl->Nat
 | .mk _ l f=>1+Lx l+Mw f
def Lx:List Vl->Nat
 | []=>0
 | v::r=>v.cnt+Lx r
def Fd.cnt:Fd->Nat
 | .mk _ v=>v.cnt
def Mw:List Fd->Nat
 | []=>0
 | d::r=>d.cnt+Mw r
end
end
end Go.TVF
section
namespace Go.TVF
open Go.IntKind(i64 u8)
open Go
theorem or_i64 (x y:Nat) (hx:x<2^63) (hy:y<2^63):Au .or .i64 (x:Int) (y:Int)=((x ||| y:Nat):Int):=by
 have h:x ||| y<2^63:=Nat.or_lt_two_pow hx hy
 show IntKind.wrap .i64 ((BitVec.ofInt 64 (x:Int) ||| BitVec.ofInt 64 (y:Int)).toNat:Int)=_
 simp only[BitVec.ofInt_natCast,BitVec.toNat_or,BitVec.toNat_ofNat]
 rw[Nat.mod_eq_of_lt (by omega),Nat.mod_eq_of_lt (by omega),Ad _ (by omega) (by omega)]
theorem and_i64 (x y:Nat) (hx:x<2^63) (hy:y<2^63):Au .and .i64 (x:Int) (y:Int)=((x&&&y:Nat):Int):=by
 have h:x&&&y<2^63:=Nat.and_lt_two_pow _ hy
 show IntKind.wrap .i64 ((BitVec.ofInt 64 (x:Int)&&&BitVec.ofInt 64 (y:Int)).toNat:Int)=_
 simp only[BitVec.ofInt_natCast,BitVec.toNat_and,BitVec.toNat_ofNat]
 rw[Nat.mod_eq_of_lt (by omega),Nat.mod_eq_of_lt (by omega),Ad _ (by omega) (by omega)]
theorem YR (x y:Nat) (hx:x<2^8) (hy:y<2^8):Au .and .u8 (x:Int) (y:Int)=((x&&&y:Nat):Int):=by
 have h:x&&&y<2^8:=Nat.and_lt_two_pow _ hy
 show IntKind.wrap .u8 ((BitVec.ofInt 8 (x:Int)&&&BitVec.ofInt 8 (y:Int)).toNat:Int)=_
 simp only[BitVec.ofInt_natCast,BitVec.toNat_and,BitVec.toNat_ofNat]
 rw[Nat.mod_eq_of_lt (by omega),Nat.mod_eq_of_lt (by omega),EN _ (by omega) (by omega)]
theorem Nh (a b m:Nat) (hb:b<2^m) (h:a*2^m+b<2^63):Au .or .i64 ((a*2^m:Nat):Int) (b:Int)=((a*2^m+b:Nat):Int):=by
 have hb':b<2^63:=by omega
 rw[or_i64 _ _ (by omega) hb',Nat.mul_comm a,Nat.two_pow_add_eq_or_of_lt hb]
theorem E7 (a m:Nat) (ha:a<2^63) (hm:m<63):Au .and .i64 (a:Int) ((2^m-1:Nat):Int)=((a%2^m:Nat):Int):=by
 have:2^m<2^63:=Nat.pow_lt_pow_right (by decide) hm
 rw[and_i64 _ _ ha (by omega),Nat.and_two_pow_sub_one_eq_mod]
theorem Lp (x:UInt8):x.toNat<=255:=by have:=x.toNat_lt;omega
theorem Q4 (n:Nat) (h:n<=255):IntKind.wrap .i64 (n:Int)=n:=Ad _ (by omega) (by omega)
theorem YG (n:Nat) (h:n<256):D5 (UInt8.ofNat n)= .int .u8 (n:Int):=by
 simp[D5,UInt8.toNat_ofNat,Nat.mod_eq_of_lt h]
theorem D9 {α:Type} (l:List α) (i:Nat) (d:α) (h:i<l.length):l.take (i+1)=l.take i++[l.getD i d]:=by
 rw[List.take_add_one,List.getElem?_eq_getElem h,List.getD,List.getElem?_eq_getElem h];rfl
theorem ML (a c:UInt8):((a.toNat:Int)=(c.toNat:Int))↔a=c:=by
 constructor
 ·intro h;exact UInt8.toNat_inj.1 (by omega)
 ·intro h;rw[h]
theorem Oi (x m:Nat) (h:m<=64):Int.fdiv (x:Int) (2^(min m (IntKind.bits .i64)))=((x/2^m:Nat):Int):=by
 rw[show min m (IntKind.bits .i64)=m from Nat.min_eq_left h,show(2:Int)^m=((2^m:Nat):Int) by simp,Int.fdiv_eq_ediv_of_nonneg _ (Int.natCast_nonneg _)]
 rfl
theorem Wq {α:Type} (l:List α) (i j:Nat) (d:α):(l.drop i).getD j d=l.getD (i+j) d:=by
 simp[List.getD,List.getElem?_drop]
theorem PW {α:Type} (l:List α) (i j:Nat):(l.take j).drop i=(l.drop i).take (j-i):=by
 rw[List.drop_take]
def bt (l:B8) (i:Nat):Nat:=(l.getD i 0).toNat
theorem F8 (l:B8) (i:Nat):bt l i<256:=(l.getD i 0).toNat_lt
theorem R3 (l:B8) (i j:Nat):bt (l.drop i) j=bt l (i+j):=by simp[bt,Wq]
def dN (l:B8):Nat×Nat:=Lib.decodeN l.length (bt l 0) (bt l 1) (bt l 2) (bt l 3)
def ul (l:B8):Nat:=if l=[]∨dN l=(65533,1)then 0 else(dN l).2
def ur (l:B8):Nat:=(dN l).1
def A8 (r:Nat):Prop:=r<=1114111/\(r<55296∨57343<r)
instance (r:Nat):Decidable (A8 r):=by unfold A8;infer_instance
def GM (r:Nat):B8:=
 if r<128 then [UInt8.ofNat r]else if r<2048 then [UInt8.ofNat (192+r/64),UInt8.ofNat (128+r%64)]
 else if r<65536 then [UInt8.ofNat (224+r/4096),UInt8.ofNat (128+r/64%64),UInt8.ofNat (128+r%64)]
 else [UInt8.ofNat (240+r/262144),UInt8.ofNat (128+r/4096%64),UInt8.ofNat (128+r/64%64),UInt8.ofNat (128+r%64)]
theorem DL (n:Nat) (c:UInt8):UInt8.ofNat n=c↔n%256=c.toNat:=by
 rw[<-UInt8.toNat_inj];simp
theorem LQ (l:B8) (h:1<=l.length):l.take 1=[l.getD 0 0]:=by
 rw[D9 l 0 0 (by omega)];rfl
theorem LP (l:B8) (h:2<=l.length):l.take 2=[l.getD 0 0,l.getD 1 0]:=by
 rw[D9 l 1 0 (by omega),LQ l (by omega)];rfl
theorem Iy (l:B8) (h:3<=l.length):l.take 3=[l.getD 0 0,l.getD 1 0,l.getD 2 0]:=by
 rw[D9 l 2 0 (by omega),LP l (by omega)];rfl
theorem M8 (l:B8) (h:4<=l.length):l.take 4=[l.getD 0 0,l.getD 1 0,l.getD 2 0,l.getD 3 0]:=by
 rw[D9 l 3 0 (by omega),Iy l (by omega)];rfl
def rsz (b0:Nat):Nat:=if 240<=b0 then 4 else if 224<=b0 then 3 else if 192<=b0 then 2 else 1
def rb0 (b0:Nat):Nat:=if 240<=b0 then b0%8 else if 224<=b0 then b0%16 else if 192<=b0 then b0%32 else b0
def Dm (l:B8) (r0:Nat):Nat->Nat
 | 0=>r0
 | j+1=>Dm l r0 j*64+bt l (j+1)%64
theorem Rr (l:B8) (r0:Nat) (h:r0<256):∀j,Dm l r0 j<256*64^j
 | 0=>by simpa [Dm]using h
 | j+1=>by
  have:=Rr l r0 h j
  have h2:=Nat.mod_lt (bt l (j+1)) (show 0<64 by omega)
  simp only[Dm,Nat.pow_succ]
  omega
theorem rb0_lt (b0:Nat) (h:b0<256):rb0 b0<256:=by
 unfold rb0
 repeat' split
 all_goals omega
theorem Xr (b0:Nat):1<=rsz b0/\rsz b0<=4:=by
 unfold rsz
 repeat' split
 all_goals omega
def Wb (l:B8):Nat×Nat:=
 let size:=rsz (bt l 0)
 let r:=Dm l (rb0 (bt l 0)) (size-1)
 if l.length<size then(0,0)else if A8 r/\GM r=l.take size then(r,size)else(0,0)
theorem D3 {a b:UInt8} {x y:B8}:(a::x=b::y)↔a=b/\x=y:=by simp
set_option maxHeartbeats 4000000 in
theorem Oj (l:B8) (h:l≠ []):Wb l=if ul l=0 then(0,0)else(ur l,ul l):=by
 have hl:1<=l.length:=by cases l with | nil=>exact absurd rfl h | cons a r=>simp
 have h0:=F8 l 0
 have h1:=F8 l 1
 have h2:=F8 l 2
 have h3:=F8 l 3
 have e0:(l.getD 0 0).toNat=bt l 0:=rfl
 have e1:(l.getD 1 0).toNat=bt l 1:=rfl
 have e2:(l.getD 2 0).toNat=bt l 2:=rfl
 have e3:(l.getD 3 0).toNat=bt l 3:=rfl
 have hul:ul l=if dN l=(65533,1)then 0 else(dN l).2:=by simp[ul,h]
 rw[hul,ur]
 unfold dN
 generalize hb0:bt l 0=b0 at*
 generalize hb1:bt l 1=b1 at*
 generalize hb2:bt l 2=b2 at*
 generalize hb3:bt l 3=b3 at*
 unfold Wb
 simp only[hb0]
 by_cases c4:240<=b0
 ·have r4:rsz b0=4:=by unfold rsz;rw[if_pos c4]
  have rb:rb0 b0=b0%8:=by unfold rb0;rw[if_pos c4]
  rw[r4,rb]
  simp only[Nat.reduceSub,Dm,hb1,hb2,hb3,Nat.zero_add,Nat.reduceAdd]
  by_cases hn:l.length<4
  ·rw[if_pos hn]
   have:Lib.decodeN l.length b0 b1 b2 b3=(65533,1):=by
    unfold Lib.decodeN
    rw[if_neg (by omega),if_neg (by omega),if_neg (by omega),if_neg (by omega)]
   rw[this];simp
  ·rw[if_neg hn]
   have hEnc:(A8 (((b0%8*64+b1%64)*64+b2%64)*64+b3%64)/\GM (((b0%8*64+b1%64)*64+b2%64)*64+b3%64)=l.take 4)↔(b0/8=30/\b1/64=2/\b2/64=2/\b3/64=2/\65536<=((b0%8*64+b1%64)*64+b2%64)*64+b3%64/\((b0%8*64+b1%64)*64+b2%64)*64+b3%64<=1114111):=by
    rw[M8 l (by omega)]
    generalize hr:((b0%8*64+b1%64)*64+b2%64)*64+b3%64=r
    unfold A8 GM
    by_cases k1:r<128
    ·rw[if_pos k1];simp;omega
    ·rw[if_neg k1]
     by_cases k2:r<2048
     ·rw[if_pos k2];simp;omega
     ·rw[if_neg k2]
      by_cases k3:r<65536
      ·rw[if_pos k3];simp;omega
      ·rw[if_neg k3]
       simp only[D3,DL,e0,e1,e2,e3,and_true]
       omega
   by_cases hE:b0/8=30/\b1/64=2/\b2/64=2/\b3/64=2/\65536<=((b0%8*64+b1%64)*64+b2%64)*64+b3%64/\((b0%8*64+b1%64)*64+b2%64)*64+b3%64<=1114111
   ·rw[if_pos (hEnc.2 hE)]
    have:Lib.decodeN l.length b0 b1 b2 b3=(((b0%8*64+b1%64)*64+b2%64)*64+b3%64,4):=by
     unfold Lib.decodeN
     rw[if_neg (by omega),if_neg (by omega),if_neg (by omega),if_pos (by omega),if_pos (by omega)]
     simp only[Prod.mk.injEq,and_true];omega
    rw[this];simp
   ·rw[if_neg (fun hh=>hE (hEnc.1 hh))]
    have:Lib.decodeN l.length b0 b1 b2 b3=(65533,1):=by
     unfold Lib.decodeN
     rw[if_neg (by omega),if_neg (by omega),if_neg (by omega)]
     split
     ·rw[if_neg (by omega)]
     ·rfl
    rw[this];simp
 ·by_cases c3:224<=b0
  ·have r4:rsz b0=3:=by unfold rsz;rw[if_neg c4,if_pos c3]
   have rb:rb0 b0=b0%16:=by unfold rb0;rw[if_neg c4,if_pos c3]
   rw[r4,rb]
   simp only[Nat.reduceSub,Dm,hb1,hb2,Nat.zero_add,Nat.reduceAdd]
   by_cases hn:l.length<3
   ·rw[if_pos hn]
    have:Lib.decodeN l.length b0 b1 b2 b3=(65533,1):=by
     unfold Lib.decodeN
     rw[if_neg (by omega),if_neg (by omega),if_neg (by omega),if_neg (by omega)]
    rw[this];simp
   ·rw[if_neg hn]
    have hEnc:(A8 ((b0%16*64+b1%64)*64+b2%64)/\GM ((b0%16*64+b1%64)*64+b2%64)=l.take 3)↔(b1/64=2/\b2/64=2/\2048<=(b0%16*64+b1%64)*64+b2%64/\A8 ((b0%16*64+b1%64)*64+b2%64)):=by
     rw[Iy l (by omega)]
     generalize hr:(b0%16*64+b1%64)*64+b2%64=r
     unfold A8 GM
     by_cases k1:r<128
     ·rw[if_pos k1];simp;omega
     ·rw[if_neg k1]
      by_cases k2:r<2048
      ·rw[if_pos k2];simp;omega
      ·rw[if_neg k2]
       by_cases k3:r<65536
       ·rw[if_pos k3]
        simp only[D3,DL,e0,e1,e2,and_true]
        omega
       ·omega
    by_cases hE:b1/64=2/\b2/64=2/\2048<=(b0%16*64+b1%64)*64+b2%64/\A8 ((b0%16*64+b1%64)*64+b2%64)
    ·rw[if_pos (hEnc.2 hE)]
     have:Lib.decodeN l.length b0 b1 b2 b3=((b0%16*64+b1%64)*64+b2%64,3):=by
      unfold A8 at hE
      unfold Lib.decodeN
      rw[if_neg (by omega),if_neg (by omega),if_pos (by omega),if_pos (by omega)]
      simp only[Prod.mk.injEq,and_true];omega
     rw[this];simp
    ·rw[if_neg (fun hh=>hE (hEnc.1 hh))]
     have:Lib.decodeN l.length b0 b1 b2 b3=(65533,1):=by
      unfold A8 at hE
      unfold Lib.decodeN
      rw[if_neg (by omega),if_neg (by omega)]
      split
      ·rw[if_neg (by omega)]
      ·rw[if_neg (by omega)]
     rw[this];simp
  ·by_cases c2:192<=b0
   ·have r4:rsz b0=2:=by unfold rsz;rw[if_neg c4,if_neg c3,if_pos c2]
    have rb:rb0 b0=b0%32:=by unfold rb0;rw[if_neg c4,if_neg c3,if_pos c2]
    rw[r4,rb]
    simp only[Nat.reduceSub,Dm,hb1,Nat.zero_add,Nat.reduceAdd]
    by_cases hn:l.length<2
    ·rw[if_pos hn]
     have:Lib.decodeN l.length b0 b1 b2 b3=(65533,1):=by
      unfold Lib.decodeN
      rw[if_neg (by omega),if_neg (by omega),if_neg (by omega),if_neg (by omega)]
     rw[this];simp
    ·rw[if_neg hn]
     have hEnc:(A8 (b0%32*64+b1%64)/\GM (b0%32*64+b1%64)=l.take 2)↔(b1/64=2/\128<=b0%32*64+b1%64):=by
      rw[LP l (by omega)]
      generalize hr:b0%32*64+b1%64=r
      unfold A8 GM
      by_cases k1:r<128
      ·rw[if_pos k1];simp;omega
      ·rw[if_neg k1,if_pos (by omega)]
       simp only[D3,DL,e0,e1,and_true]
       omega
     by_cases hE:b1/64=2/\128<=b0%32*64+b1%64
     ·rw[if_pos (hEnc.2 hE)]
      have:Lib.decodeN l.length b0 b1 b2 b3=(b0%32*64+b1%64,2):=by
       unfold Lib.decodeN
       rw[if_neg (by omega),if_pos (by omega),if_pos (by omega)]
      rw[this];simp
     ·rw[if_neg (fun hh=>hE (hEnc.1 hh))]
      have:Lib.decodeN l.length b0 b1 b2 b3=(65533,1):=by
       unfold Lib.decodeN
       rw[if_neg (by omega)]
       split
       ·rw[if_neg (by omega)]
       ·rw[if_neg (by omega),if_neg (by omega)]
      rw[this];simp
   ·have r4:rsz b0=1:=by unfold rsz;rw[if_neg c4,if_neg c3,if_neg c2]
    have rb:rb0 b0=b0:=by unfold rb0;rw[if_neg c4,if_neg c3,if_neg c2]
    rw[r4,rb]
    simp only[Nat.reduceSub,Dm]
    rw[if_neg (by omega),LQ l hl]
    have hEnc:(A8 b0/\GM b0=[l.getD 0 0])↔b0<128:=by
     unfold A8 GM
     by_cases k1:b0<128
     ·rw[if_pos k1];simp only[D3,DL,e0,and_true];omega
     ·rw[if_neg k1,if_pos (by omega)];simp;omega
    by_cases hE:b0<128
    ·rw[if_pos (hEnc.2 hE)]
     have:Lib.decodeN l.length b0 b1 b2 b3=(b0,1):=by unfold Lib.decodeN;rw[if_pos hE]
     rw[this,if_neg (by simp;omega)]
     simp only[Prod.mk.injEq]
     rw[if_neg (by omega)]
     simp
    ·rw[if_neg (fun hh=>hE (hEnc.1 hh))]
     have:Lib.decodeN l.length b0 b1 b2 b3=(65533,1):=by
      unfold Lib.decodeN
      rw[if_neg (by omega),if_neg (by omega),if_neg (by omega),if_neg (by omega)]
     rw[this];simp
theorem ul_char (l:B8) (h:ul l≠0):A8 (ur l)/\GM (ur l)=l.take (ul l)/\ul l<=l.length/\ul l<=4:=by
 have hne:l≠ []:=fun h0=>h (by simp[ul,h0])
 have e:=Oj l hne
 rw[if_neg h]at e
 unfold Wb at e
 simp only at e
 split at e
 ·simp only[Prod.mk.injEq]at e;omega
 ·split at e
  ·rename_i hn hc
   simp only[Prod.mk.injEq]at e
   rw[<-e.1,<-e.2]
   exact⟨hc.1,hc.2,by omega,(Xr _).2⟩
  ·simp only[Prod.mk.injEq]at e;omega
theorem Vh (l:B8):ul l<=l.length:=by
 by_cases h:ul l=0
 ·omega
 ·exact(ul_char l h).2.2.1
def GV (l:B8):Nat:=if h:ul l=0 then 0 else ul l+GV (l.drop (ul l))
termination_by l.length
decreasing_by
 have:=Vh l
 simp only[List.length_drop];omega
theorem HD (l:B8) (h:ul l=0):GV l=0:=by rw[GV,dif_pos h]
theorem MP (l:B8) (h:ul l≠0):GV l=ul l+GV (l.drop (ul l)):=by rw[GV,dif_neg h]
theorem Ve:∀(n:Nat) (l:B8),l.length<=n->GV l<=l.length
 | 0,l,h=>by
  have:l=[]:=List.eq_nil_of_length_eq_zero (by omega)
  subst this
  rw[HD _ (by simp[ul])];simp
 | n+1,l,h=>by
  by_cases h0:ul l=0
  ·rw[HD l h0];omega
  ·have h1:=Vh l
   have h2:=Ve n (l.drop (ul l)) (by simp only[List.length_drop];omega)
   rw[MP l h0]
   simp only[List.length_drop]at h2;omega
end Go.TVF
end
namespace Go.TVF
open Go.IntKind(i64 u8)
open Go Go.Proofs
section
def HU (n:Nat):B8:=if h:n=0 then []else HU (n/10)++[(48+n%10).toUInt8]
termination_by n
decreasing_by omega
theorem Gl:HU 0=[]:=by unfold HU;rw[dif_pos rfl]
theorem Gm {n:Nat} (h:0<n):HU n=HU (n/10)++[(48+n%10).toUInt8]:=by
 rw[HU.eq_def,dif_neg (by omega)]
theorem J5:∀(k n:Nat),n<10^k->(HU n).length<=k
 | 0,n,h=>by rw[show n=0 by simpa using h,Gl];simp
 | k+1,n,h=>by
  by_cases h0:n=0
  ·rw[h0,Gl];simp
  ·rw[Gm (by omega),List.length_append]
   have:=J5 k (n/10) (by rw[Nat.div_lt_iff_lt_mul (by omega)];rw[Nat.pow_succ]at h;exact h)
   simp only[List.length_cons,List.length_nil];omega
def whN (n:Nat):B8:=if n=0 then [48]else HU n
def P5 (p:Int):B8:=101::(if p<1 then 45::whN (1-p).toNat else whN (p-1).toNat)
def dcT (neg:Bool) (dg:B8) (ex:Int):B8:=
 if dg=[]then [48]else(if neg then [45]else [])++
  (if 0<=ex/\dg.length+ex<=21 then dg++List.replicate ex.toNat 48
  else if ex<0/\1<=dg.length+ex/\dg.length+ex<=21 then dg.take (dg.length+ex).toNat++46::dg.drop (dg.length+ex).toNat
  else if-5<=dg.length+ex/\dg.length+ex<=0 then 48::46::(List.replicate (-(dg.length+ex)).toNat 48++dg)
  else dg.take 1++((if 1<dg.length then 46::dg.drop 1 else [])++P5 (dg.length+ex)))
def A0:Nat->Nat->B8
 | 0,_=>[]
 | w+1,n=>A0 w (n/10)++[(48+n%10).toUInt8]
theorem AU:∀w n,(A0 w n).length=w
 | 0,_=>rfl
 | w+1,n=>by simp[A0,AU w]
def AL (c:UInt8):Prop:=48<=c.toNat/\c.toNat<=57
instance (c:UInt8):Decidable (AL c):=inferInstanceAs (Decidable (_/\_))
def Bo (l:B8):Nat:=(l.reverse.takeWhile (·==48)).length
def Cu (neg:Bool) (dg:B8) (ex:Int):Prop:=
 (dg=[]->neg=false/\ex=0)/\(dg≠ []->dg.length<=120/\(∀c,c∈dg->AL c)/\dg.getD 0 0≠48/\Bo dg=0/\ -400<=ex/\ex<=400)
instance (neg:Bool) (dg:B8) (ex:Int):Decidable (Cu neg dg ex):=inferInstanceAs (Decidable ((_->_)/\(_->_)))
def BW (k d n z:Int):Prop:=
 1<=k/\k<=4/\0<=d/\d<=3652058/\0<=n/\n<=86399999999999/\ -1439<=z/\z<=1439/\(k=2->d=0)/\(k=1->n=0)/\(k≠4->z=0)
instance (k d n z:Int):Decidable (BW k d n z):=inferInstanceAs (Decidable (_/\_/\_/\_/\_/\_/\_/\_/\(_->_)/\(_->_)/\(_->_)))
theorem Ew (k:Nat) (h:k<10):(48+k).toUInt8.toNat=48+k:=by simp;omega
theorem Rt:∀w n c,c∈A0 w n->AL c
 | 0,_,c,h=>by cases h
 | w+1,n,c,h=>by
  unfold A0 at h
  rcases List.mem_append.1 h with h | h
  ·exact Rt w _ c h
  ·rw[List.mem_singleton.1 h];unfold AL;rw[Ew _ (by omega)];omega
theorem natD_dg:∀(n:Nat) c,c∈HU n->AL c:=by
 intro n
 induction n using Nat.strongRecOn with
 | _ n ih=>
  intro c h
  by_cases h0:n=0
  ·rw[h0,Gl]at h;cases h
  ·rw[Gm (by omega)]at h
   rcases List.mem_append.1 h with h | h
   ·exact ih (n/10) (by omega) c h
   ·rw[List.mem_singleton.1 h];unfold AL;rw[Ew _ (by omega)];omega
def GR (l:B8):B8:=(l.reverse.dropWhile (·==48)).reverse
theorem Nw (l:B8) (c:UInt8):GR (l++[c])=if c=48 then GR l else l++[c]:=by
 unfold GR
 rw[List.reverse_append,List.reverse_singleton,List.singleton_append,List.dropWhile_cons]
 by_cases h:c=48
 ·rw[if_pos h,if_pos (by simp[h])]
 ·rw[if_neg h,if_neg (by simp[h])];simp
theorem YA {l:B8} {c:UInt8} (h:c∈GR l):c∈l:=by
 unfold GR at h
 exact List.mem_reverse.1 ((List.dropWhile_sublist _).mem (List.mem_reverse.1 h))
theorem Tw (l:B8):(GR l).length<=l.length:=by
 unfold GR
 rw[List.length_reverse]
 have:=(List.dropWhile_sublist (l:=l.reverse) (fun x:UInt8=>x==48)).length_le
 rw[List.length_reverse]at this;exact this
def Jv (n:Nat):B8:=A0 2 (n/1000000000/3600)++58::(A0 2 (n/1000000000/60%60)++58::(A0 2 (n/1000000000%60)++(if n%1000000000=0 then []else 46::GR (A0 9 (n%1000000000)))))
def HS (z:Int):B8:=if z=0 then [90]else(if z<0 then 45 else 43)::(A0 2 (z.natAbs/60)++58::A0 2 (z.natAbs%60))
def NN (y:Nat):Prop:=y%4=0/\(y%100≠0∨y%400=0)
instance (y:Nat):Decidable (NN y):=inferInstanceAs (Decidable (_/\_))
def KM (y m:Nat):Nat:=if m=2 then(if NN y then 29 else 28)else if m=4∨m=6∨m=9∨m=11 then 30 else 31
def D8 (y:Nat):Nat->Nat
 | 0=>0
 | 1=>0
 | m+2=>D8 y (m+1)+KM y (m+1)
def yrS (y:Nat):Nat:=365*(y-1)+(y-1)/4-(y-1)/100+(y-1)/400
def F5 (n y m d:Nat):Prop:=1<=y/\y<=9999/\1<=m/\m<=12/\1<=d/\d<=KM y m/\n=yrS y+D8 y m+(d-1)
theorem Si {a b:Nat} (h1:1<=a) (h:a<=b):yrS a<=yrS b:=by
 rcases Nat.eq_or_lt_of_le h with rfl | h
 ·exact Nat.le_refl _
 ·unfold yrS;omega
theorem monS_12 (y:Nat):D8 y 12+KM y 12=if NN y then 366 else 365:=by
 simp only[D8,KM]
 by_cases h:NN y<;>simp[h]
theorem UP (k q:Nat) (h:0<q):(k+1)/q=k/q+(if (k+1)%q=0 then 1 else 0):=by
 rw[Nat.succ_div]
 congr 1
 simp only[Nat.dvd_iff_mod_eq_zero]
theorem HB {y:Nat} (h:1<=y):yrS (y+1)=yrS y+(D8 y 12+KM y 12):=by
 rw[monS_12]
 obtain⟨k,rfl⟩:∃k,y=k+1:=⟨y-1,by omega⟩
 unfold yrS
 simp only[Nat.add_sub_cancel]
 rw[UP k 4 (by omega),UP k 100 (by omega),UP k 400 (by omega)]
 have m1:(k+1)%400=0->(k+1)%100=0:=fun h=>by omega
 have m2:(k+1)%100=0->(k+1)%4=0:=fun h=>by omega
 have m3:k/100<=k/4:=by omega
 by_cases a4:(k+1)%4=0
 ·rw[if_pos a4]
  by_cases a100:(k+1)%100=0
  ·rw[if_pos a100]
   by_cases a400:(k+1)%400=0
   ·rw[if_pos a400,if_pos ⟨a4,.inr a400⟩];omega
   ·rw[if_neg a400,if_neg (fun h=>h.2.elim (fun h=>h a100) a400)];omega
  ·rw[if_neg a100,if_neg (fun h=>a100 (m1 h)),if_pos ⟨a4,.inl a100⟩];omega
 ·rw[if_neg a4,if_neg (fun h=>a4 (m2 h)),if_neg (fun h=>a4 (m2 (m1 h))),if_neg (fun h=>a4 h.1)];omega
theorem Nm (y:Nat):∀{a b:Nat},a<=b->D8 y a<=D8 y b:=by
 intro a b h
 induction b with
 | zero=>rw[show a=0 by omega];exact Nat.le_refl _
 | succ b ih=>
  by_cases hab:a=b+1
  ·rw[hab];exact Nat.le_refl _
  ·refine Nat.le_trans (ih (by omega)) ?_
   cases b with
   | zero=>exact Nat.le_refl _
   | succ b=>simp only[D8];omega
theorem CR (y:Nat) {m:Nat} (h:1<=m):D8 y (m+1)=D8 y m+KM y m:=by
 cases m with
 | zero=>omega
 | succ m=>rfl
theorem F5.uniq {n y m d y' m' d':Nat} (h:F5 n y m d) (h':F5 n y' m' d'):y=y'/\m=m'/\d=d':=by
 obtain⟨a1,a2,a3,a4,a5,a6,a7⟩:=h
 obtain⟨b1,b2,b3,b4,b5,b6,b7⟩:=h'
 have within:∀{y m d:Nat},1<=y->1<=m->m<=12->1<=d->d<=KM y m->D8 y m+(d-1)<D8 y 12+KM y 12:=by
  intro y m d h1 h2 h3 h4 h5
  by_cases hm:m=12
  ·subst hm;omega
  ·have:=Nm y (a:=m+1) (b:=12) (by omega)
   rw[CR y h2]at this;omega
 have w1:=within a1 a3 a4 a5 a6
 have w2:=within b1 b3 b4 b5 b6
 have hy:y=y':=by
  rcases Nat.lt_trichotomy y y' with h | h | h
  ·have:=Si (a:=y+1) (b:=y') (by omega) (by omega)
   rw[HB a1]at this;omega
  ·exact h
  ·have:=Si (a:=y'+1) (b:=y) (by omega) (by omega)
   rw[HB b1]at this;omega
 subst hy
 have hm:m=m':=by
  rcases Nat.lt_trichotomy m m' with h | h | h
  ·have:=Nm y (a:=m+1) (b:=m') (by omega)
   rw[CR y a3]at this;omega
  ·exact h
  ·have:=Nm y (a:=m'+1) (b:=m) (by omega)
   rw[CR y b3]at this;omega
 subst hm
 exact⟨rfl,rfl,by omega⟩
open Classical in
noncomputable def Pw (n:Nat):Nat×Nat×Nat:=if h:∃p:Nat×Nat×Nat,F5 n p.1 p.2.1 p.2.2 then h.choose else(0,0,0)
theorem WF {n y m d:Nat} (h:F5 n y m d):Pw n=(y,m,d):=by
 have hex:∃p:Nat×Nat×Nat,F5 n p.1 p.2.1 p.2.2:=⟨(y,m,d),h⟩
 unfold Pw
 rw[dif_pos hex]
 obtain⟨h1,h2,h3⟩:=hex.choose_spec.uniq h
 exact Prod.ext h1 (Prod.ext h2 h3)
noncomputable def KO (n:Nat):B8:=A0 4 (Pw n).1++45::(A0 2 (Pw n).2.1++45::A0 2 (Pw n).2.2)
noncomputable def FS (k td tn tz:Int):B8:=
 if k=1 then KO td.toNat else if k=2 then Jv tn.toNat else if k=3 then KO td.toNat++84::Jv tn.toNat else KO td.toNat++84::(Jv tn.toNat++HS tz)
def hxD (n:Nat):UInt8:=if n<10 then(48+n).toUInt8 else(87+n).toUInt8
def BL (c:UInt8):B8:=if c=34∨c=92 then [92,c]else if c=8 then [92,98]else if c=12 then [92,102]else if c=10 then [92,110]else if c=13 then [92,114]else if c=9 then [92,116]
 else if c.toNat<32 then [92,117,48,48,hxD (c.toNat/16),hxD (c.toNat%16)]else [c]
def quB (s:B8):B8:=34::(s.flatMap BL++[34])
theorem MB (c:UInt8):(BL c).length<=6:=by
 have ite:∀{p:Prop} [Decidable p] {a b:B8},a.length<=6->b.length<=6->(if p then a else b).length<=6:=fun h1 h2=>by split<;>assumption
 unfold BL
 exact ite (by simp) (ite (by simp) (ite (by simp) (ite (by simp) (ite (by simp) (ite (by simp) (ite (by simp) (by simp)))))))
theorem Ok (s:B8):(quB s).length<=6*s.length+2:=by
 have:(s.flatMap BL).length<=6*s.length:=by
  induction s with
  | nil=>simp
  | cons c r ih=>
   rw[List.flatMap_cons,List.length_append,List.length_cons]
   have:=MB c
   omega
 unfold quB;simp only[List.length_cons,List.length_append,List.length_nil];omega
def Gk (s:B8):Prop:=∀c,c∈s->BL c=[c]
theorem Gk.quB {s:B8} (h:Gk s):quB s=34::(s++[34]):=by
 have:s.flatMap BL=s:=by
  induction s with
  | nil=>rfl
  | cons c r ih=>rw[List.flatMap_cons,h c (List.mem_cons_self),ih fun x hx=>h x (List.mem_cons_of_mem _ hx),List.singleton_append]
 unfold TVF.quB;rw[this]
theorem safe_of {c:UInt8} (h1:32<=c.toNat) (h2:c≠34) (h3:c≠92):BL c=[c]:=by
 have ne:∀k:UInt8,k.toNat<32->c≠k:=fun k hk e=>by subst e;omega
 unfold BL
 rw[if_neg (by simp[h2,h3]),if_neg (ne 8 (by decide)),if_neg (ne 12 (by decide)),if_neg (ne 10 (by decide)),if_neg (ne 13 (by decide)),if_neg (ne 9 (by decide)),if_neg (by omega)]
theorem AL.safe {c:UInt8} (h:AL c):BL c=[c]:=by
 obtain⟨h1,h2⟩:=h
 exact safe_of (by omega) (fun e=>by subst e;simp at h1) (fun e=>by subst e;simp at h2)
end
def AA (s:B8):B8:=s.takeWhile fun c=>decide (AL c)
def F9 (n:Nat) (l:B8):Nat:=l.foldl (fun n c=>10*n+(c.toNat-48)) n
def BJ (l:B8):Nat:=F9 0 l
def AY (l:B8):B8:=l.dropWhile (·==48)
def dcN (neg:Bool) (s:B8) (ex:Int):Bool×B8×Int×Int:=
 if s=[]then(false,[],0,0)else if 400<ex+Bo s∨ex+Bo s< -400∨120<s.length-Bo s then(false,[],0,2)else(neg,s.take (s.length-Bo s),ex+Bo s,0)
def K3:Bool×B8×Int×Int:=(false,[],0,3)
def dcX (neg:Bool) (all:B8) (ex:Int) (less:Bool) (r:B8):Bool×B8×Int×Int:=
 if r=[]∨(AA r).length≠r.length then K3 else dcN neg (AY all) (if less then ex-BJ r else ex+BJ r)
def dcE (neg:Bool) (all:B8) (ex:Int) (r:B8):Bool×B8×Int×Int:=
 if r=[]then dcN neg (AY all) ex else if r.getD 0 0=101∨r.getD 0 0=69 then
  (if (r.drop 1).getD 0 0=45 then dcX neg all ex true (r.drop 2)else if (r.drop 1).getD 0 0=43 then dcX neg all ex false (r.drop 2)else dcX neg all ex false (r.drop 1))
 else K3
def dcF (neg:Bool) (a:B8) (r:B8):Bool×B8×Int×Int:=
 if r.getD 0 0=46 then(if AA (r.drop 1)=[]then K3 else dcE neg (a++AA (r.drop 1)) (-(AA (r.drop 1)).length) (r.drop (1+(AA (r.drop 1)).length)))
 else dcE neg a 0 r
def dcQ (neg:Bool) (s:B8):Bool×B8×Int×Int:=
 if AA s=[]∨(1<(AA s).length/\s.getD 0 0=48)then K3 else dcF neg (AA s) (s.drop (AA s).length)
def dcP (s:B8):Bool×B8×Int×Int:=if s.getD 0 0=45 then dcQ true (s.drop 1)else dcQ false s
theorem Kw {a r:B8} (ha:∀c,c∈a->AL c) (hr:¬AL (r.getD 0 0)):AA (a++r)=a:=by
 induction a with
 | nil=>
  cases r with
  | nil=>rfl
  | cons c r=>exact List.takeWhile_cons_of_neg (by simpa using hr)
 | cons c a ih=>
  unfold AA at ih⊢
  rw[List.cons_append,List.takeWhile_cons_of_pos (by simpa using ha c List.mem_cons_self),ih fun x hx=>ha x (List.mem_cons_of_mem _ hx)]
theorem WB {a:B8} (ha:∀c,c∈a->AL c):AA a=a:=by
 have:=Kw (r:=[]) ha (by unfold AL;simp)
 rwa [List.append_nil]at this
theorem GO (s:B8):∀c,c∈AA s->AL c:=by
 induction s with
 | nil=>intro c h;cases h
 | cons a s ih=>
  intro c h
  unfold AA at h ih
  rw[List.takeWhile_cons]at h
  split at h
  ·rename_i hd
   rcases List.mem_cons.1 h with rfl | h
   ·exact of_decide_eq_true hd
   ·exact ih c h
  ·cases h
theorem EL (s:B8):(AA s).length<=s.length:=(List.takeWhile_sublist _).length_le
theorem Nu (s:B8):s=AA s++s.drop (AA s).length:=by
 induction s with
 | nil=>rfl
 | cons a s ih=>
  unfold AA at ih⊢
  rw[List.takeWhile_cons]
  split
  ·rw[List.length_cons,List.drop_succ_cons,List.cons_append,<-ih]
  ·rfl
theorem EC (s:B8):s.take (AA s).length=AA s:=by
 have h:=Nu s
 have:s.take (AA s).length=(AA s++s.drop (AA s).length).take (AA s).length:=by rw[<-h]
 rw[this,List.take_left]
theorem Sh (l:B8) (c:UInt8):Bo (l++[c])=if c=48 then Bo l+1 else 0:=by
 unfold Bo
 rw[List.reverse_append,List.reverse_singleton,List.singleton_append,List.takeWhile_cons]
 by_cases h:c=48
 ·rw[if_pos h,if_pos (by simp[h])];rfl
 ·rw[if_neg h,if_neg (by simp[h])];rfl
theorem TO (l:B8) (k:Nat):Bo (l++List.replicate k 48)=Bo l+k:=by
 induction k with
 | zero=>simp
 | succ k ih=>rw[List.replicate_succ',<-List.append_assoc,Sh,if_pos rfl,ih];omega
theorem Ox (l:B8):Bo l<=l.length:=by
 unfold Bo
 have:=(List.takeWhile_sublist (l:=l.reverse) (fun x:UInt8=>x==48)).length_le
 rwa [List.length_reverse]at this
theorem G2 {c:UInt8} {l:B8} (h:c≠48):AY (c::l)=c::l:=by
 unfold AY;rw[List.dropWhile_cons,if_neg (by simpa using h)]
theorem HN {l:B8} (h:l.getD 0 0≠48):AY l=l:=by
 cases l with
 | nil=>rfl
 | cons c l=>exact G2 (by simpa using h)
theorem IB (k:Nat) (l:B8):AY (List.replicate k 48++l)=AY l:=by
 induction k with
 | zero=>rfl
 | succ k ih=>rw[List.replicate_succ,List.cons_append];unfold AY at ih⊢;rw[List.dropWhile_cons,if_pos (by simp),ih]
theorem LG (n:Nat) (a b:B8):F9 n (a++b)=F9 (F9 n a) b:=by
 unfold F9;rw[List.foldl_append]
theorem VV:∀n:Nat,BJ (HU n)=n:=by
 intro n
 induction n using Nat.strongRecOn with
 | _ n ih=>
  by_cases h:n=0
  ·subst h;rw[Gl];rfl
  ·rw[Gm (by omega)]
   unfold BJ at ih⊢
   rw[LG,ih (n/10) (by omega)]
   unfold F9
   rw[List.foldl_cons,List.foldl_nil,Ew _ (by omega)];omega
theorem W6 (n:Nat):BJ (whN n)=n:=by
 unfold whN;split
 ·rename_i h;subst h;rfl
 ·exact VV n
theorem Q5 (n:Nat):∀c,c∈whN n->AL c:=by
 unfold whN;split
 ·intro c h;rw[List.mem_singleton.1 h];decide
 ·exact natD_dg n
theorem natD_ne {n:Nat} (h:0<n):HU n≠ []:=by rw[Gm h];simp
theorem WZ (n:Nat):whN n≠ []:=by
 unfold whN;split
 ·simp
 ·exact natD_ne (by omega)
theorem W0 (n:Nat):AL ((whN n).getD 0 0):=by
 have h:=WZ n
 have h2:=Q5 n
 generalize whN n=l at h h2
 cases l with
 | nil=>exact absurd rfl h
 | cons c l=>exact h2 c List.mem_cons_self
theorem RR {neg:Bool} {dg:B8} {ex ex':Int} (k:Nat) (h:Cu neg dg ex) (hne:dg≠ []) (he:ex'+k=ex):dcN neg (dg++List.replicate k 48) ex'=(neg,dg,ex,0):=by
 obtain⟨h1,h2,h3,h4,h5,h6⟩:=h.2 hne
 unfold dcN
 have hz:Bo (dg++List.replicate k 48)=k:=by rw[TO,h4];omega
 rw[if_neg (by simp[hne]),hz,if_neg (by rw[List.length_append,List.length_replicate];omega),List.length_append,List.length_replicate,Nat.add_sub_cancel,List.take_left,he]
theorem Yu {neg:Bool} {all:B8} {ex:Int} {less:Bool} (n:Nat):dcX neg all ex less (whN n)=dcN neg (AY all) (if less then ex-n else ex+n):=by
 unfold dcX
 rw[if_neg,W6]
 intro h
 rcases h with h | h
 ·exact WZ n h
 ·exact h (by rw[WB (Q5 n)])
theorem VP {neg:Bool} {all:B8} {ex p:Int}:dcE neg all ex (P5 p)=dcN neg (AY all) (ex+(p-1)):=by
 unfold P5 dcE
 rw[if_neg (by simp),if_pos (by simp)]
 split
 ·rw[if_pos (by simp)]
  show dcX neg all ex true (whN _)=_
  rw[Yu,if_pos rfl]
  congr 1;omega
 ·have hh:=W0 (p-1).toNat
  have hd:((101:UInt8)::whN (p-1).toNat).drop 1=whN (p-1).toNat:=rfl
  rw[hd,if_neg (fun e=>by rw[e]at hh;revert hh;decide),if_neg (fun e=>by rw[e]at hh;revert hh;decide),Yu,if_neg (by simp)]
  congr 1;omega
theorem RS {neg:Bool} {all:B8} {ex:Int}:dcE neg all ex []=dcN neg (AY all) ex:=if_pos rfl
theorem Pv {neg:Bool} {a f r:B8} (hf:∀c,c∈f->AL c) (hne:f≠ []) (hr:¬AL (r.getD 0 0)):dcF neg a (46::(f++r))=dcE neg (a++f) (-f.length) r:=by
 unfold dcF
 rw[if_pos (show(46::(f++r)).getD 0 0=46 from rfl),List.drop_succ_cons,List.drop_zero,Kw hf hr,if_neg hne,Nat.add_comm,List.drop_succ_cons,List.drop_left]
theorem Yw {neg:Bool} {a r:B8} (h:r.getD 0 0≠46):dcF neg a r=dcE neg a 0 r:=if_neg h
theorem RQ {neg:Bool} {a r:B8} (ha:∀c,c∈a->AL c) (hne:a≠ []) (h0:a.length=1∨a.getD 0 0≠48) (hr:¬AL (r.getD 0 0)):dcQ neg (a++r)=dcF neg a r:=by
 unfold dcQ
 rw[Kw ha hr,if_neg,List.drop_left]
 rintro(h | ⟨h1,h2⟩)
 ·exact hne h
 ·have:(a++r).getD 0 0=a.getD 0 0:=by cases a with | nil=>exact absurd rfl hne | cons c a=>rfl
  rw[this]at h2
  rcases h0 with h0 | h0
  ·omega
  ·exact h0 h2
theorem nd46:¬AL 46:=by decide
theorem nd101:¬AL 101:=by decide
theorem nd0:¬AL 0:=by decide
theorem MF {neg:Bool} {dg:B8} {ex:Int} (h:Cu neg dg ex):dcP (dcT neg dg ex)=(neg,dg,ex,0):=by
 by_cases hne:dg=[]
 ·subst hne
  obtain⟨rfl,rfl⟩:=h.1 rfl
  unfold dcT
  rw[if_pos rfl];decide
 ·obtain⟨h1,h2,h3,h4,h5,h6⟩:=h.2 hne
  have hpos:0<dg.length:=List.length_pos_iff.2 hne
  have key:∀body:B8,AL (body.getD 0 0)->dcP ((if neg then [45]else [])++body)=dcQ neg body:=by
   intro body hb
   cases neg with
   | true=>
    show dcP (45::body)=_
    unfold dcP
    rw[if_pos (show(45::body).getD 0 0=45 from rfl)];rfl
   | false=>
    show dcP body=_
    unfold dcP
    rw[if_neg (fun e=>by rw[e]at hb;revert hb;decide)]
  have hd0:AL (dg.getD 0 0):=by
   cases dg with
   | nil=>exact absurd rfl hne
   | cons c r=>exact h2 c List.mem_cons_self
  unfold dcT
  rw[if_neg hne,key]
  ·split
   ·rename_i g
    have:=RQ (neg:=neg) (a:=dg++List.replicate ex.toNat 48) (r:=[]) (fun c hc=>by
     rcases List.mem_append.1 hc with hc | hc
     ·exact h2 c hc
     ·rw[List.eq_of_mem_replicate hc];decide) (by simp[hne]) (.inr (by cases dg with | nil=>exact absurd rfl hne | cons c r=>exact h3)) (by simpa using nd0)
    rw[List.append_nil]at this
    rw[this,Yw (by decide),RS,HN (by cases dg with | nil=>exact absurd rfl hne | cons c r=>exact h3)]
    exact RR _ h hne (by omega)
   ·split
    ·rename_i g0 g
     have htk:(dg.take (dg.length+ex).toNat).length=(dg.length+ex).toNat:=by rw[List.length_take];omega
     have hdr:(dg.drop (dg.length+ex).toNat).length=dg.length-(dg.length+ex).toNat:=List.length_drop
     rw[RQ (fun c hc=>h2 c (List.mem_of_mem_take hc)) (fun e=>by rw[e]at htk;simp at htk;omega) (.inr ?_) (by simpa using nd46)]
     ·have:=Pv (neg:=neg) (a:=dg.take (dg.length+ex).toNat) (f:=dg.drop (dg.length+ex).toNat) (r:=[]) (fun c hc=>h2 c (List.mem_of_mem_drop hc)) (fun e=>by rw[e]at hdr;simp at hdr;omega) (by simpa using nd0)
      rw[List.append_nil]at this
      rw[this,RS,List.take_append_drop,HN h3]
      have h9:=RR 0 (ex':=ex) h hne (by simp)
      rw[List.replicate_zero,List.append_nil]at h9
      rw[show(-((dg.drop (dg.length+ex).toNat).length:Int))=ex by rw[hdr];omega]
      exact h9
     ·obtain⟨m,hm⟩:∃m,(dg.length+ex).toNat=m+1:=⟨(dg.length+ex).toNat-1,by omega⟩
      rw[hm]
      cases dg with
      | nil=>exact absurd rfl hne
      | cons c r=>exact h3
    ·split
     ·rename_i g0 g1 g
      show dcQ neg ([48]++46::(List.replicate (-(dg.length+ex)).toNat 48++dg))=_
      rw[RQ (fun c hc=>by rw[List.mem_singleton.1 hc];decide) (by simp) (.inl rfl) (by simpa using nd46)]
      have:=Pv (neg:=neg) (a:=[48]) (f:=List.replicate (-(dg.length+ex)).toNat 48++dg) (r:=[]) (fun c hc=>by
       rcases List.mem_append.1 hc with hc | hc
       ·rw[List.eq_of_mem_replicate hc];decide
       ·exact h2 c hc) (by simp[hne]) (by simpa using nd0)
      rw[List.append_nil]at this
      rw[this,RS]
      have h8:AY ([48]++(List.replicate (-(dg.length+ex)).toNat 48++dg))=dg:=by
       rw[<-List.append_assoc,show [48]++List.replicate (-(dg.length+ex)).toNat (48:UInt8)=List.replicate ((-(dg.length+ex)).toNat+1) 48 from rfl,IB,HN h3]
      have h9:=RR 0 (ex':=ex) h hne (by simp)
      rw[List.replicate_zero,List.append_nil]at h9
      rw[h8,show(-((List.replicate (-(dg.length+ex)).toNat (48:UInt8)++dg).length:Int))=ex by rw[List.length_append,List.length_replicate];omega]
      exact h9
     ·obtain⟨c,r,rfl⟩:∃c r,dg=c::r:=by
       cases dg with
       | nil=>exact absurd rfl hne
       | cons c r=>exact⟨c,r,rfl⟩
      have h9:=RR 0 (ex':=ex) h hne (by simp)
      rw[List.replicate_zero,List.append_nil]at h9
      have e101:(P5 (((c::r).length:Nat)+ex)).getD 0 0=101:=rfl
      show dcQ neg ([c]++((if 1<(c::r).length then 46::r else [])++P5 (((c::r).length:Nat)+ex)))=_
      have hst:¬AL (((if 1<(c::r).length then 46::r else [])++P5 (((c::r).length:Nat)+ex)).getD 0 0):=by
       split
       ·exact nd46
       ·exact nd101
      rw[RQ (fun x hx=>by rw[List.mem_singleton.1 hx];exact hd0) (by simp) (.inl rfl) hst]
      cases r with
      | nil=>
       rw[if_neg (by simp),List.nil_append,Yw (by rw[e101];decide),VP,HN h3,show(0:Int)+((([c]:B8).length:Nat)+ex-1)=ex by simp only[List.length_cons,List.length_nil];omega]
       exact h9
      | cons d r=>
       rw[if_pos (by simp),List.cons_append,Pv (fun x hx=>h2 x (List.mem_cons_of_mem _ hx)) (by simp) (by rw[e101];exact nd101),VP]
       rw[show [c]++d::r=c::d::r from rfl,HN h3,show(-((d::r).length:Int))+(((c::d::r).length:Nat)+ex-1)=ex by simp only[List.length_cons];omega]
       exact h9
  ·have app:∀t,AL ((dg++t).getD 0 0):=fun t=>by
    cases dg with
    | nil=>exact absurd rfl hne
    | cons c r=>exact hd0
   split
   ·exact app _
   ·split
    ·rename_i g
     obtain⟨m,hm⟩:∃m,(dg.length+ex).toNat=m+1:=⟨(dg.length+ex).toNat-1,by omega⟩
     rw[hm]
     cases dg with
     | nil=>exact absurd rfl hne
     | cons c r=>exact hd0
    ·split
     ·exact(by decide:AL 48)
     ·cases dg with
      | nil=>exact absurd rfl hne
      | cons c r=>exact hd0
def b0 (s:B8) (k:Nat):UInt8:=s.getD k 0
def dv (s:B8) (k:Nat):Nat:=(b0 s k).toNat-48
def d2 (s:B8) (k:Nat):Nat:=dv s k*10+dv s (k+1)
def dd (s:B8) (k:Nat):Prop:=AL (b0 s k)/\AL (b0 s (k+1))
instance (s:B8) (k:Nat):Decidable (dd s k):=inferInstanceAs (Decidable (_/\_))
def KY (s:B8):Prop:=dd s 0/\b0 s 2=58/\dd s 3/\b0 s 5=58/\dd s 6
instance (s:B8):Decidable (KY s):=inferInstanceAs (Decidable (_/\_/\_/\_/\_))
def Et (s:B8):Prop:=dd s 0/\dd s 2/\b0 s 4=45/\dd s 5/\b0 s 7=45/\dd s 8
instance (s:B8):Decidable (Et s):=inferInstanceAs (Decidable (_/\_/\_/\_/\_/\_))
def Mx (f:B8):Nat:=BJ (f++List.replicate (9-f.length) 48)
def GS (s:B8):Option (Nat×Nat×Nat×Nat×B8):=
 if KY s then
  (if b0 s 8=46 then(if AA (s.drop 9)=[]∨9<(AA (s.drop 9)).length then none else some (d2 s 0,d2 s 3,d2 s 6,Mx (AA (s.drop 9)),s.drop (9+(AA (s.drop 9)).length)))
  else some (d2 s 0,d2 s 3,d2 s 6,0,s.drop 8))
 else none
def Mf (s:B8):Option (Bool×Nat×Nat):=
 if s=[90]∨s=[122]then some (false,0,0)else if s.length=6/\(b0 s 0=43∨b0 s 0=45)/\dd s 1/\b0 s 3=58/\dd s 4 then some (decide (b0 s 0=45),d2 s 1,d2 s 4)else none
def okD (y m d:Nat):Prop:=1<=y/\y<=9999/\1<=m/\m<=12/\1<=d/\d<=KM y m
instance (y m d:Nat):Decidable (okD y m d):=inferInstanceAs (Decidable (_/\_/\_/\_/\_/\_))
def Ju (y m d:Nat):Nat:=yrS y+D8 y m+(d-1)
abbrev TmR:=Int×Int×Int×Int×Int
def I7:TmR:=(0,0,0,0,3)
def I6:TmR:=(0,0,0,0,2)
def okC (h m s:Nat):Prop:=h<=23/\m<=59/\s<=59
instance (h m s:Nat):Decidable (okC h m s):=inferInstanceAs (Decidable (_/\_/\_))
def Fc (h m s f:Nat):Nat:=((h*60+m)*60+s)*1000000000+f
def tmO (y mo d h m s f:Nat) (r:B8):TmR:=
 if r=[]then(if okD y mo d/\okC h m s then(3,(Ju y mo d:Nat),(Fc h m s f:Nat),0,0)else I6)
 else match Mf r with
  | none=>I7
  | some (ls,oh,om)=>if okD y mo d/\okC h m s/\oh<=23/\om<=59 then(4,(Ju y mo d:Nat),(Fc h m s f:Nat),if ls then-((oh*60+om:Nat):Int)else((oh*60+om:Nat):Int),0)else I6
def tmD (y mo d:Nat) (r:B8):TmR:=
 if r=[]then(if okD y mo d then(1,(Ju y mo d:Nat),0,0,0)else I6)
 else if b0 r 0=84∨b0 r 0=116∨b0 r 0=32 then
  match GS (r.drop 1)with
  | none=>I7
  | some (h,m,s,f,r')=>tmO y mo d h m s f r'
 else I7
def tmP (s:B8):TmR:=
 if Et s then tmD (d2 s 0*100+d2 s 2) (d2 s 5) (d2 s 8) (s.drop 10)
 else match GS s with
  | none=>I7
  | some (h,m,sc,f,r)=>if r=[]then(if okC h m sc then(2,0,(Fc h m sc f:Nat),0,0)else I6)else I7
theorem Yr (k:Nat) (h:k<10):AL (48+k).toUInt8:=by unfold AL;rw[Ew _ h];omega
theorem Md (n:Nat):A0 2 n=[(48+n/10%10).toUInt8,(48+n%10).toUInt8]:=by
 simp[A0]
theorem Wi (n:Nat):A0 4 n=[(48+n/10/10/10%10).toUInt8,(48+n/10/10%10).toUInt8,(48+n/10%10).toUInt8,(48+n%10).toUInt8]:=by
 simp[A0]
theorem Ix (n:Nat) (h:n<100):((48+n/10%10).toUInt8.toNat-48)*10+((48+n%10).toUInt8.toNat-48)=n:=by
 rw[Ew _ (by omega),Ew _ (by omega)];omega
theorem LH:∀(l:B8) (a:Nat),F9 a l=a*10^l.length+F9 0 l
 | [],a=>by simp[F9]
 | c::l,a=>by
  have h1:=LH l (10*a+(c.toNat-48))
  have h2:=LH l (10*0+(c.toNat-48))
  show F9 (10*a+(c.toNat-48)) l=_+F9 (10*0+(c.toNat-48)) l
  rw[h1,h2,List.length_cons,Nat.pow_succ,Nat.add_mul,Nat.add_mul]
  have:10*a*10^l.length=a*(10^l.length*10):=by rw[Nat.mul_comm 10 a,Nat.mul_assoc,Nat.mul_comm 10]
  omega
theorem Qe:∀(w n:Nat),n<10^w->BJ (A0 w n)=n
 | 0,n,h=>by rw[show n=0 by simpa using h];rfl
 | w+1,n,h=>by
  have:=Qe w (n/10) (by rw[Nat.div_lt_iff_lt_mul (by omega)];rw[Nat.pow_succ]at h;exact h)
  unfold BJ at this⊢
  rw[A0,LG,this]
  unfold F9
  rw[List.foldl_cons,List.foldl_nil,Ew _ (by omega)];omega
theorem Yz:∀(l:B8),∃k,l=GR l++List.replicate k 48:=by
 intro l
 have:∀n (l:B8),l.length=n->∃k,l=GR l++List.replicate k 48:=by
  intro n
  induction n with
  | zero=>intro l h;rw[List.eq_nil_of_length_eq_zero h];exact⟨0,rfl⟩
  | succ n ih=>
   intro l h
   have hne:l≠ []:=fun e=>by rw[e]at h;simp at h
   have hl:=List.dropLast_concat_getLast hne
   generalize l.dropLast=a at hl
   generalize l.getLast hne=c at hl
   rw[<-hl,Nw]
   rw[<-hl,List.length_append]at h
   by_cases h0:c=48
   ·obtain⟨k,hk⟩:=ih a (by simpa using h)
    rw[if_pos h0]
    refine⟨k+1,?_⟩
    rw[List.replicate_succ',<-List.append_assoc,<-hk,h0]
   ·rw[if_neg h0];exact⟨0,by simp⟩
 exact this _ l rfl
theorem QJ {n:Nat} (h:n<1000000000):Mx (GR (A0 9 n))=n:=by
 obtain⟨k,hk⟩:=Yz (A0 9 n)
 have hl:=congrArg List.length hk
 rw[AU,List.length_append,List.length_replicate]at hl
 unfold Mx
 rw[show 9-(GR (A0 9 n)).length=k by omega,<-hk]
 exact Qe 9 n h
theorem RU {n:Nat} (h:n<1000000000) (h0:n≠0):GR (A0 9 n)≠ []:=by
 intro e
 have:=QJ h
 rw[e]at this
 exact h0 (this.symm.trans (by decide))
theorem MH (n:Nat):∀c,c∈GR (A0 9 n)->AL c:=fun c hc=>Rt 9 n c (YA hc)
theorem WJ {n:Nat} (h:n<=86399999999999) {r:B8} (hr:¬AL (b0 r 0)) (hr2:b0 r 0≠46):
  GS (Jv n++r)=some (n/1000000000/3600,n/1000000000/60%60,n/1000000000%60,n%1000000000,r):=by
 have h1:=Ix (n/1000000000/3600) (by omega)
 have h2:=Ix (n/1000000000/60%60) (by omega)
 have h3:=Ix (n/1000000000%60) (by omega)
 have dg1:=fun k=>Yr (k%10) (by omega)
 unfold Jv
 generalize hf:(if n%1000000000=0 then([]:B8)else 46::GR (A0 9 (n%1000000000)))=f
 generalize n/1000000000/3600=hh at*
 generalize n/1000000000/60%60=mm at*
 generalize n/1000000000%60=ss at*
 simp only[Md,List.cons_append,List.nil_append]
 unfold GS
 rw[if_pos]
 ·have e8:∀(a b c d e f' g i:UInt8) (l:B8),b0 (a::b::c::d::e::f'::g::i::l) 8=b0 l 0:=fun _ _ _ _ _ _ _ _ _=>rfl
  rw[e8]
  have v1:∀(a b c d e f' g i:UInt8) (l:B8),d2 (a::b::c::d::e::f'::g::i::l) 0=(a.toNat-48)*10+(b.toNat-48):=fun _ _ _ _ _ _ _ _ _=>rfl
  have v2:∀(a b c d e f' g i:UInt8) (l:B8),d2 (a::b::c::d::e::f'::g::i::l) 3=(d.toNat-48)*10+(e.toNat-48):=fun _ _ _ _ _ _ _ _ _=>rfl
  have v3:∀(a b c d e f' g i:UInt8) (l:B8),d2 (a::b::c::d::e::f'::g::i::l) 6=(g.toNat-48)*10+(i.toNat-48):=fun _ _ _ _ _ _ _ _ _=>rfl
  rw[v1,v2,v3,h1,h2,h3]
  subst hf
  by_cases h0:n%1000000000=0
  ·rw[if_pos h0,List.nil_append,if_neg hr2,h0];rfl
  ·rw[if_neg h0]
   have hdr:=Kw (r:=r) (MH (n%1000000000)) hr
   have hd9:∀(a b c d e f' g i x:UInt8) (l:B8),(a::b::c::d::e::f'::g::i::x::l).drop 9=l:=fun _ _ _ _ _ _ _ _ _ _=>rfl
   rw[if_pos (show b0 (46::GR (A0 9 (n%1000000000))++r) 0=46 from rfl),List.cons_append,<-List.drop_drop,hd9,hdr,if_neg,QJ (by omega),List.drop_left]
   rintro(e | e)
   ·exact RU (by omega) h0 e
   ·have:=Tw (A0 9 (n%1000000000))
    rw[AU]at this;omega
 ·exact⟨⟨dg1 _,dg1 _⟩,rfl,⟨dg1 _,dg1 _⟩,rfl,⟨dg1 _,dg1 _⟩⟩
theorem Nl (n:Nat):Fc (n/1000000000/3600) (n/1000000000/60%60) (n/1000000000%60) (n%1000000000)=n:=by unfold Fc;omega
theorem O3 {n:Nat} (h:n<=86399999999999):okC (n/1000000000/3600) (n/1000000000/60%60) (n/1000000000%60):=by unfold okC;omega
theorem Wj {z:Int} (h1: -1439<=z) (h2:z<=1439):Mf (HS z)=some (decide (z<0),z.natAbs/60,z.natAbs%60):=by
 have t1:=Ix (z.natAbs/60) (by omega)
 have t2:=Ix (z.natAbs%60) (by omega)
 have dg1:=fun k=>Yr (k%10) (by omega)
 unfold HS
 by_cases h0:z=0
 ·subst h0;decide
 ·rw[if_neg h0]
  generalize z.natAbs/60=hh at*
  generalize z.natAbs%60=mm at*
  simp only[Md,List.cons_append,List.nil_append]
  unfold Mf
  rw[if_neg (by simp),if_pos]
  ·have v1:∀(a b c d e f:UInt8),d2 [a,b,c,d,e,f] 1=(b.toNat-48)*10+(c.toNat-48):=fun _ _ _ _ _ _=>rfl
   have v2:∀(a b c d e f:UInt8),d2 [a,b,c,d,e,f] 4=(e.toNat-48)*10+(f.toNat-48):=fun _ _ _ _ _ _=>rfl
   rw[v1,v2,t1,t2]
   by_cases hz:z<0
   ·rw[if_pos hz,decide_eq_true hz];rfl
   ·rw[if_neg hz,decide_eq_false hz];rfl
  ·refine⟨rfl,?_,⟨dg1 _,dg1 _⟩,rfl,⟨dg1 _,dg1 _⟩⟩
   by_cases hz:z<0
   ·rw[if_pos hz];exact .inr rfl
   ·rw[if_neg hz];exact .inl rfl
theorem ES (y m:Nat):KM y m<=31:=by
 have ite:∀{p:Prop} [Decidable p] {a b:Nat},a<=31->b<=31->(if p then a else b)<=31:=fun h1 h2=>by split<;>assumption
 unfold KM
 exact ite (ite (by omega) (by omega)) (ite (by omega) (by omega))
theorem RT {n y m d:Nat} (h:F5 n y m d):KO n=A0 4 y++45::(A0 2 m++45::A0 2 d):=by unfold KO;rw[WF h]
theorem OQ {n y m d:Nat} (h:F5 n y m d) (r:B8):tmP (KO n++r)=tmD y m d r:=by
 obtain⟨a1,a2,a3,a4,a5,a6,a7⟩:=h
 have hd:d<=31:=Nat.le_trans a6 (ES y m)
 rw[RT ⟨a1,a2,a3,a4,a5,a6,a7⟩]
 have t1:=Ix m (by omega)
 have t2:=Ix d (by omega)
 have dg1:=fun k=>Yr (k%10) (by omega)
 have t3:((((48+y/10/10/10%10).toUInt8.toNat-48)*10+((48+y/10/10%10).toUInt8.toNat-48))*100+(((48+y/10%10).toUInt8.toNat-48)*10+((48+y%10).toUInt8.toNat-48)))=y:=by
  rw[Ew _ (by omega),Ew _ (by omega),Ew _ (by omega),Ew _ (by omega)];omega
 simp only[Md,Wi,List.cons_append,List.nil_append]
 unfold tmP
 rw[if_pos]
 ·have v0:∀(a b c d e f g i j k:UInt8) (l:B8),d2 (a::b::c::d::e::f::g::i::j::k::l) 0=(a.toNat-48)*10+(b.toNat-48):=fun _ _ _ _ _ _ _ _ _ _ _=>rfl
  have v2:∀(a b c d e f g i j k:UInt8) (l:B8),d2 (a::b::c::d::e::f::g::i::j::k::l) 2=(c.toNat-48)*10+(d.toNat-48):=fun _ _ _ _ _ _ _ _ _ _ _=>rfl
  have v5:∀(a b c d e f g i j k:UInt8) (l:B8),d2 (a::b::c::d::e::f::g::i::j::k::l) 5=(f.toNat-48)*10+(g.toNat-48):=fun _ _ _ _ _ _ _ _ _ _ _=>rfl
  have v8:∀(a b c d e f g i j k:UInt8) (l:B8),d2 (a::b::c::d::e::f::g::i::j::k::l) 8=(j.toNat-48)*10+(k.toNat-48):=fun _ _ _ _ _ _ _ _ _ _ _=>rfl
  rw[v0,v2,v5,v8,t1,t2,t3];rfl
 ·exact⟨⟨dg1 _,dg1 _⟩,⟨dg1 _,dg1 _⟩,rfl,⟨dg1 _,dg1 _⟩,rfl,⟨dg1 _,dg1 _⟩⟩
theorem P1 (n:Nat) (r:B8):¬Et (Jv n++r):=by
 unfold Jv
 simp only[Md,List.cons_append,List.nil_append]
 rintro⟨_,⟨h,_⟩,_⟩
 exact absurd h (by show ¬AL 58;decide)
def Ov (n:Nat):Prop:=∃y m d,F5 n y m d
theorem X7:∀(k n:Nat),n<yrS (k+1)->∃y,1<=y/\y<=k/\yrS y<=n/\n<yrS (y+1)
 | 0,n,h=>absurd h (by show ¬n<0;omega)
 | k+1,n,h=>by
  by_cases g:yrS (k+1)<=n
  ·exact⟨k+1,by omega,Nat.le_refl _,g,h⟩
  ·obtain⟨y,h1,h2,h3⟩:=X7 k n (by omega)
   exact⟨y,h1,by omega,h3⟩
theorem VA (y:Nat):∀(k r:Nat),r<D8 y (k+1)->∃m,1<=m/\m<=k/\D8 y m<=r/\r<D8 y (m+1)
 | 0,r,h=>absurd h (by show ¬r<0;omega)
 | k+1,r,h=>by
  by_cases g:D8 y (k+1)<=r
  ·exact⟨k+1,by omega,Nat.le_refl _,g,h⟩
  ·obtain⟨m,h1,h2,h3⟩:=VA y k r (by omega)
   exact⟨m,h1,by omega,h3⟩
theorem Mq {n:Nat} (h:n<=3652058):Ov n:=by
 obtain⟨y,h1,h2,h3,h4⟩:=X7 9999 n (by show n<3652059;omega)
 rw[HB h1]at h4
 obtain⟨m,m1,m2,m3,m4⟩:=VA y 12 (n-yrS y) (by rw[CR y (by omega)];omega)
 rw[CR y m1]at m4
 exact⟨y,m,n-yrS y-D8 y m+1,h1,h2,m1,m2,by omega,by omega,by omega⟩
theorem XJ {z:Int}:(if decide (z<0)=true then-((z.natAbs/60*60+z.natAbs%60:Nat):Int)else((z.natAbs/60*60+z.natAbs%60:Nat):Int))=z:=by
 by_cases h:z<0
 ·rw[if_pos (by simpa using h)];omega
 ·rw[if_neg (by simpa using h)];omega
theorem LN {k td tn tz:Int} (h:BW k td tn tz) (hd:k≠2->Ov td.toNat):tmP (FS k td tn tz)=(k,td,tn,tz,0):=by
 obtain⟨h1,h2,h3,h4,h5,h6,h7,h8,h9,h10,h11⟩:=h
 have etn:((tn.toNat:Nat):Int)=tn:=by omega
 have etd:((td.toNat:Nat):Int)=td:=by omega
 have clk:=fun r hr hr2=>WJ (n:=tn.toNat) (r:=r) (by omega) hr hr2
 unfold FS
 by_cases k1:k=1
 ·obtain⟨y,m,d,hD⟩:=hd (by omega)
  have:=OQ hD []
  rw[List.append_nil]at this
  rw[if_pos k1,this]
  obtain⟨a1,a2,a3,a4,a5,a6,a7⟩:=hD
  unfold tmD
  rw[if_pos rfl,if_pos ⟨a1,a2,a3,a4,a5,a6⟩,show Ju y m d=td.toNat from a7.symm,etd,h10 k1,h11 (by omega),k1]
 ·rw[if_neg k1]
  by_cases k2:k=2
  ·have hc:=clk [] (by simpa [b0]using nd0) (by simp[b0])
   have hn:=P1 tn.toNat []
   rw[List.append_nil]at hc hn
   rw[if_pos k2]
   unfold tmP
   rw[if_neg hn,hc]
   dsimp only
   rw[if_pos rfl,if_pos (O3 (by omega)),Nl,etn,h9 k2,h11 (by omega),k2]
  ·rw[if_neg k2]
   obtain⟨y,m,d,hD⟩:=hd k2
   have hD0:=hD
   obtain⟨a1,a2,a3,a4,a5,a6,a7⟩:=hD
   have a7':Ju y m d=td.toNat:=a7.symm
   by_cases k3:k=3
   ·have hc:=clk [] (by simpa [b0]using nd0) (by simp[b0])
    rw[List.append_nil]at hc
    rw[if_pos k3,OQ hD0]
    unfold tmD
    rw[if_neg (by simp),if_pos (.inl rfl),List.drop_succ_cons,List.drop_zero,hc]
    dsimp only
    unfold tmO
    rw[if_pos rfl,if_pos ⟨⟨a1,a2,a3,a4,a5,a6⟩,O3 (by omega)⟩,Nl,etn,a7',etd,h11 (by omega),k3]
   ·have o1:AL (b0 (HS tz) 0)->False:=by
     unfold HS;split
     ·exact(by decide:¬AL 90)
     ·split
      ·exact(by decide:¬AL 45)
      ·exact(by decide:¬AL 43)
    have o2:b0 (HS tz) 0≠46:=by
     unfold HS;split
     ·exact(by decide:(90:UInt8)≠46)
     ·split
      ·exact(by decide:(45:UInt8)≠46)
      ·exact(by decide:(43:UInt8)≠46)
    have o3:HS tz≠ []:=by unfold HS;split<;>simp
    have hc:=clk (HS tz) o1 o2
    rw[if_neg k3,OQ hD0]
    unfold tmD
    rw[if_neg (by simp),if_pos (.inl rfl),List.drop_succ_cons,List.drop_zero,hc]
    dsimp only
    unfold tmO
    rw[if_neg o3,Wj h7 h8]
    dsimp only
    rw[if_pos ⟨⟨a1,a2,a3,a4,a5,a6⟩,O3 (by omega),by omega,by omega⟩,Nl,etn,a7',etd,XJ,show k=4 by omega]
theorem Kj:∀(l:B8),(∀c,c∈l->AL c)->BJ l<10^l.length
 | [],_=>by decide
 | c::l,h=>by
  have ih:=Kj l fun x hx=>h x (.tail _ hx)
  have hc:=(h c (.head _)).2
  unfold BJ at ih⊢
  rw[show F9 0 (c::l)=F9 (c.toNat-48) l by simp[F9],LH,List.length_cons,Nat.pow_succ]
  have:(c.toNat-48)*10^l.length<=9*10^l.length:=Nat.mul_le_mul_right _ (by omega)
  omega
theorem valN_ge {c:UInt8} {l:B8} (hc:AL c) (h0:c≠48):10^l.length<=BJ (c::l):=by
 unfold BJ
 rw[show F9 0 (c::l)=F9 (c.toNat-48) l by simp[F9],LH]
 have h1:=hc.1
 have h2:c.toNat≠48:=fun e=>h0 (UInt8.toNat_inj.1 (by simpa using e))
 have:1*10^l.length<=(c.toNat-48)*10^l.length:=Nat.mul_le_mul_right _ (by omega)
 omega
theorem Gu:∀l:B8,BJ (AY l)=BJ l
 | []=>rfl
 | c::l=>by
  by_cases h:c=48
  ·subst h
   have:=IB 1 l
   rw[show List.replicate 1 (48:UInt8)++l=48::l from rfl]at this
   rw[this,Gu l]
   unfold BJ
   rw[show F9 0 (48::l)=F9 0 l by simp[F9]]
  ·rw[G2 h]
theorem IA (l:B8):∀c,c∈AY l->c∈l:=fun c h=>(List.dropWhile_sublist (l:=l) (fun x:UInt8=>x==48)).subset h
theorem Fj (l:B8):(AY l).length<=l.length:=(List.dropWhile_sublist (l:=l) (fun x:UInt8=>x==48)).length_le
theorem JV (l:B8):(AY l).getD 0 0≠48:=by
 induction l with
 | nil=>decide
 | cons c l ih=>
  by_cases h:c=48
  ·subst h
   have:=IB 1 l
   rw[show List.replicate 1 (48:UInt8)++l=48::l from rfl]at this
   rw[this];exact ih
  ·rw[G2 h];exact h
theorem Sp {l:B8} {k:Nat} (h:∀c,c∈l->AL c) (hk:k<(AY l).length):10^k<=BJ l:=by
 rw[<-Gu l]
 have h0:=JV l
 have hs:=IA l
 generalize AY l=m at*
 cases m with
 | nil=>exact absurd hk (Nat.not_lt_zero _)
 | cons c m=>
  have:=valN_ge (l:=m) (h c (hs c (.head _))) h0
  rw[List.length_cons]at hk
  exact Nat.le_trans (Nat.pow_le_pow_right (by decide) (by omega)) this
theorem Qf {l:B8} {k:Nat} (h:∀c,c∈l->AL c) (hk:(AY l).length<=k):BJ l<10^k:=by
 rw[<-Gu l]
 exact Nat.lt_of_lt_of_le (Kj _ fun c hc=>h c (IA l c hc)) (Nat.pow_le_pow_right (by decide) hk)
theorem VN {neg:Bool} {s:B8} {ex n m:Int} (hl:s.length<=100000000) (h1: -100000000<=ex) (h2:ex<=100000000) (hn:1000000000<=n) (hm:1000000000<=m) (less:Bool):
  dcN neg s (if less then ex-n else ex+n)=dcN neg s (if less then ex-m else ex+m):=by
 unfold dcN
 have hz:=Ox s
 by_cases h:s=[]
 ·rw[if_pos h,if_pos h]
 ·rw[if_neg h,if_neg h]
  cases less with
  | true=>
   simp only[if_true]
   rw[if_pos (by omega),if_pos (by omega)]
  | false=>
   simp only[Bool.false_eq_true,if_false]
   rw[if_pos (by omega),if_pos (by omega)]
theorem VM (neg:Bool) (s:B8) (ex:Int):(dcN neg s ex).2.1.length<=s.length:=by
 unfold dcN
 split
 ·simp
 split
 ·simp
 ·show(s.take _).length<=_
  rw[List.length_take];omega
theorem RP (neg:Bool) (all:B8) (ex:Int) (less:Bool) (r:B8):(dcX neg all ex less r).2.1.length<=all.length:=by
 unfold dcX
 split
 ·simp[K3]
 ·exact Nat.le_trans (VM _ _ _) (Fj all)
theorem VO (neg:Bool) (all:B8) (ex:Int) (r:B8):(dcE neg all ex r).2.1.length<=all.length:=by
 unfold dcE
 split
 ·exact Nat.le_trans (VM _ _ _) (Fj all)
 split
 ·split
  ·exact RP _ _ _ _ _
  split
  ·exact RP _ _ _ _ _
  ·exact RP _ _ _ _ _
 ·simp[K3]
theorem dcF_len (neg:Bool) (a r:B8):(dcF neg a r).2.1.length<=a.length+r.length:=by
 unfold dcF
 split
 ·split
  ·simp[K3]
  ·refine Nat.le_trans (VO _ _ _ _) ?_
   rw[List.length_append]
   have:=EL (r.drop 1)
   rw[List.length_drop]at this
   omega
 ·exact Nat.le_trans (VO _ _ _ _) (Nat.le_add_right _ _)
theorem VK (neg:Bool) (s:B8):(dcQ neg s).2.1.length<=s.length:=by
 unfold dcQ
 split
 ·simp[K3]
 ·refine Nat.le_trans (dcF_len _ _ _) ?_
  have:=EL s
  rw[List.length_drop];omega
theorem VL (s:B8):(dcP s).2.1.length<=s.length:=by
 unfold dcP
 split
 ·refine Nat.le_trans (VK _ _) ?_
  rw[List.length_drop];omega
 ·exact VK _ _
def Ek:B8:=[65,66,67,68,69,70,71,72,73,74,75,76,77,78,79,80,81,82,83,84,85,86,87,88,89,90,97,98,99,100,101,102,103,104,105,106,107,108,109,110,111,112,113,114,115,116,117,118,119,120,121,122,48,49,50,51,52,53,54,55,56,57,43,47]
def fnd:B8->UInt8->Int
 | [],_=> -1
 | a::al,c=>if a=c then 0 else if fnd al c<0 then-1 else fnd al c+1
theorem fnd_lt (al:B8) (c:UInt8):fnd al c<al.length:=by
 induction al with
 | nil=>simp[fnd]
 | cons a al ih=>simp only[fnd,List.length_cons];split<;>(try split)<;>omega
theorem UI:∀(al:B8) (c:UInt8) (i:Nat),i<al.length->al.getD i 0=c->(∀j,j<i->al.getD j 0≠c)->fnd al c=i
 | [],c,i,h,_,_=>absurd h (Nat.not_lt_zero _)
 | a::al,c,0,_,h1,_=>by
  have h1':a=c:=by simpa [List.getD]using h1
  simp[fnd,h1']
 | a::al,c,i+1,h,h1,h2=>by
  have ha:a≠c:=by simpa [List.getD]using h2 0 (by omega)
  have:=UI al c i (by simpa using h) (by simpa [List.getD]using h1) (fun j hj=>by simpa [List.getD]using h2 (j+1) (by omega))
  simp only[fnd,if_neg ha,this]
  rw[if_neg (by omega)];omega
theorem UH:∀(al:B8) (c:UInt8),(∀j,j<al.length->al.getD j 0≠c)->fnd al c= -1
 | [],c,_=>rfl
 | a::al,c,h=>by
  have ha:a≠c:=by simpa [List.getD]using h 0 (by simp)
  have:=UH al c (fun j hj=>by simpa [List.getD]using h (j+1) (by simpa using hj))
  simp[fnd,if_neg ha,this]
def wB (d:B8):Nat->Nat
 | 0=>0
 | k+1=>wB d k*256+(d.getD k 0).toNat
theorem W_lt (d:B8):∀k,wB d k<256^k
 | 0=>by simp[wB]
 | k+1=>by
  have h1:=W_lt d k
  have h2:=Lp (d.getD k 0)
  rw[wB,Nat.pow_succ];omega
def Nr (d:B8) (pad:Bool) (k:Nat):B8:=
 if k<=min 3 d.length then [Ek.getD (wB d 3/2^(18-6*k)%64) 0]else if pad=true then [61]else []
def grp (d:B8) (pad:Bool) (k:Nat):B8:=(List.range k).flatMap (Nr d pad)
theorem Mt (d:B8) (pad:Bool) (k:Nat):grp d pad (k+1)=grp d pad k++Nr d pad k:=by
 simp[grp,List.range_succ]
theorem grpk_le (d:B8) (pad:Bool) (k:Nat):(Nr d pad k).length<=1:=by
 unfold Nr;split<;>(try split)<;>simp
theorem X9 (d:B8) (pad:Bool):∀k,(grp d pad k).length<=k
 | 0=>by simp[grp]
 | k+1=>by
  rw[Mt,List.length_append]
  have:=X9 d pad k
  have:=grpk_le d pad k
  omega
def Ob (pad:Bool):B8->B8
 | []=>[]
 | a::r=>grp (a::r) pad 4++Ob pad ((a::r).drop 3)
termination_by l=>l.length
decreasing_by simp;omega
theorem Pr (pad:Bool):Ob pad []=[]:=by rw[Ob]
theorem QP (pad:Bool) (d:B8) (h:0<d.length):Ob pad d=grp d pad 4++Ob pad (d.drop 3):=by
 cases d with
 | nil=>simp at h
 | cons a r=>rw[Ob]
def Dk (l:B8) (i:Nat):Nat:=(l.getD (i/8) 0).toNat/2^(7-i%8)%2
def bdg (l:B8) (i:Nat):Nat->Nat
 | 0=>0
 | m+1=>bdg l i m*2+Dk l (i+m)
theorem Tr (l:B8) (i:Nat):∀m,bdg l i m<2^m
 | 0=>by simp[bdg]
 | m+1=>by
  have:=Tr l i m
  have h2:Dk l (i+m)<2:=Nat.mod_lt _ (by decide)
  rw[bdg,Nat.pow_succ];omega
def ltr (l:B8) (j:Nat):UInt8:=Ek.getD (bdg l (6*j) 6) 0
def Ce (l:B8) (n:Nat):B8:=(List.range n).map (ltr l)
def A4 (len:Nat):Nat:=(8*len+5)/6
def Bt (pad:Bool) (l:B8):B8:=Ce l (A4 l.length)++(if pad=true then List.replicate ((4-A4 l.length%4)%4) 61 else [])
theorem WQ (l:B8) (i:Nat):Dk (l.drop 3) i=Dk l (24+i):=by
 unfold Dk
 rw[show(24+i)/8=3+i/8 by omega,show(24+i)%8=i%8 by omega]
 simp[List.getD]
theorem VF (l:B8) (i:Nat):∀m,bdg (l.drop 3) i m=bdg l (24+i) m
 | 0=>rfl
 | m+1=>by rw[bdg,bdg,VF l i m,WQ,Nat.add_assoc]
theorem XR (l:B8) (j:Nat):ltr (l.drop 3) j=ltr l (4+j):=by
 rw[ltr,ltr,VF,show 24+6*j=6*(4+j) by omega]
theorem Wz (l:B8) (n:Nat):Ce l (4+n)=Ce l 4++Ce (l.drop 3) n:=by
 unfold Ce
 rw[List.range_add,List.map_append,List.map_map]
 congr 1
 exact List.map_congr_left fun j _=>(XR l j).symm
theorem W3 (d:B8):wB d 3=((d.getD 0 0).toNat*256+(d.getD 1 0).toNat)*256+(d.getD 2 0).toNat:=by
 simp[wB]
theorem dg6 (l:B8) (i:Nat):bdg l i 6=((((Dk l i*2+Dk l (i+1))*2+Dk l (i+2))*2+Dk l (i+3))*2+Dk l (i+4))*2+Dk l (i+5):=by
 simp[bdg]
theorem six (x s:Nat):x/2^s%64=((((x/2^(s+5)%2*2+x/2^(s+4)%2)*2+x/2^(s+3)%2)*2+x/2^(s+2)%2)*2+x/2^(s+1)%2)*2+x/2^s%2:=by
 rw[Nat.pow_add,Nat.pow_add,Nat.pow_add,Nat.pow_add,Nat.pow_add,<-Nat.div_div_eq_div_mul,<-Nat.div_div_eq_div_mul,<-Nat.div_div_eq_div_mul,<-Nat.div_div_eq_div_mul,<-Nat.div_div_eq_div_mul]
 generalize x/2^s=y
 simp only[Nat.reducePow]
 omega
theorem WO (d:B8) (j:Nat) (h:j<24):wB d 3/2^(23-j)%2=Dk d j:=by
 have ha:=Lp (d.getD 0 0)
 have hb:=Lp (d.getD 1 0)
 have hc:=Lp (d.getD 2 0)
 have hw:wB d 3=2^16*(d.getD 0 0).toNat+(2^8*(d.getD 1 0).toNat+(d.getD 2 0).toNat):=by rw[W3];omega
 unfold Dk
 rw[hw,<-Nat.toNat_testBit,<-Nat.toNat_testBit,Nat.testBit_two_pow_mul_add _ (by omega)]
 by_cases h1:j<8
 ·rw[if_neg (by omega),show j/8=0 by omega,show 23-j-16=7-j%8 by omega]
 ·rw[if_pos (by omega),Nat.testBit_two_pow_mul_add _ (by omega)]
  by_cases h2:j<16
  ·rw[if_neg (by omega),show j/8=1 by omega,show 23-j-8=7-j%8 by omega]
  ·rw[if_pos (by omega),show j/8=2 by omega,show 23-j=7-j%8 by omega]
theorem WX (d:B8) (k:Nat) (h:k<4):wB d 3/2^(18-6*k)%64=bdg d (6*k) 6:=by
 rw[six,dg6,<-WO d _ (by omega),<-WO d _ (by omega),<-WO d _ (by omega),<-WO d _ (by omega),<-WO d _ (by omega),<-WO d _ (by omega)]
 rw[show 18-6*k+5=23-6*k by omega,show 18-6*k+4=23-(6*k+1) by omega,show 18-6*k+3=23-(6*k+2) by omega,show 18-6*k+2=23-(6*k+3) by omega,show 18-6*k+1=23-(6*k+4) by omega,show 23-(6*k+5)=18-6*k by omega]
theorem Ms (d:B8) (pad:Bool) (k:Nat) (h:k<4):Nr d pad k=if k<=min 3 d.length then [ltr d k]else if pad=true then [61]else []:=by
 rw[Nr,WX d k h];rfl
theorem grp4 (d:B8) (pad:Bool):grp d pad 4=Nr d pad 0++(Nr d pad 1++(Nr d pad 2++Nr d pad 3)):=by
 simp[grp,List.range_succ]
theorem Wy (d:B8):Ce d 4=[ltr d 0,ltr d 1,ltr d 2,ltr d 3]:=by simp[Ce,List.range_succ]
theorem Ym (pad:Bool):∀(n:Nat) (l:B8),l.length<=n->Ob pad l=Bt pad l
 | 0,l,h=>by
  have:l=[]:=List.eq_nil_of_length_eq_zero (by omega)
  subst this
  rw[Pr]
  cases pad<;>simp[Bt,Ce,A4]
 | n+1,l,h=>by
  by_cases h0:0<l.length
  ·rw[QP pad l h0,Ym pad n _ (by simp;omega),grp4]
   rw[Ms l pad 0 (by decide),Ms l pad 1 (by decide),Ms l pad 2 (by decide),Ms l pad 3 (by decide)]
   by_cases h3:3<=l.length
   ·rw[if_pos (by omega),if_pos (by omega),if_pos (by omega),if_pos (by omega)]
    unfold Bt
    have hn:A4 l.length=4+A4 (l.drop 3).length:=by unfold A4;simp;omega
    rw[hn,Wz,Wy,show(4+A4 (l.drop 3).length)%4=A4 (l.drop 3).length%4 by omega]
    simp
   ·have hd:l.drop 3=[]:=List.drop_of_length_le (by omega)
    have he:Bt pad []=[]:=by cases pad<;>simp[Bt,Ce,A4]
    rw[hd,he]
    rcases (by omega:l.length=1∨l.length=2)with h1 | h1
    ·unfold Bt
     rw[h1]
     cases pad<;>simp[A4,Ce,List.range_succ,List.replicate]
    ·unfold Bt
     rw[h1]
     cases pad<;>simp[A4,Ce,List.range_succ,List.replicate]
  ·have:l=[]:=List.eq_nil_of_length_eq_zero (by omega)
   subst this
   rw[Pr]
   cases pad<;>simp[Bt,Ce,A4]
section
def v64 (c:UInt8):Nat:=(fnd Ek c).toNat
theorem Q3 (n:Nat) (h:n<256):IntKind.wrap .u8 (n:Int)=n:=EN _ (by omega) (by omega)
theorem W7 (c:UInt8):fnd Ek c<64:=fnd_lt Ek c
theorem Of (c:UInt8):v64 c<64:=by have:=W7 c;unfold v64;omega
def DS (s:B8):Nat->B8×Nat×Nat
 | 0=>([],0,0)
 | n+1=>
  if 8<=(DS s n).2.2+6 then((DS s n).1++[UInt8.ofNat (((DS s n).2.1*64+v64 (s.getD n 0))/2^((DS s n).2.2-2))],((DS s n).2.1*64+v64 (s.getD n 0))%2^((DS s n).2.2-2),(DS s n).2.2-2)
  else((DS s n).1,(DS s n).2.1*64+v64 (s.getD n 0),(DS s n).2.2+6)
theorem YW (s:B8):∀n,(DS s n).2.1<2^(DS s n).2.2/\(DS s n).2.2<8/\(DS s n).1.length<=n
 | 0=>by simp[DS]
 | n+1=>by
  obtain⟨h1,h2,h3⟩:=YW s n
  have hv:=Of (s.getD n 0)
  unfold DS
  split
  ·refine⟨Nat.mod_lt _ (Nat.two_pow_pos _),by dsimp only;omega,by simp;omega⟩
  ·refine⟨?_,by dsimp only;omega,by dsimp only;omega⟩
   show(DS s n).2.1*64+v64 (s.getD n 0)<2^((DS s n).2.2+6)
   rw[Nat.pow_add];omega
def fin (k eq w:Nat) (pad:Bool) (o:B8):B8×Int:=
 if k%4=0/\eq=0 then(o,0)
 else if 0<eq/\(k%4<2∨4-k%4<eq∨w≠0)then([],3)
 else if k%4=1∨w≠0∨(pad=true/\eq<4-k%4)then([],4)
 else(o,0)
def K4 (s:B8) (k:Nat) (pad:Bool):Prop:=∀j,k<=j->j<s.length->s.getD j 0=61/\pad=true
open Classical in
noncomputable def Cf (s:B8) (k:Nat) (pad:Bool):B8×Int:=
 if K4 s k pad then fin k (s.length-k) (DS s k).2.1 pad (DS s k).1 else([],3)
def isD (c:UInt8):Bool:=decide (0<=fnd Ek c)
def Bh (s:B8):Nat:=(s.takeWhile isD).length
theorem Kq:∀(s:B8) (k:Nat),k<=s.length->(∀j,j<k->0<=fnd Ek (s.getD j 0))->(k=s.length∨¬0<=fnd Ek (s.getD k 0))->Bh s=k
 | [],k,h,_,_=>by simp at h;subst h;rfl
 | a::s,0,_,_,h=>by
  have:¬0<=fnd Ek a:=by simpa [List.getD]using h
  simp[Bh,isD,List.takeWhile,this]
 | a::s,k+1,h1,h2,h3=>by
  have ha:0<=fnd Ek a:=by simpa [List.getD]using h2 0 (by omega)
  have:=Kq s k (by simpa using h1) (fun j hj=>by simpa [List.getD]using h2 (j+1) (by omega)) (by simpa [List.getD]using h3)
  simp only[Bh]at this⊢
  simp[isD,List.takeWhile,ha]
  exact this
def bn (f:Nat->Nat) (i:Nat):Nat->Nat
 | 0=>0
 | m+1=>bn f i m*2+f (i+m)
theorem Nz (f:Nat->Nat) (i a:Nat):∀b,bn f i (a+b)=bn f i a*2^b+bn f (i+a) b
 | 0=>by simp[bn]
 | b+1=>by
  rw[<-Nat.add_assoc,bn,Nz f i a b,bn,Nat.pow_succ,Nat.add_assoc i a b]
  rw[Nat.add_mul,Nat.mul_assoc];omega
theorem NV (f:Nat->Nat) (hf:∀i,f i<2) (i:Nat):∀m,bn f i m<2^m
 | 0=>by simp[bn]
 | m+1=>by
  have:=NV f hf i m
  have:=hf (i+m)
  rw[bn,Nat.pow_succ];omega
theorem E5 (f g:Nat->Nat) (i:Nat):∀m,(∀j,i<=j->j<i+m->f j=g j)->bn f i m=bn g i m
 | 0,_=>rfl
 | m+1,h=>by rw[bn,bn,E5 f g i m (fun j h1 h2=>h j h1 (by omega)),h (i+m) (by omega) (by omega)]
theorem VG (l:B8) (i:Nat):∀m,bdg l i m=bn (Dk l) i m
 | 0=>rfl
 | m+1=>by rw[bdg,bn,VG l i m]
def BM (s:B8) (i:Nat):Nat:=v64 (s.getD (i/6) 0)/2^(5-i%6)%2
theorem IX (s:B8) (i:Nat):BM s i<2:=Nat.mod_lt _ (by decide)
theorem bitL_lt (s:B8) (i:Nat):Dk s i<2:=Nat.mod_lt _ (by decide)
theorem PF (s:B8) (j:Nat):bn (BM s) (6*j) 6=v64 (s.getD j 0):=by
 have h:=Of (s.getD j 0)
 simp only[bn,BM,show 6*j/6=j by omega,show 6*j%6=0 by omega,show(6*j+0)/6=j by omega,show(6*j+0)%6=0 by omega,show(6*j+1)/6=j by omega,show(6*j+1)%6=1 by omega,show(6*j+2)/6=j by omega,show(6*j+2)%6=2 by omega,show(6*j+3)/6=j by omega,show(6*j+3)%6=3 by omega,show(6*j+4)/6=j by omega,show(6*j+4)%6=4 by omega,show(6*j+5)/6=j by omega,show(6*j+5)%6=5 by omega]
 generalize v64 (s.getD j 0)=v at*
 simp only[Nat.reduceSub,Nat.reducePow,Nat.zero_mul,Nat.zero_add]
 omega
theorem bn_byte (l:B8) (q:Nat):bn (Dk l) (8*q) 8=(l.getD q 0).toNat:=by
 have h:=Lp (l.getD q 0)
 simp only[bn,Dk,show(8*q+0)/8=q by omega,show(8*q+0)%8=0 by omega,show(8*q+1)/8=q by omega,show(8*q+1)%8=1 by omega,show(8*q+2)/8=q by omega,show(8*q+2)%8=2 by omega,show(8*q+3)/8=q by omega,show(8*q+3)%8=3 by omega,show(8*q+4)/8=q by omega,show(8*q+4)%8=4 by omega,show(8*q+5)/8=q by omega,show(8*q+5)%8=5 by omega,show(8*q+6)/8=q by omega,show(8*q+6)%8=6 by omega,show(8*q+7)/8=q by omega,show(8*q+7)%8=7 by omega]
 generalize (l.getD q 0).toNat=v at*
 simp only[Nat.reduceSub,Nat.reducePow,Nat.zero_mul,Nat.zero_add]
 omega
def bys (f:Nat->Nat) (n:Nat):B8:=(List.range n).map fun q=>UInt8.ofNat (bn f (8*q) 8)
theorem YI (f:Nat->Nat) (n:Nat):bys f (n+1)=bys f n++[UInt8.ofNat (bn f (8*n) 8)]:=by simp[bys,List.range_succ]
theorem Hh (f:Nat->Nat) (n:Nat):(bys f n).length=n:=by simp[bys]
theorem IZ (s:B8):∀n,DS s n=(bys (BM s) (6*n/8),bn (BM s) (8*(6*n/8)) (6*n%8),6*n%8)
 | 0=>rfl
 | n+1=>by
  have ih:=IZ s n
  have hX:bn (BM s) (8*(6*n/8)) (6*n%8)*64+v64 (s.getD n 0)=bn (BM s) (8*(6*n/8)) (6*n%8+6):=by
   rw[Nz,<-PF s n,show 8*(6*n/8)+6*n%8=6*n by omega]
  unfold DS
  rw[ih]
  dsimp only
  rw[hX]
  by_cases h8:8<=6*n%8+6
  ·rw[if_pos h8]
   have hsplit:bn (BM s) (8*(6*n/8)) (6*n%8+6)=bn (BM s) (8*(6*n/8)) 8*2^(6*n%8-2)+bn (BM s) (8*(6*n/8)+8) (6*n%8-2):=by
    rw[<-Nz,show 8+(6*n%8-2)=6*n%8+6 by omega]
   have hlt:=NV (BM s) (IX s) (8*(6*n/8)+8) (6*n%8-2)
   rw[hsplit,show 6*(n+1)/8=6*n/8+1 by omega,show 6*(n+1)%8=6*n%8-2 by omega,YI,show 8*(6*n/8+1)=8*(6*n/8)+8 by omega]
   rw[Nat.mul_comm (bn (BM s) (8*(6*n/8)) 8),Nat.mul_add_div (Nat.two_pow_pos _),Nat.div_eq_of_lt hlt,Nat.add_zero,Nat.mul_add_mod,Nat.mod_eq_of_lt hlt]
  ·rw[if_neg h8,show 6*(n+1)/8=6*n/8 by omega,show 6*(n+1)%8=6*n%8+6 by omega]
theorem fnd64:∀n,n<64->fnd Ek (Ek.getD n 0)=(n:Int):=by decide+kernel
theorem fnd61:fnd Ek 61= -1:=by decide+kernel
theorem bn_bit (f:Nat->Nat) (hf:∀i,f i<2) (i j:Nat) (h:j<6):bn f i 6/2^(5-j)%2=f (i+j):=by
 have h0:=hf (i+0)
 have h1:=hf (i+1)
 have h2:=hf (i+2)
 have h3:=hf (i+3)
 have h4:=hf (i+4)
 have h5:=hf (i+5)
 simp only[bn,Nat.zero_mul,Nat.zero_add]
 rcases (by omega:j=0∨j=1∨j=2∨j=3∨j=4∨j=5)with rfl | rfl | rfl | rfl | rfl | rfl
 all_goals
  simp only[Nat.reduceSub,Nat.reducePow]
  generalize f (i+0)=a0 at*
  generalize f (i+1)=a1 at*
  generalize f (i+2)=a2 at*
  generalize f (i+3)=a3 at*
  generalize f (i+4)=a4 at*
  generalize f (i+5)=a5 at*
  omega
theorem MC (l t:B8) (n j:Nat) (h:j<n):(Ce l n++t).getD j 0=ltr l j:=by
 simp[List.getD,Ce,List.getElem?_append,h]
theorem Oe (l:B8) (j:Nat):fnd Ek (ltr l j)=(bdg l (6*j) 6:Nat):=fnd64 _ (Tr l (6*j) 6)
theorem H3 (l t:B8) (n i:Nat) (h:i<6*n):BM (Ce l n++t) i=Dk l i:=by
 rw[BM,MC l t n _ (by omega),v64,Oe]
 show bdg l (6*(i/6)) 6/_%2=_
 rw[VG,bn_bit _ (bitL_lt l) _ _ (Nat.mod_lt _ (by decide)),show 6*(i/6)+i%6=i by omega]
theorem PD (l:B8):bys (Dk l) l.length=l:=by
 apply List.ext_getElem
 ·simp[bys]
 ·intro i h1 h2
  simp only[bys,List.getElem_map,List.getElem_range,bn_byte]
  simp[List.getD,h2]
theorem MN (l:B8) (i:Nat) (h:8*l.length<=i):Dk l i=0:=by
 have:l.getD (i/8) 0=0:=by
  simp only[List.getD]
  rw[List.getElem?_eq_none (by omega)];rfl
 rw[Dk,this]
 show 0/_%2=0
 simp
theorem Kx (f:Nat->Nat) (i:Nat):∀m,(∀j,i<=j->f j=0)->bn f i m=0
 | 0,_=>rfl
 | m+1,h=>by rw[bn,Kx f i m h,h (i+m) (by omega)]
theorem H2 (f g:Nat->Nat) (n:Nat) (h:∀j,j<8*n->f j=g j):bys f n=bys g n:=by
 unfold bys
 refine List.map_congr_left fun q hq=>?_
 have:q<n:=by simpa using hq
 rw[E5 f g (8*q) 8 (fun j h1 h2=>h j (by omega))]
def DJ (pad:Bool) (n:Nat):B8:=if pad=true then List.replicate ((4-n%4)%4) 61 else []
theorem Fx (pad:Bool) (l:B8):Bt pad l=Ce l (A4 l.length)++DJ pad (A4 l.length):=rfl
theorem CU (l:B8) (n:Nat):(Ce l n).length=n:=by simp[Ce]
theorem EA (pad:Bool) (n:Nat):(DJ pad n).length=if pad=true then(4-n%4)%4 else 0:=by
 unfold DJ;split<;>simp
theorem J4 (pad:Bool) (n j:Nat) (h:j<(DJ pad n).length):(DJ pad n).getD j 0=61/\pad=true:=by
 rw[EA]at h
 split at h
 ·rename_i hp
  rw[DJ,if_pos hp]
  exact⟨by simp[List.getD,h],hp⟩
 ·exact absurd h (Nat.not_lt_zero _)
theorem Wo (pad:Bool) (l:B8):Bh (Bt pad l)=A4 l.length:=by
 rw[Fx]
 refine Kq _ _ (by rw[List.length_append,CU];omega) (fun j hj=>?_) ?_
 ·rw[MC l _ _ j hj,Oe];omega
 ·by_cases h:(DJ pad (A4 l.length)).length=0
  ·left;rw[List.length_append,CU,h];omega
  ·right
   have hg:=J4 pad (A4 l.length) 0 (by omega)
   have:(Ce l (A4 l.length)++DJ pad (A4 l.length)).getD (A4 l.length) 0=(DJ pad (A4 l.length)).getD 0 0:=by
    simp only[List.getD]
    rw[List.getElem?_append_right (by rw[CU];omega),CU,Nat.sub_self]
   rw[this,hg.1,fnd61];omega
theorem MD (pad:Bool) (l:B8):Cf (Bt pad l) (Bh (Bt pad l)) pad=(l,0):=by
 rw[Wo]
 have hlen:(Bt pad l).length=A4 l.length+(if pad=true then(4-A4 l.length%4)%4 else 0):=by
  rw[Fx,List.length_append,CU,EA]
 have hall:K4 (Bt pad l) (A4 l.length) pad:=fun j h1 h2=>by
  have h3:(Bt pad l).getD j 0=(DJ pad (A4 l.length)).getD (j-A4 l.length) 0:=by
   rw[Fx]
   simp only[List.getD]
   rw[List.getElem?_append_right (by rw[CU];omega),CU]
  rw[h3]
  exact J4 _ _ _ (by rw[EA];omega)
 rw[Cf,if_pos hall,IZ]
 have hq:6*A4 l.length/8=l.length:=by unfold A4;omega
 have h1:bys (BM (Bt pad l)) l.length=l:=by
  rw[H2 _ (Dk l) _ (fun j hj=>by rw[Fx];exact H3 l _ _ j (by unfold A4;omega)),PD]
 have h2:bn (BM (Bt pad l)) (8*l.length) (6*A4 l.length%8)=0:=by
  rw[E5 _ (Dk l) _ _ (fun j hj hj2=>by rw[Fx];exact H3 l _ _ j (by omega))]
  exact Kx _ _ _ fun j hj=>MN l j hj
 rw[hq]
 dsimp only
 rw[h1,h2,hlen]
 have hr:A4 l.length%4≠1:=by unfold A4;omega
 generalize A4 l.length=n at*
 unfold fin
 cases pad
 ·simp only[Bool.false_eq_true,if_false,false_and,or_false]
  rw[show n+0-n=0 by omega]
  (repeat' split)<;>first | rfl | (exfalso;omega)
 ·simp only[if_true,true_and]
  rw[show n+(4-n%4)%4-n=(4-n%4)%4 by omega]
  (repeat' split)<;>first | rfl | (exfalso;omega)
theorem YH (l:B8) (m:Nat) (h:m<=l.length):bys (Dk l) m=l.take m:=by
 have:bys (Dk l) m=(bys (Dk l) l.length).take m:=by
  unfold bys
  rw[<-List.map_take,List.take_range,Nat.min_eq_left h]
 rw[this,PD]
theorem dec_cut (pad:Bool) (l:B8) (c:Nat) (hc:c<=(Bt pad l).length):
  ∃m,(Cf ((Bt pad l).take c) (Bh ((Bt pad l).take c)) pad).1=l.take m/\((Cf ((Bt pad l).take c) (Bh ((Bt pad l).take c)) pad).2=0∨(Cf ((Bt pad l).take c) (Bh ((Bt pad l).take c)) pad).2=4):=by
 have hlen:(Bt pad l).length=A4 l.length+(DJ pad (A4 l.length)).length:=by rw[Fx,List.length_append,CU]
 by_cases h:c<=A4 l.length
 ·have hs:(Bt pad l).take c=Ce l c++[]:=by
   rw[Fx,List.take_append_of_le_length (by rw[CU];exact h),List.append_nil]
   unfold Ce
   rw[<-List.map_take,List.take_range,Nat.min_eq_left h]
  rw[hs]
  have hsl:(Ce l c++[]).length=c:=by simp[Ce]
  have hld:Bh (Ce l c++[])=c:=Kq _ _ (by omega) (fun j hj=>by rw[MC l _ _ j hj,Oe];omega) (.inl (by omega))
  have hall:K4 (Ce l c++[]) c pad:=fun j h1 h2=>absurd h2 (by omega)
  rw[hld,Cf,if_pos hall,IZ,hsl]
  have hb:bys (BM (Ce l c++[])) (6*c/8)=l.take (6*c/8):=by
   rw[H2 _ (Dk l) _ (fun j hj=>H3 l _ _ j (by omega)),YH _ _ (by unfold A4 at h;omega)]
  dsimp only
  rw[hb]
  unfold fin
  split
  ·exact⟨_,rfl,.inl rfl⟩
  ·rw[if_neg (by omega)]
   split
   ·exact⟨0,by simp,.inr rfl⟩
   ·exact⟨_,rfl,.inl rfl⟩
 ·have hpl:=EA pad (A4 l.length)
  have hp:pad=true:=by
   cases pad with
   | true=>rfl
   | false=>rw[if_neg (by decide)]at hpl;omega
  subst hp
  simp only[if_true]at hpl
  have hs:(Bt true l).take c=Ce l (A4 l.length)++(DJ true (A4 l.length)).take (c-A4 l.length):=by
   rw[Fx,List.take_append,CU,List.take_of_length_le (by rw[CU];omega)]
  have hsl:((Bt true l).take c).length=c:=by simp;omega
  have hget:∀j,A4 l.length<=j->j<c->((Bt true l).take c).getD j 0=61:=fun j h1 h2=>by
   rw[hs]
   simp only[List.getD]
   rw[List.getElem?_append_right (by rw[CU];omega),CU,List.getElem?_take_of_lt (by omega)]
   exact(J4 true (A4 l.length) (j-A4 l.length) (by omega)).1
  have hld:Bh ((Bt true l).take c)=A4 l.length:=Kq _ _ (by omega) (fun j hj=>by rw[hs,MC l _ _ j hj,Oe];omega) (.inr (by rw[hget _ (Nat.le_refl _) (by omega),fnd61];omega))
  have hall:K4 ((Bt true l).take c) (A4 l.length) true:=fun j h1 h2=>⟨hget j h1 (by omega),rfl⟩
  rw[hld,Cf,if_pos hall,IZ,hsl,hs]
  have hq:6*A4 l.length/8=l.length:=by unfold A4;omega
  have h1:bys (BM (Ce l (A4 l.length)++(DJ true (A4 l.length)).take (c-A4 l.length))) l.length=l:=by
   rw[H2 _ (Dk l) _ (fun j hj=>H3 l _ _ j (by unfold A4;omega)),PD]
  have h2:bn (BM (Ce l (A4 l.length)++(DJ true (A4 l.length)).take (c-A4 l.length))) (8*l.length) (6*A4 l.length%8)=0:=by
   rw[E5 _ (Dk l) _ _ (fun j hj hj2=>H3 l _ _ j (by omega))]
   exact Kx _ _ _ fun j hj=>MN l j hj
  rw[hq]
  dsimp only
  rw[h1,h2]
  have hr:A4 l.length%4≠1:=by unfold A4;omega
  unfold fin
  rw[if_neg (by omega),if_neg (by omega)]
  split
  ·exact⟨0,by simp,.inr rfl⟩
  ·exact⟨l.length,by simp,.inl rfl⟩
theorem RJ:∀(al:B8) (c:UInt8),0<=fnd al c->al.getD (fnd al c).toNat 0=c
 | [],c,h=>by simp[fnd]at h
 | a::al,c,h=>by
  by_cases ha:a=c
  ·simp[fnd,ha,List.getD]
  ·by_cases hn:fnd al c<0
   ·simp only[fnd,if_neg ha,if_pos hn]at h
    exact absurd h (by decide)
   ·have ih:=RJ al c (by omega)
    have e:fnd (a::al) c=fnd al c+1:=by simp only[fnd,if_neg ha,if_neg hn]
    rw[e,show(fnd al c+1).toNat=(fnd al c).toNat+1 by omega]
    simpa [List.getD]using ih
theorem bn_bit8 (f:Nat->Nat) (hf:∀i,f i<2) (i j:Nat) (h:j<8):bn f i 8/2^(7-j)%2=f (i+j):=by
 have e:=Nz f i (j+1) (7-j)
 have hlt:=NV f hf (i+(j+1)) (7-j)
 rw[show j+1+(7-j)=8 by omega]at e
 rw[e,Nat.mul_comm,Nat.mul_add_div (Nat.two_pow_pos _),Nat.div_eq_of_lt hlt,Nat.add_zero,bn]
 have:=hf (i+j)
 omega
theorem TF (f:Nat->Nat) (hf:∀i,f i<2) (m i:Nat) (h:i<8*m):Dk (bys f m) i=f i:=by
 have hlt:=NV f hf (8*(i/8)) 8
 have hg:(bys f m).getD (i/8) 0=UInt8.ofNat (bn f (8*(i/8)) 8):=by
  simp[List.getD,bys,show i/8<m by omega]
 rw[Dk,hg]
 have:(UInt8.ofNat (bn f (8*(i/8)) 8)).toNat=bn f (8*(i/8)) 8:=by
  simp[UInt8.toNat_ofNat];omega
 rw[this,bn_bit8 f hf _ _ (Nat.mod_lt _ (by decide)),show 8*(i/8)+i%8=i by omega]
theorem PE (f:Nat->Nat) (i:Nat):∀m,bn f i m=0->∀j,j<m->f (i+j)=0
 | 0,_,j,h=>absurd h (Nat.not_lt_zero _)
 | m+1,h0,j,h=>by
  rw[bn]at h0
  by_cases hj:j=m
  ·subst hj;omega
  ·exact PE f i m (by omega) j (by omega)
theorem RE:∀s:B8,Bh s<=s.length:=fun s=>by
 have:=congrArg List.length (List.takeWhile_append_dropWhile (p:=isD) (l:=s))
 rw[List.length_append]at this
 unfold Bh;omega
theorem O8:∀(s:B8) (j:Nat),j<Bh s->0<=fnd Ek (s.getD j 0)
 | [],j,h=>by simp[Bh]at h
 | a::s,j,h=>by
  by_cases ha:isD a=true
  ·cases j with
   | zero=>simpa [isD,List.getD]using ha
   | succ j=>
    have:Bh (a::s)=Bh s+1:=by simp[Bh,List.takeWhile,ha]
    have:=O8 s j (by omega)
    simpa [List.getD]using this
  ·have:Bh (a::s)=0:=by simp[Bh,List.takeWhile,ha]
   omega
theorem QA (n:Nat) (k1:n%4≠1):A4 (6*n/8)=n:=by
 obtain⟨q,hq⟩:∃q,q=n/4:=⟨_,rfl⟩
 unfold A4
 rcases (by omega:n%4=0∨n%4=2∨n%4=3)with r | r | r
 ·have h1:n=4*q:=by omega
  have h2:6*n/8=3*q:=by omega
  rw[h2];omega
 ·have h1:n=4*q+2:=by omega
  have h2:6*n/8=3*q+1:=by omega
  rw[h2];omega
 ·have h1:n=4*q+3:=by omega
  have h2:6*n/8=3*q+2:=by omega
  rw[h2];omega
theorem enc_dec (s:B8) (pad:Bool) (h:(Cf s (Bh s) pad).2=0):Bt pad (Cf s (Bh s) pad).1=s:=by
 have hle:=RE s
 have hdig:=O8 s
 generalize Bh s=n at*
 by_cases hall:K4 s n pad
 ·rw[Cf,if_pos hall,IZ]at h⊢
  dsimp only at h⊢
  have key:n%4≠1->bn (BM s) (8*(6*n/8)) (6*n%8)=0->(s.length-n=if pad=true then(4-n%4)%4 else 0)->Bt pad (bys (BM s) (6*n/8))=s:=fun k1 k2 k3=>by
   have hnd:A4 (6*n/8)=n:=QA n k1
   rw[Fx,Hh,hnd]
   have hbit:∀i,i<6*n->Dk (bys (BM s) (6*n/8)) i=BM s i:=fun i hi=>by
    by_cases hi8:i<8*(6*n/8)
    ·exact TF _ (IX s) _ _ hi8
    ·rw[MN _ _ (by rw[Hh];omega)]
     have:=PE _ _ _ k2 (i-8*(6*n/8)) (by omega)
     rw[show 8*(6*n/8)+(i-8*(6*n/8))=i by omega]at this
     exact this.symm
   have hd:Ce (bys (BM s) (6*n/8)) n=s.take n:=by
    apply List.ext_getElem
    ·simp[Ce];omega
    ·intro i h1 h2
     have hin:i<n:=by simpa [Ce]using h1
     simp only[Ce,List.getElem_map,List.getElem_range,List.getElem_take]
     have hg:s.getD i 0=s[i]:=by simp[List.getD,show i<s.length by omega]
     rw[ltr,VG,E5 _ (BM s) _ _ (fun j j1 j2=>hbit j (by omega)),PF,v64,RJ _ _ (hdig i hin),hg]
   have hp:DJ pad n=s.drop n:=by
    apply List.ext_getElem
    ·rw[EA,List.length_drop,k3]
    ·intro i h1 h2
     have e1:=(J4 pad n i h1).1
     have h2':i<s.length-n:=by simpa using h2
     have e2:=(hall (n+i) (by omega) (by omega)).1
     simp only[List.getD,List.getElem?_eq_getElem h1,Option.getD_some]at e1
     rw[e1,List.getElem_drop]
     simp only[List.getD,List.getElem?_eq_getElem (show n+i<s.length by omega),Option.getD_some]at e2
     exact e2.symm
   rw[hd,hp,List.take_append_drop]
  have hpad:pad=false->s.length-n=0:=fun hp=>by
   by_cases hlt:n<s.length
   ·have:=(hall n (Nat.le_refl _) hlt).2
    rw[hp]at this;cases this
   ·omega
  unfold fin at h⊢
  cases pad
  ·have hp0:=hpad rfl
   simp only[Bool.false_eq_true,if_false,false_and,or_false]at h key⊢
   split
   ·refine key (by omega) ?_ (by omega)
    rw[show 6*n%8=0 by omega];rfl
   ·rename_i c1
    rw[if_neg c1]at h
    split at h
    ·simp at h
    ·rename_i c2
     rw[if_neg c2]
     split at h
     ·simp at h
     ·rename_i c3
      rw[if_neg c3]
      exact key (by omega) (by omega) (by omega)
  ·simp only[if_true,true_and]at h key⊢
   split
   ·refine key (by omega) ?_ (by omega)
    rw[show 6*n%8=0 by omega];rfl
   ·rename_i c1
    rw[if_neg c1]at h
    split at h
    ·simp at h
    ·rename_i c2
     rw[if_neg c2]
     split at h
     ·simp at h
     ·rename_i c3
      rw[if_neg c3]
      exact key (by omega) (by omega) (by omega)
 ·rw[Cf,if_neg hall]at h
  simp at h
theorem Ys (s:B8) (k:Nat) (pad:Bool) (h:(Cf s k pad).2≠0):(Cf s k pad).1=[]/\((Cf s k pad).2=3∨(Cf s k pad).2=4):=by
 unfold Cf at h⊢
 split at h
 ·rename_i c
  rw[if_pos c]
  unfold fin at h⊢
  split at h
  ·exact absurd rfl h
  ·rename_i c1
   rw[if_neg c1]
   split at h
   ·rename_i c2
    rw[if_pos c2];exact⟨rfl,.inl rfl⟩
   ·rename_i c2
    rw[if_neg c2]
    split at h
    ·rename_i c3
     rw[if_pos c3];exact⟨rfl,.inr rfl⟩
    ·exact absurd rfl h
 ·rename_i c
  rw[if_neg c];exact⟨rfl,.inl rfl⟩
def msk (f:Nat->Nat) (i j:Nat):Nat:=if j<i then f j else 0
theorem Rz (f:Nat->Nat) (hf:∀i,f i<2) (i j:Nat):msk f i j<2:=by unfold msk;split<;>simp[hf]
theorem msk_all (f:Nat->Nat) (n:Nat):bys (msk f (8*n)) n=bys f n:=H2 _ _ _ fun j hj=>by simp[msk,hj]
theorem R4 (f:Nat->Nat) (i q:Nat) (h:q≠i/8):bn (msk f (i+1)) (8*q) 8=bn (msk f i) (8*q) 8:=
 E5 _ _ _ _ fun j h1 h2=>by
  unfold msk
  by_cases hj:j<i
  ·rw[if_pos hj,if_pos (by omega)]
  ·rw[if_neg hj,if_neg (by omega)]
theorem U4 (f:Nat->Nat) (i:Nat):bn (msk f i) (8*(i/8)) 8=bn f (8*(i/8)) (i%8)*2^(8-i%8):=by
 have e:=Nz (msk f i) (8*(i/8)) (i%8) (8-i%8)
 rw[show i%8+(8-i%8)=8 by omega]at e
 rw[e,Kx (msk f i) (8*(i/8)+i%8) (8-i%8) (fun j hj=>by unfold msk;rw[if_neg (by omega)]),Nat.add_zero,E5 _ f _ _ (fun j h1 h2=>by unfold msk;rw[if_pos (by omega)])]
theorem WN (f:Nat->Nat) (i:Nat):bn (msk f (i+1)) (8*(i/8)) 8=bn f (8*(i/8)) (i%8)*2^(8-i%8)+f i*2^(7-i%8):=by
 have e:=Nz (msk f (i+1)) (8*(i/8)) (i%8+1) (7-i%8)
 rw[show i%8+1+(7-i%8)=8 by omega]at e
 rw[e,Kx _ _ (7-i%8) (fun j hj=>by unfold msk;rw[if_neg (by omega)]),Nat.add_zero,E5 _ f _ _ (fun j h1 h2=>by unfold msk;rw[if_pos (by omega)]),bn,show 8*(i/8)+i%8=i by omega,Nat.add_mul,show 8-i%8=(7-i%8)+1 by omega,Nat.pow_succ,Nat.mul_assoc,Nat.mul_comm 2]
theorem or_msk (f:Nat->Nat) (hf:∀i,f i<2) (i:Nat):Au .or .u8 ((bn (msk f i) (8*(i/8)) 8:Nat):Int) ((f i*2^(7-i%8):Nat):Int)=((bn (msk f (i+1)) (8*(i/8)) 8:Nat):Int):=by
 have h1:=NV _ (Rz f hf i) (8*(i/8)) 8
 have h2:=NV _ (Rz f hf (i+1)) (8*(i/8)) 8
 rw[WN]at h2⊢
 rw[U4]at h1⊢
 have hb:f i*2^(7-i%8)<2^(8-i%8):=by
  have:=hf i
  rw[show 8-i%8=(7-i%8)+1 by omega,Nat.pow_succ,Nat.mul_comm (2^_)]
  exact Nat.mul_lt_mul_of_pos_right this (Nat.two_pow_pos _)
 have hp8:2^(8-i%8)<=2^8:=Nat.pow_le_pow_right (by decide) (by omega)
 generalize i%8=r at*
 generalize bn f (8*(i/8)) r=X at*
 generalize hY:f i*2^(7-r)=Y at*
 show IntKind.wrap .u8 ((BitVec.ofInt 8 _ ||| BitVec.ofInt 8 _).toNat:Int)=_
 simp only[BitVec.ofInt_natCast,BitVec.toNat_or,BitVec.toNat_ofNat]
 rw[Nat.mod_eq_of_lt h1,Nat.mod_eq_of_lt (show Y<2^8 by omega),Nat.mul_comm X,<-Nat.two_pow_add_eq_or_of_lt hb]
 rw[Nat.mul_comm X]at h2
 rw[EN _ (by omega) (by omega)]
def Rq (s:B8) (n:Nat):B8:=bys (BM (s.take n)) (6*n/8)
def Le (s:B8) (n:Nat) (pad:Bool):B8×Int:=
 if Bt pad (Rq s n)=s then(Rq s n,0)
 else if n=s.length then([],4)
 else if s.length<(Bt pad (Rq s n)).length/\(Bt pad (Rq s n)).take s.length=s then([],4)
 else([],3)
theorem Xw (s:B8) (n:Nat):(Rq s n).length=6*n/8:=Hh _ _
theorem WP (s:B8) (n i:Nat) (h:i<6*n):BM (s.take n) i=BM s i:=by
 unfold BM
 have:(s.take n).getD (i/6) 0=s.getD (i/6) 0:=by simp[List.getD,List.getElem?_take,show i/6<n by omega]
 rw[this]
theorem refB_eq (s:B8) (n:Nat):Rq s n=bys (BM s) (6*n/8):=H2 _ _ _ fun j hj=>WP s n j (by omega)
theorem WA (s:B8) (n:Nat) (hn:n<=s.length) (hdig:∀j,j<n->0<=fnd Ek (s.getD j 0)) (k2:bn (BM s) (8*(6*n/8)) (6*n%8)=0):Ce (bys (BM s) (6*n/8)) n=s.take n:=by
 have hbit:∀i,i<6*n->Dk (bys (BM s) (6*n/8)) i=BM s i:=fun i hi=>by
  by_cases hi8:i<8*(6*n/8)
  ·exact TF _ (IX s) _ _ hi8
  ·rw[MN _ _ (by rw[Hh];omega)]
   have:=PE _ _ _ k2 (i-8*(6*n/8)) (by omega)
   rw[show 8*(6*n/8)+(i-8*(6*n/8))=i by omega]at this
   exact this.symm
 apply List.ext_getElem
 ·simp[Ce];omega
 ·intro i h1 h2
  have hin:i<n:=by simpa [Ce]using h1
  simp only[Ce,List.getElem_map,List.getElem_range,List.getElem_take]
  have hg:s.getD i 0=s[i]:=by simp[List.getD,show i<s.length by omega]
  rw[ltr,VG,E5 _ (BM s) _ _ (fun j j1 j2=>hbit j (by omega)),PF,v64,RJ _ _ (hdig i hin),hg]
theorem Yg (k eq w:Nat) (pad:Bool) (o:B8) (h:(fin k eq w pad o).2=0):(fin k eq w pad o).1=o:=by
 unfold fin at h⊢
 by_cases c1:k%4=0/\eq=0
 ·rw[if_pos c1]
 ·rw[if_neg c1]at h⊢
  by_cases c2:0<eq/\(k%4<2∨4-k%4<eq∨w≠0)
  ·rw[if_pos c2]at h;exact absurd h (by decide)
  ·rw[if_neg c2]at h⊢
   by_cases c3:k%4=1∨w≠0∨(pad=true/\eq<4-k%4)
   ·rw[if_pos c3]at h;exact absurd h (by decide)
   ·rw[if_neg c3]
theorem WD (s:B8) (k:Nat) (pad:Bool) (h:(Cf s k pad).2=0):(Cf s k pad).1=bys (BM s) (6*k/8):=by
 by_cases c:K4 s k pad
 ·rw[Cf,if_pos c]at h⊢
  rw[Yg _ _ _ _ _ h,IZ]
 ·rw[Cf,if_neg c]at h;exact absurd h (by show ¬(3:Int)=0;decide)
theorem ref_eq (s:B8) (pad:Bool):Le s (Bh s) pad=Cf s (Bh s) pad:=by
 have hT1:=enc_dec s pad
 have hbad:=Ys s (Bh s) pad
 have hz:=WD s (Bh s) pad
 unfold Le
 rw[refB_eq]
 by_cases hT:Bt pad (bys (BM s) (6*Bh s/8))=s
 ·rw[if_pos hT]
  have:=MD pad (bys (BM s) (6*Bh s/8))
  rw[hT]at this
  exact this.symm
 ·rw[if_neg hT]
  have h0:(Cf s (Bh s) pad).2≠0:=fun h=>hT (by rw[<-hz h];exact hT1 h)
  obtain⟨b1,b2⟩:=hbad h0
  have pair:∀r,(Cf s (Bh s) pad).2=r->([],r)=Cf s (Bh s) pad:=fun r hr=>by
   rw[<-b1,<-hr]
  by_cases hn:Bh s=s.length
  ·rw[if_pos hn]
   refine pair 4 ?_
   rcases b2 with h3 | h4
   ·exfalso
    have hall:K4 s (Bh s) pad:=fun j j1 j2=>absurd j2 (by omega)
    rw[Cf,if_pos hall]at h3
    unfold fin at h3
    split at h3
    ·simp at h3
    ·rw[if_neg (by omega)]at h3
     split at h3<;>simp at h3
   ·exact h4
  ·rw[if_neg hn]
   by_cases hp:s.length<(Bt pad (bys (BM s) (6*Bh s/8))).length/\(Bt pad (bys (BM s) (6*Bh s/8))).take s.length=s
   ·rw[if_pos hp]
    refine pair 4 ?_
    obtain⟨m,_,h⟩:=dec_cut pad (bys (BM s) (6*Bh s/8)) s.length (by omega)
    rw[hp.2]at h
    rcases h with h | h
    ·exact absurd h h0
    ·exact h
   ·rw[if_neg hp]
    refine pair 3 ?_
    rcases b2 with h3 | h4
    ·exact h3
    ·exfalso
     have hle:=RE s
     by_cases hall:K4 s (Bh s) pad
     ·have hpad:pad=true:=(hall (Bh s) (Nat.le_refl _) (by omega)).2
      subst hpad
      rw[Cf,if_pos hall,IZ]at h4
      dsimp only at h4
      unfold fin at h4
      split at h4
      ·simp at h4
      ·split at h4
       ·simp at h4
       ·rename_i c2
        split at h4
        ·rename_i c3
         simp only[true_and]at c3
         have k1:Bh s%4≠1:=by omega
         have k2:bn (BM s) (8*(6*Bh s/8)) (6*Bh s%8)=0:=by omega
         have hd:=WA s (Bh s) hle (O8 s) k2
         apply hp
         rw[Fx,Hh,QA _ k1,hd]
         refine⟨by rw[List.length_append,EA];simp;omega,?_⟩
         rw[List.take_append,List.length_take,Nat.min_eq_left hle,List.take_of_length_le (by simp;omega)]
         have ht:(DJ true (Bh s)).take (s.length-Bh s)=s.drop (Bh s):=by
          apply List.ext_getElem
          ·rw[List.length_take,EA,List.length_drop];simp;omega
          ·intro i g1 g2
           have g2':i<s.length-Bh s:=by simpa using g2
           have g1':i<(DJ true (Bh s)).length:=by rw[List.length_take]at g1;omega
           have e1:=(J4 true (Bh s) i g1').1
           have e2:=(hall (Bh s+i) (by omega) (by omega)).1
           simp only[List.getD,List.getElem?_eq_getElem g1',Option.getD_some]at e1
           simp only[List.getD,List.getElem?_eq_getElem (show Bh s+i<s.length by omega),Option.getD_some]at e2
           rw[List.getElem_take,e1,List.getElem_drop,e2]
         rw[ht,List.take_append_drop]
        ·simp at h4
     ·rw[Cf,if_neg hall]at h4
      simp at h4
end
theorem mixed:Tryz.prog.follows .mixedOrders=true:=by kernel_rfl
noncomputable def PR:Program:=Tryz.prog
abbrev V13(X:Type):=Int->Bool->Bool->B8->Int->Int->Int->Int->Int->B8->TV->TV->TV->X
abbrev sV:RTy:=.agg [.int .i64,.bool,.bool,.str,.int .i64,.int .i64,.int .i64,.int .i64,.int .i64,.str,.tv,.tv,.tv]
abbrev cV(a:Int)(b c:Bool)(d:B8)(e f g h i:Int)(j:B8)(k l m:TV):List TV:=[.int .i64 a,.bool b,.bool c,.str d,.int .i64 e,.int .i64 f,.int .i64 g,.int .i64 h,.int .i64 i,.str j,k,l,m]
abbrev BId(p:Prop)[Decidable p](a b:Prop):Prop:=BIf (decide p) a b
def fn_datakitlaw10_CanonReads:Nat:=12
def BU:Nat:=18
def DU:Nat:=37
def Co:Nat:=38
def Ht:Nat:=44
def DV:Nat:=45
def Ho:Nat:=48
def GE:Nat:=53
def CS:Nat:=65
def FW:Nat:=66
def Dz:Nat:=69
def Dw:Nat:=70
def F0:Nat:=71
def GG:Nat:=72
def DZ:Nat:=74
def DX:Nat:=75
def Hs:Nat:=81
def AE:Nat:=82
def CE:Nat:=83
def FV:Nat:=85
def EU:Nat:=90
def A2:Nat:=91
def BG:Nat:=92
def Dn:Nat:=96
def DO:Nat:=99
def DW:Nat:=107
def Bj:Nat:=109
def A9:Nat:=113
def DR:Nat:=114
def Fm:Nat:=115
def Ef:Nat:=116
def Dp:Nat:=117
def Dt:Nat:=118
def F1:Nat:=119
def B5:Nat:=123
def Dx:Nat:=124
def Df:Nat:=125
def Bq:Nat:=126
def AQ:Nat:=127
def Ej:Nat:=128
def Ao:Nat:=129
def AV:Nat:=130
def Eb:Nat:=131
def EV:Nat:=132
def Ea:Nat:=133
def Do:Nat:=134
def BK:Nat:=135
def BE:Nat:=136
def DQ:Nat:=137
def BZ:Nat:=139
def Cb:Nat:=140
def Cp:Nat:=141
def DY:Nat:=142
def AB:Nat:=143
def Bi:Nat:=144
def Dd:Nat:=145
def FU:Nat:=148
def BA:Nat:=153
def Cv:Nat:=154
def AS:Nat:=155
def Ba:Nat:=156
def Db:Nat:=157
def Eh:Nat:=158
def CD:Nat:=166
def Lm:Nat:=170
def AX:Nat:=171
def Bs:Nat:=172
def Bf:Nat:=173
def GK:Nat:=174
def D1:Nat:=175
def Dh:Nat:=176
def Di:Nat:=177
def C9:Nat:=178
def Du:Nat:=179
def B3:Nat:=190
def GD:Nat:=198
def Hn:Nat:=199
def Cj:Nat:=204
def Eu:Nat:=211
def FY:Nat:=212
def FZ:Nat:=217
def By:Nat:=218
def Cn:Nat:=219
def AH:Nat:=220
def BX:Nat:=221
def AW:Nat:=222
def B1:Nat:=223
def Ca:Nat:=225
def Cs:Nat:=227
def DA:Nat:=228
def Cq:Nat:=229
def A1:Nat:=230
def De:Nat:=231
def Ev:Nat:=232
def FX:Nat:=233
def Ax:Nat:=236
def EX:Nat:=238
def Fo:Nat:=239
def AM:Nat:=240
def B0:Nat:=242
def Dv:Nat:=243
def BY:Nat:=244
def GH:Nat:=245
def Bz:Nat:=246
def BT:Nat:=248
def AF:Nat:=249
def DB:Nat:=250
def GF:Nat:=251
def CT:Nat:=252
def GJ:Nat:=253
def Aj:Nat:=254
def DT:Nat:=255
def Ei:Nat:=256
def Eg:Nat:=257
def Dy:Nat:=258
def BV:Nat:=259
def Hq:Nat:=261
def Av:Nat:=262
def Dj:Nat:=263
def GI:Nat:=264
def AR:Nat:=265
def A7:Nat:=266
def Dc:Nat:=267
def Da:Nat:=268
def IR:Nat:=276
def DP:Nat:=284
def Ay:Nat:=285
def Cw:Nat:=286
def DC:Nat:=287
def Fn:Nat:=288
def B9:Nat:=290
def Cr:Nat:=291
def Br:Nat:=292
def Hr:Nat:=293
def Bn:Nat:=296
def EW:Nat:=298
def Hc:Nat:=299
def AZ:Nat:=301
def EY:Nat:=303
def J9:Nat:=304
def Hp:Nat:=305
def IS:Nat:=306
def Fp:Nat:=307
def C0:Nat:=308
def CF:Nat:=309
def BH:Nat:=310
def Cx:Nat:=318
def Dg:Nat:=319
def I9:Nat:=320
def AN:Nat:=322
def Ag:Nat:=323
def AO:Nat:=325
def Bp:Nat:=332
def AK:Nat:=335
def Xi:B8:=[116,114,117,101]
def str8:B8:=[102,97,108,115,101]
def Cc:B8:=[45]
def Dl:B8:=[46]
def LT:B8:=[43]
def JW:B8:=[48]
def str13:B8:=[100,100,100,100,45,100,100,45,100,100]
def NE:B8:=[48,46]
def Xl:B8:=[101,45]
def LS:B8:=[101]
def G5:B8:=[84]
def str18:B8:=[34,92,8,12,10,13,9]
def str19:B8:=[34,92,98,102,110,114,116]
def FA:B8:=[48,49,50,51,52,53,54,55,56,57,97,98,99,100,101,102]
def Vm:B8:=[110,117,108,108]
def str22:B8:=[116]
def str23:B8:=[98]
def str27:B8:=[84,116,32]
def str28:B8:=[100,100,58,100,100,58,100,100]
def Fz:B8:=[48,48,48,48,48,48,48,48,48]
def Xk:B8:=[90]
def str31:B8:=[122]
def str32:B8:=[43,100,100,58,100,100]
def str33:B8:=[45,100,100,58,100,100]
def Bu:B8:=[58]
def Qj:B8:=[34]
def str36:B8:=[92,34]
def str37:B8:=[92,92]
def str38:B8:=[92,98]
def str39:B8:=[92,102]
def str40:B8:=[92,110]
def str41:B8:=[92,114]
def str42:B8:=[92,116]
def Vk:B8:=[92,117,48,48]
def Vj:B8:=[116,34]
def Vi:B8:=[98,34]
def OR:B8:=[65,66,67,68,69,70,71,72,73,74,75,76,77,78,79,80,81,82,83,84,85,86,87,88,89,90,97,98,99,100,101,102,103,104,105,106,107,108,109,110,111,112,113,114,115,116,117,118,119,120,121,122,48,49,50,51,52,53,54,55,56,57,43,47]
def str47:B8:=[91]
def str48:B8:=[44]
def str49:B8:=[93]
def str50:B8:=[123]
def str51:B8:=[125]
def str55:B8:=[90,122,43,45]
def str56:B8:=[57,50,50,51,51,55,50,48,51,54,56,53,52,55,55,53,56,48,55]
def Xj:B8:=[117,48,48]
theorem Gt (s:B8) (st:St) (K:Bool->St->Prop) (h:BId ((4000:Int)<(s.length:Int)) (K true st) (CallT PR Ht [.str s] [sV,.one (.int .i64)] st (fun (n1:Int) (b1 b2:Bool) (s1:B8) (n2 n3 n4 n5 n6:Int) (s2:B8) (v1 v2 v3:TV) (n7:Int) f=>need (List.all (cV n1 b1 b2 s1 n2 n3 n4 n5 n6 s2 v1 v2 v3) Ar) (CallT PR DV [.str s] [sV,.one (.int .i64)] f (fun (n8:Int) (b3 b4:Bool) (s3:B8) (n9 c e a d:Int) (s4:B8) (v4 v5 v6:TV) (g:Int) b=>need (List.all (cV n8 b3 b4 s3 n9 c e a d s4 v4 v5 v6) Ar) (BId (n7=g) (CallT PR BU [(.agg (cV n1 b1 b2 s1 n2 n3 n4 n5 n6 s2 v1 v2 v3)),(.agg (cV n8 b3 b4 s3 n9 c e a d s4 v4 v5 v6))] [.one .bool] b (fun (b5:Bool) i=>K b5 i)) (K false b))))))):CallT PR fn_datakitlaw10_CanonReads [.str s] [.one .bool] st K:=
 Ae (cfg:=⟨[3,5],[],[]⟩) (h:= .none) mixed (fun _ _=>Tryz.call12 _ _) Tryz.func12 (by kernel_rfl) (by kernel_rfl) h
theorem JF (a_0:Int) (a_1:Bool) (a_2:Bool) (a_3:B8) (a_4:Int) (a_5:Int) (a_6:Int) (a_7:Int) (a_8:Int) (a_9:B8) (a_10:TV) (a_11:TV) (a_12:TV) (b_0:Int) (b_1:Bool) (b_2:Bool) (b_3:B8) (b_4:Int) (b_5:Int) (b_6:Int) (b_7:Int) (b_8:Int) (b_9:B8) (b_10:TV) (b_11:TV) (b_12:TV) (st:St) (K:Bool->St->Prop) (h:BId (a_0≠b_0) (K false st) (BIf (!(a_1==b_1)) (K false st) (BIf (!((a_2==b_2)&&(decide (a_3=b_3)&&(decide (a_4=b_4)&&true)))) (K false st) (BIf (!(decide (a_5=b_5)&&(decide (a_6=b_6)&&(decide (a_7=b_7)&&(decide (a_8=b_8)&&true))))) (K false st) (BId (a_9≠b_9) (K false st) (Ak ((toBytes st a_10).map TV.str) (fun (x1:TV)=>As .str x1 (fun (s1:B8)=>Ak ((toBytes st b_10).map TV.str) (fun (x2:TV)=>As .str x2 (fun (s2:B8)=>BId (s1≠s2) (K false st) (need (isSl a_11) (need (isSl b_11) (BId ((lenS a_11:Int)≠(lenS b_11:Int)) (K false st) (need (isSl a_12) (need (isSl b_12) (BId ((lenS a_12:Int)≠(lenS b_12:Int)) (K false st) (∃(I1:Int->V13 (V13 (St->Prop))) (M1:Int->V13 (V13 (St->Nat))),(I1 0 a_0 a_1 a_2 a_3 a_4 a_5 a_6 a_7 a_8 a_9 a_10 a_11 a_12 b_0 b_1 b_2 b_3 b_4 b_5 b_6 b_7 b_8 b_9 b_10 b_11 b_12 st)/\∀d n1 b1 b2 s3 n2 n3 n4 n5 n6 s4 v1 v2 v3 n7 b3 b4 s5 n8 n9 k i g s6 v4 v5 v6 f,I1 d n1 b1 b2 s3 n2 n3 n4 n5 n6 s4 v1 v2 v3 n7 b3 b4 s5 n8 n9 k i g s6 v4 v5 v6 f->(need (isSl v2) (BId (d<(lenS v2:Int)) (((0<=d/\d<(lenZ 13 v2:Int))/\Ak ((Al f [] (.t (ixT 13 v2 d.toNat)) 0 13).map TV.agg) (fun (x3:TV)=>B4 [.int .i64,.bool,.bool,.str,.int .i64,.int .i64,.int .i64,.int .i64,.int .i64,.str,.tv,.tv,.tv] x3 (fun (d9:Int) (b5 b6:Bool) (s7:B8) (f4 e6 e0 f9 d3:Int) (s8:B8) (v7 v8 v9:TV)=>((0<=d/\d<(lenZ 13 v5:Int))/\Ak ((Al f [] (.t (ixT 13 v5 d.toNat)) 0 13).map TV.agg) (fun (x4:TV)=>B4 [.int .i64,.bool,.bool,.str,.int .i64,.int .i64,.int .i64,.int .i64,.int .i64,.str,.tv,.tv,.tv] x4 (fun (f2:Int) (b7 b8:Bool) (s9:B8) (d4 f8 e4 d2 d5:Int) (g1:B8) (d0 f5 c3:TV)=>CallT PR BU [(.agg (cV d9 b5 b6 s7 f4 e6 e0 f9 d3 s8 v7 v8 v9)),(.agg (cV f2 b7 b8 s9 d4 f8 e4 d2 d5 g1 d0 f5 c3))] [.one .bool] f (fun (b9:Bool) b0=>BIf (!b9) (K false b0) ((I1 ((i64.wrap (d+(1:Int)))) n1 b1 b2 s3 n2 n3 n4 n5 n6 s4 v1 v2 v3 n7 b3 b4 s5 n8 n9 k i g s6 v4 v5 v6 b0/\M1 ((i64.wrap (d+(1:Int)))) n1 b1 b2 s3 n2 n3 n4 n5 n6 s4 v1 v2 v3 n7 b3 b4 s5 n8 n9 k i g s6 v4 v5 v6 b0<M1 d n1 b1 b2 s3 n2 n3 n4 n5 n6 s4 v1 v2 v3 n7 b3 b4 s5 n8 n9 k i g s6 v4 v5 v6 f)))))))))) (∃(I2:Int->V13 (V13 (St->Prop))) (M2:Int->V13 (V13 (St->Nat))),(I2 0 n1 b1 b2 s3 n2 n3 n4 n5 n6 s4 v1 v2 v3 n7 b3 b4 s5 n8 n9 k i g s6 v4 v5 v6 f)/\∀a s a1 x r a8 y a0 q v o w u b n a3 a5 a7 a4 a9 a6 l z p a2 m c e,I2 a s a1 x r a8 y a0 q v o w u b n a3 a5 a7 a4 a9 a6 l z p a2 m c e->(need (isSl b) (BId (a<(lenS b:Int)) (((0<=a/\a<(lenZ 14 b:Int))/\need (isPtr (ixT 14 b a.toNat)) (Ak (Af e [] (.t (AC (ixT 14 b a.toNat) 0)) 0) (fun (x5:TV)=>As .str x5 (fun (c1:B8)=>((0<=a/\a<(lenZ 14 c:Int))/\need (isPtr (ixT 14 c a.toNat)) (Ak (Af e [] (.t (AC (ixT 14 c a.toNat) 0)) 0) (fun (x6:TV)=>As .str x6 (fun (c0:B8)=>BId (c1≠c0) ((Af e [] (.t (AC (ixT 14 c a.toNat) 0)) 0=some (.str c0)/\(Af e [] (.t (AC (ixT 14 b a.toNat) 0)) 0=some (.str c1)/\K false e))) (((0<=a/\a<(lenZ 14 b:Int))/\need (isPtr (ixT 14 b a.toNat)) (Ak ((Al e [] (.t (AC (ixT 14 b a.toNat) 1)) 0 13).map TV.agg) (fun (x7:TV)=>B4 [.int .i64,.bool,.bool,.str,.int .i64,.int .i64,.int .i64,.int .i64,.int .i64,.str,.tv,.tv,.tv] x7 (fun (e9:Int) (c4 e1:Bool) (c9:B8) (f7 d1 e7 d6 c6:Int) (d7:B8) (c5 c2 c8:TV)=>((0<=a/\a<(lenZ 14 c:Int))/\need (isPtr (ixT 14 c a.toNat)) (Ak ((Al e [] (.t (AC (ixT 14 c a.toNat) 1)) 0 13).map TV.agg) (fun (x8:TV)=>B4 [.int .i64,.bool,.bool,.str,.int .i64,.int .i64,.int .i64,.int .i64,.int .i64,.str,.tv,.tv,.tv] x8 (fun (e5:Int) (c7 g3:Bool) (d8:B8) (g0 e3 e2 e8 f6:Int) (f1:B8) (f3 f0 g2:TV)=>CallT PR BU [(.agg (cV e9 c4 e1 c9 f7 d1 e7 d6 c6 d7 c5 c2 c8)),(.agg (cV e5 c7 g3 d8 g0 e3 e2 e8 f6 f1 f3 f0 g2))] [.one .bool] e (fun (g4:Bool) j=>(Af j [] (.t (AC (ixT 14 c a.toNat) 0)) 0=some (.str c0)/\(Af j [] (.t (AC (ixT 14 b a.toNat) 0)) 0=some (.str c1)/\BIf (!g4) (K false j) ((I2 ((i64.wrap (a+(1:Int)))) s a1 x r a8 y a0 q v o w u b n a3 a5 a7 a4 a9 a6 l z p a2 m c j/\M2 ((i64.wrap (a+(1:Int)))) s a1 x r a8 y a0 q v o w u b n a3 a5 a7 a4 a9 a6 l z p a2 m c j<M2 a s a1 x r a8 y a0 q v o w u b n a3 a5 a7 a4 a9 a6 l z p a2 m c e))))))))))))))))))))))) (K true e))))))))))))))))))))))):CallT PR BU [(.agg (cV a_0 a_1 a_2 a_3 a_4 a_5 a_6 a_7 a_8 a_9 a_10 a_11 a_12)),(.agg (cV b_0 b_1 b_2 b_3 b_4 b_5 b_6 b_7 b_8 b_9 b_10 b_11 b_12))] [.one .bool] st K:=
 Ae (cfg:=⟨[2,3],[],[78,83,98,104,112,118]⟩) (h:=(.seq .none (.seq .none (.seq (.seq .none (.block (.loop ⟨[(5,.int .i64)],[(2,0,0),(3,1,0)],[(0,13),(1,13)],[(0,0,.int .i64),(0,1,.bool),(0,2,.bool),(0,3,.str),(0,4,.int .i64),(0,5,.int .i64),(0,6,.int .i64),(0,7,.int .i64),(0,8,.int .i64),(0,9,.str),(0,10,.tv),(0,11,.tv),(0,12,.tv),(1,0,.int .i64),(1,1,.bool),(1,2,.bool),(1,3,.str),(1,4,.int .i64),(1,5,.int .i64),(1,6,.int .i64),(1,7,.int .i64),(1,8,.int .i64),(1,9,.str),(1,10,.tv),(1,11,.tv),(1,12,.tv)]⟩ .none))) (.seq (.seq .none (.block (.loop ⟨[(6,.int .i64)],[(2,0,0),(3,1,0)],[(0,13),(1,13)],[(0,0,.int .i64),(0,1,.bool),(0,2,.bool),(0,3,.str),(0,4,.int .i64),(0,5,.int .i64),(0,6,.int .i64),(0,7,.int .i64),(0,8,.int .i64),(0,9,.str),(0,10,.tv),(0,11,.tv),(0,12,.tv),(1,0,.int .i64),(1,1,.bool),(1,2,.bool),(1,3,.str),(1,4,.int .i64),(1,5,.int .i64),(1,6,.int .i64),(1,7,.int .i64),(1,8,.int .i64),(1,9,.str),(1,10,.tv),(1,11,.tv),(1,12,.tv)]⟩ .none))) .none))))) mixed (fun _ _=>Tryz.call18 _ _) Tryz.func18 (by kernel_rfl) (by kernel_rfl) h
theorem JC (v_0:Int) (v_1:Bool) (v_2:Bool) (v_3:B8) (v_4:Int) (v_5:Int) (v_6:Int) (v_7:Int) (v_8:Int) (v_9:B8) (v_10:TV) (v_11:TV) (v_12:TV) (st:St) (K:B8->Int->St->Prop) (h:CallT PR Co [(.agg (cV v_0 v_1 v_2 v_3 v_4 v_5 v_6 v_7 v_8 v_9 v_10 v_11 v_12))] [.one (.int .i64)] st (fun (n1:Int) a=>BId (n1≠0) (K [] n1 a) (CallT PR AE [(.agg (cV v_0 v_1 v_2 v_3 v_4 v_5 v_6 v_7 v_8 v_9 v_10 v_11 v_12))] [.one .str] a (fun (s1:B8) b=>K s1 0 b)))):CallT PR DU [(.agg (cV v_0 v_1 v_2 v_3 v_4 v_5 v_6 v_7 v_8 v_9 v_10 v_11 v_12))] [.one .str,.one (.int .i64)] st K:=
 Ae (cfg:=⟨[1],[],[]⟩) (h:= .none) mixed (fun _ _=>Tryz.call37 _ _) Tryz.func37 (by kernel_rfl) (by kernel_rfl) h
theorem Je (v_0:Int) (v_1:Bool) (v_2:Bool) (v_3:B8) (v_4:Int) (v_5:Int) (v_6:Int) (v_7:Int) (v_8:Int) (v_9:B8) (v_10:TV) (v_11:TV) (v_12:TV) (st:St) (K:Int->St->Prop) (h:CallT PR CE [(.agg (cV v_0 v_1 v_2 v_3 v_4 v_5 v_6 v_7 v_8 v_9 v_10 v_11 v_12)),.int .i64 1,.int .i64 0] [.one (.int .i64),.one (.int .i64)] st (fun (n1 n2:Int) a=>K n2 a)):CallT PR Co [(.agg (cV v_0 v_1 v_2 v_3 v_4 v_5 v_6 v_7 v_8 v_9 v_10 v_11 v_12))] [.one (.int .i64)] st K:=
 Ae (cfg:=⟨[1],[],[]⟩) (h:= .none) mixed (fun _ _=>Tryz.call38 _ _) Tryz.func38 (by kernel_rfl) (by kernel_rfl) h
theorem PV (s:B8) (st:St) (K:V13 (Int->St->Prop)) (h:BId ((1048576:Int)<(s.length:Int)) (K 0 false false [] 0 0 0 0 0 [] .nilSlice .nilSlice .nilSlice 10 st) (CallT PR EU [.str s] [.one .bool] st (fun (b1:Bool) b=>BIf (!b1) (K 0 false false [] 0 0 0 0 0 [] .nilSlice .nilSlice .nilSlice 5 b) (CallT PR A2 [(.box b.nb 0),.int .i64 1] [sV] (b.push (.cells [.str s,.int .i64 0,.bool false]) (some 144)) (fun (n1:Int) (b2 b3:Bool) (s1:B8) (n2 n3 n4 n5 n6:Int) (s2:B8) (v1 v2 v3:TV) a=>need (List.all (cV n1 b2 b3 s1 n2 n3 n4 n5 n6 s2 v1 v2 v3) Ar) (Ak (Af a [] (.t (.box b.nb 2)) 0) (fun (x1:TV)=>As .bool x1 (fun (b4:Bool)=>BIf b4 (K 0 false false [] 0 0 0 0 0 [] .nilSlice .nilSlice .nilSlice 3 a) (Ak (Af a [] (.t (.box b.nb 1)) 0) (fun (x2:TV)=>As (.int .i64) x2 (fun (n7:Int)=>BId (n7≠(s.length:Int)) (K 0 false false [] 0 0 0 0 0 [] .nilSlice .nilSlice .nilSlice 3 a) (CallT PR GE [(.agg (cV n1 b2 b3 s1 n2 n3 n4 n5 n6 s2 v1 v2 v3))] [.one (.int .i64)] a (fun (n8:Int) c=>BId (n8≠0) (K 0 false false [] 0 0 0 0 0 [] .nilSlice .nilSlice .nilSlice 3 c) (CallT PR Hs [(.agg (cV n1 b2 b3 s1 n2 n3 n4 n5 n6 s2 v1 v2 v3))] [.one .str] c (fun (s3:B8) d=>BId (s3≠s) (K 0 false false [] 0 0 0 0 0 [] .nilSlice .nilSlice .nilSlice 3 d) (need (List.all (cV n1 b2 b3 s1 n2 n3 n4 n5 n6 s2 v1 v2 v3) Ar) (K n1 b2 b3 s1 n2 n3 n4 n5 n6 s2 v1 v2 v3 0 d))))))))))))))))):CallT PR Ht [.str s] [sV,.one (.int .i64)] st K:=
 Ae (cfg:=⟨[2,5],[],[]⟩) (h:= .none) mixed (fun _ _=>Tryz.call44 _ _) Tryz.func44 (by kernel_rfl) (by kernel_rfl) h
theorem JD (s:B8) (st:St) (K:V13 (Int->St->Prop)) (h:BId ((1048576:Int)<(s.length:Int)) (K 0 false false [] 0 0 0 0 0 [] .nilSlice .nilSlice .nilSlice 10 st) (CallT PR Co [(.agg (cV 4 false false [] 0 0 0 0 0 s .nilSlice .nilSlice .nilSlice))] [.one (.int .i64)] st (fun (n1:Int) c=>BId (n1=5) (K 0 false false [] 0 0 0 0 0 [] .nilSlice .nilSlice .nilSlice 5 c) (CallT PR BG [.str s,.int .i64 1] [sV,.one (.int .i64)] c (fun (n2:Int) (b1 b2:Bool) (s1:B8) (n3 n4 n5 n6 n7:Int) (s2:B8) (v1 v2 v3:TV) (n8:Int) b=>need (List.all (cV n2 b1 b2 s1 n3 n4 n5 n6 n7 s2 v1 v2 v3) Ar) (BId (n8=0) (K 0 false false [] 0 0 0 0 0 [] .nilSlice .nilSlice .nilSlice 3 b) (BId (n8<(s.length:Int)) (K 0 false false [] 0 0 0 0 0 [] .nilSlice .nilSlice .nilSlice 3 b) (CallT PR DU [(.agg (cV n2 b1 b2 s1 n3 n4 n5 n6 n7 s2 v1 v2 v3))] [.one .str,.one (.int .i64)] b (fun (s3:B8) (n9:Int) a=>BId (n9≠0) (K 0 false false [] 0 0 0 0 0 [] .nilSlice .nilSlice .nilSlice 3 a) (BId (s3≠s) (K 0 false false [] 0 0 0 0 0 [] .nilSlice .nilSlice .nilSlice 3 a) (need (List.all (cV n2 b1 b2 s1 n3 n4 n5 n6 n7 s2 v1 v2 v3) Ar) (K n2 b1 b2 s1 n3 n4 n5 n6 n7 s2 v1 v2 v3 0 a)))))))))))):CallT PR DV [.str s] [sV,.one (.int .i64)] st K:=
 Ae (cfg:=⟨[2,4],[],[]⟩) (h:= .none) mixed (fun _ _=>Tryz.call45 _ _) Tryz.func45 (by kernel_rfl) (by kernel_rfl) h
theorem PO (v_0:Int) (v_1:Bool) (v_2:Bool) (v_3:B8) (v_4:Int) (v_5:Int) (v_6:Int) (v_7:Int) (v_8:Int) (v_9:B8) (v_10:TV) (v_11:TV) (v_12:TV) (st:St) (K:V13 (St->Prop)) (h:CallT PR Dn [(.agg (cV v_0 v_1 v_2 v_3 v_4 v_5 v_6 v_7 v_8 v_9 v_10 v_11 v_12)),.int .i64 65536] [sV] st (fun (n1:Int) (b1 b2:Bool) (s1:B8) (n2 n3 n4 n5 n6:Int) (s2:B8) (v1 v2 v3:TV) a=>need (List.all (cV n1 b1 b2 s1 n2 n3 n4 n5 n6 s2 v1 v2 v3) Ar) (K n1 b1 b2 s1 n2 n3 n4 n5 n6 s2 v1 v2 v3 a))):CallT PR Ho [(.agg (cV v_0 v_1 v_2 v_3 v_4 v_5 v_6 v_7 v_8 v_9 v_10 v_11 v_12))] [sV] st K:=
 Ae (cfg:=⟨[1,2],[],[]⟩) (h:= .none) mixed (fun _ _=>Tryz.call48 _ _) Tryz.func48 (by kernel_rfl) (by kernel_rfl) h
theorem OC (v_0:Int) (v_1:Bool) (v_2:Bool) (v_3:B8) (v_4:Int) (v_5:Int) (v_6:Int) (v_7:Int) (v_8:Int) (v_9:B8) (v_10:TV) (v_11:TV) (v_12:TV) (st:St) (K:Int->St->Prop) (h:stB (st.push (.cells [.int .i64 0]) (some 3)) (.box st.nb 0) [.int .i64 0] (fun b=>CallT PR DO [(.agg (cV v_0 v_1 v_2 v_3 v_4 v_5 v_6 v_7 v_8 v_9 v_10 v_11 v_12)),.int .i64 1,(.box st.nb 0)] [.one (.int .i64)] b (fun (n1:Int) a=>K n1 a))):CallT PR GE [(.agg (cV v_0 v_1 v_2 v_3 v_4 v_5 v_6 v_7 v_8 v_9 v_10 v_11 v_12))] [.one (.int .i64)] st K:=
 Ae (cfg:=⟨[1],[],[]⟩) (h:= .none) mixed (fun _ _=>Tryz.call53 _ _) Tryz.func53 (by kernel_rfl) (by kernel_rfl) h
theorem MU (s:B8) (st:St) (K:Bool->B8->Int->Int->St->Prop) (h:CallT PR A9 [.str s,.str Cc] [.one .bool] st (fun (b1:Bool) a5=>∃(C1:B8->Bool->Bool->B8->Int->St->Prop),(BIf b1 (((0<=(1:Int)/\(1:Int)<=(s.length:Int))/\C1 ((List.drop (Int.toNat (1:Int)) s)) b1 false [] 0 a5)) (C1 s b1 false [] 0 a5))/\∀l n b2 s1 n1 a3,C1 l n b2 s1 n1 a3->(CallT PR DR [.str l] [.one (.int .i64)] a3 (fun (n2:Int) v=>∃(C2:B8->Bool->Int->Bool->B8->Int->St->Prop),(BId (n2=0) (K false [] 0 3 v) (BId ((1:Int)<n2) (((0<=(0:Int)/\(0:Int)<(l.length:Int))/\BId (((List.getD l (Int.toNat (0:Int)) 0).toNat:Int)=(48:Int)) (K false [] 0 3 v) (C2 l n n2 b2 s1 n1 v))) (C2 l n n2 b2 s1 n1 v)))/\∀b m a b3 s2 n3 a4,C2 b m a b3 s2 n3 a4->(((0<=a/\a<=(b.length:Int))/\((0<=a/\a<=(b.length:Int))/\∃(C3:B8->B8->Int->Bool->Bool->B8->Int->St->Prop),(CallT PR A9 [(.str (List.drop a.toNat b)),.str Dl] [.one .bool] a4 (fun (b4:Bool) z=>BIf b4 (((0<=(1:Int)/\(1:Int)<=(((List.drop a.toNat b)).length:Int))/\CallT PR DR [(.str (List.drop (Int.toNat (1:Int)) (List.drop a.toNat b)))] [.one (.int .i64)] z (fun (n4:Int) a0=>BId (n4=0) (K false [] 0 3 a0) (((0<=(1:Int)/\(1:Int)<=(i64.wrap (n4+(1:Int)))/\(i64.wrap (n4+(1:Int)))<=(((List.drop a.toNat b)).length:Int))/\(((List.take a.toNat b)).length+((List.drop (Int.toNat (1:Int)) (List.take (Int.toNat (i64.wrap (n4+(1:Int)))) (List.drop a.toNat b)))).length<=9223372036854775807/\((0<=(i64.wrap (n4+(1:Int)))/\(i64.wrap (n4+(1:Int)))<=(((List.drop a.toNat b)).length:Int))/\C3 ((List.drop (Int.toNat (i64.wrap (n4+(1:Int)))) (List.drop a.toNat b))) (((List.take a.toNat b)++(List.drop (Int.toNat (1:Int)) (List.take (Int.toNat (i64.wrap (n4+(1:Int)))) (List.drop a.toNat b))))) ((i64.wrap (0-n4))) m b3 s2 n3 a0))))))) (C3 ((List.drop a.toNat b)) ((List.take a.toNat b)) 0 m b3 s2 n3 z)))/\∀d e i f b5 s3 n5 p,C3 d e i f b5 s3 n5 p->(BId (d≠([]:B8)) (∃(C4:B8->Bool->B8->Int->Bool->B8->Int->St->Prop),(((0<=(0:Int)/\(0:Int)<(d.length:Int))/\BId (((List.getD d (Int.toNat (0:Int)) 0).toNat:Int)≠(101:Int)) (((0<=(0:Int)/\(0:Int)<(d.length:Int))/\BId (((List.getD d (Int.toNat (0:Int)) 0).toNat:Int)≠(69:Int)) (K false [] 0 3 p) (C4 d f e i b5 s3 n5 p))) (C4 d f e i b5 s3 n5 p)))/\∀c j g k b6 s4 n6 a2,C4 c j g k b6 s4 n6 a2->(((0<=(1:Int)/\(1:Int)<=(c.length:Int))/\CallT PR A9 [(.str (List.drop (Int.toNat (1:Int)) c)),.str Cc] [.one .bool] a2 (fun (b7:Bool) a1=>∃(C5:B8->Bool->B8->Int->Bool->Bool->B8->Int->St->Prop),(BIf b7 (((0<=(1:Int)/\(1:Int)<=(((List.drop (Int.toNat (1:Int)) c)).length:Int))/\C5 ((List.drop (Int.toNat (1:Int)) (List.drop (Int.toNat (1:Int)) c))) j g k b7 b6 s4 n6 a1)) (CallT PR A9 [(.str (List.drop (Int.toNat (1:Int)) c)),.str LT] [.one .bool] a1 (fun (b8:Bool) x=>BIf b8 (((0<=(1:Int)/\(1:Int)<=(((List.drop (Int.toNat (1:Int)) c)).length:Int))/\C5 ((List.drop (Int.toNat (1:Int)) (List.drop (Int.toNat (1:Int)) c))) j g k b7 b6 s4 n6 x)) (C5 ((List.drop (Int.toNat (1:Int)) c)) j g k b7 b6 s4 n6 x))))/\∀o u w t q b9 s5 n7 r,C5 o u w t q b9 s5 n7 r->(BId (o=([]:B8)) (K false [] 0 3 r) (CallT PR DR [.str o] [.one (.int .i64)] r (fun (n8:Int) y=>BId (n8≠(o.length:Int)) (K false [] 0 3 y) (CallT PR Ef [.str o,.str JW] [.one .str] y (fun (s6:B8) a8=>CallT PR Fm [.int .i64 t,.bool q,.str s6] [.one (.int .i64)] a8 (fun (n9:Int) a6=>CallT PR Dp [.bool u,.str w,.int .i64 n9] [.agg [.bool,.str,.int .i64],.one (.int .i64)] a6 (fun (b0:Bool) (s7:B8) (c2 c4:Int) a7=>K b0 s7 c2 c4 a7))))))))))) (CallT PR Dp [.bool f,.str e,.int .i64 i] [.agg [.bool,.str,.int .i64],.one (.int .i64)] p (fun (c0:Bool) (s8:B8) (c1 c3:Int) a9=>K c0 s8 c1 c3 a9)))))))))):CallT PR CS [.str s] [.agg [.bool,.str,.int .i64],.one (.int .i64)] st K:=
 Ae (cfg:=⟨[2],[],[]⟩) (h:=(.seq .none (.seq .none (.cut ⟨[(0,.str),(4,.bool)],[(2,0,0)],[(0,3)],[(0,0,.bool),(0,1,.str),(0,2,.int .i64)]⟩ .none (.seq .none (.cut ⟨[(0,.str),(4,.bool),(5,.int .i64)],[(2,0,0)],[(0,3)],[(0,0,.bool),(0,1,.str),(0,2,.int .i64)]⟩ .none (.seq .none (.seq .none (.seq .none (.cut ⟨[(0,.str),(6,.str),(7,.int .i64),(4,.bool)],[(2,0,0)],[(0,3)],[(0,0,.bool),(0,1,.str),(0,2,.int .i64)]⟩ .none (.seq (.seq .none (.cond (.cut ⟨[(0,.str),(4,.bool),(6,.str),(7,.int .i64)],[(2,0,0)],[(0,3)],[(0,0,.bool),(0,1,.str),(0,2,.int .i64)]⟩ .none (.seq .none (.seq .none (.cut ⟨[(0,.str),(4,.bool),(6,.str),(7,.int .i64),(8,.bool)],[(2,0,0)],[(0,3)],[(0,0,.bool),(0,1,.str),(0,2,.int .i64)]⟩ .none .none)))) .none)) .none))))))))))) mixed (fun _ _=>Tryz.call65 _ _) Tryz.func65 (by kernel_rfl) (by kernel_rfl) h
theorem N3 (s:B8) (st:St) (K:Int->Int->Int->Int->Int->St->Prop) (h:CallT PR Dt [(.box st.nb 0),(.box (st.push (.cells [.str s,.bool false]) (some 170)).nb 0)] [.one (.int .i64)] ((st.push (.cells [.str s,.bool false]) (some 170)).push (.cells [.int .i64 0,.int .i64 0,.int .i64 0,.int .i64 0,.int .i64 0,.int .i64 0,.int .i64 0,.int .u8 0,.int .i64 0,.int .i64 0]) (some 172)) (fun (n1:Int) a=>Ak (Af a [] (.t (.box st.nb 1)) 0) (fun (x1:TV)=>As .bool x1 (fun (b1:Bool)=>BIf b1 (K 0 0 0 0 3 a) (Ak (Af a [] (.t (.box st.nb 0)) 0) (fun (x2:TV)=>As .str x2 (fun (s1:B8)=>BId (s1≠([]:B8)) (K 0 0 0 0 3 a) (BId (n1≠2) (Ak (Af a [] (.t (.box (st.push (.cells [.str s,.bool false]) (some 170)).nb 0)) 0) (fun (x3:TV)=>As (.int .i64) x3 (fun (n2:Int)=>Ak (Af a [] (.t (.box (st.push (.cells [.str s,.bool false]) (some 170)).nb 1)) 0) (fun (x4:TV)=>As (.int .i64) x4 (fun (n3:Int)=>Ak (Af a [] (.t (.box (st.push (.cells [.str s,.bool false]) (some 170)).nb 2)) 0) (fun (x5:TV)=>As (.int .i64) x5 (fun (n4:Int)=>CallT PR F1 [.int .i64 n2,.int .i64 n3,.int .i64 n4] [.one (.int .i64),.one (.int .i64)] a (fun (n5 n6:Int) b=>BId (n6≠0) (K 0 0 0 0 2 b) (Ak (Af b [] (.t (.box (st.push (.cells [.str s,.bool false]) (some 170)).nb 3)) 0) (fun (x6:TV)=>As (.int .i64) x6 (fun (n7:Int)=>BId ((23:Int)<n7) (K 0 0 0 0 2 b) (Ak (Af b [] (.t (.box (st.push (.cells [.str s,.bool false]) (some 170)).nb 4)) 0) (fun (x7:TV)=>As (.int .i64) x7 (fun (n8:Int)=>BId ((59:Int)<n8) (K 0 0 0 0 2 b) (Ak (Af b [] (.t (.box (st.push (.cells [.str s,.bool false]) (some 170)).nb 5)) 0) (fun (x8:TV)=>As (.int .i64) x8 (fun (n9:Int)=>BId ((59:Int)<n9) (K 0 0 0 0 2 b) (Ak (Af b [] (.t (.box (st.push (.cells [.str s,.bool false]) (some 170)).nb 8)) 0) (fun (x9:TV)=>As (.int .i64) x9 (fun (a7:Int)=>BId ((23:Int)<a7) (K 0 0 0 0 2 b) (Ak (Af b [] (.t (.box (st.push (.cells [.str s,.bool false]) (some 170)).nb 9)) 0) (fun (a5:TV)=>As (.int .i64) a5 (fun (b7:Int)=>BId ((59:Int)<b7) (K 0 0 0 0 2 b) (Ak (Af b [] (.t (.box (st.push (.cells [.str s,.bool false]) (some 170)).nb 3)) 0) (fun (a8:TV)=>As (.int .i64) a8 (fun (k:Int)=>Ak (Af b [] (.t (.box (st.push (.cells [.str s,.bool false]) (some 170)).nb 4)) 0) (fun (q:TV)=>As (.int .i64) q (fun (m:Int)=>Ak (Af b [] (.t (.box (st.push (.cells [.str s,.bool false]) (some 170)).nb 5)) 0) (fun (p:TV)=>As (.int .i64) p (fun (d:Int)=>Ak (Af b [] (.t (.box (st.push (.cells [.str s,.bool false]) (some 170)).nb 6)) 0) (fun (b2:TV)=>As (.int .i64) b2 (fun (c:Int)=>Ak (Af b [] (.t (.box (st.push (.cells [.str s,.bool false]) (some 170)).nb 8)) 0) (fun (z:TV)=>As (.int .i64) z (fun (n:Int)=>Ak (Af b [] (.t (.box (st.push (.cells [.str s,.bool false]) (some 170)).nb 9)) 0) (fun (v:TV)=>As (.int .i64) v (fun (i:Int)=>Ak (Af b [] (.t (.box (st.push (.cells [.str s,.bool false]) (some 170)).nb 7)) 0) (fun (a4:TV)=>As (.int .u8) a4 (fun (w:Int)=>BId (w=45) (K n1 n5 ((i64.wrap ((i64.wrap ((i64.wrap ((i64.wrap ((i64.wrap ((i64.wrap (k*(60:Int)))+m))*(60:Int)))+d))*(1000000000:Int)))+c))) ((i64.wrap (0-(i64.wrap ((i64.wrap (n*(60:Int)))+i))))) 0 b) (K n1 n5 ((i64.wrap ((i64.wrap ((i64.wrap ((i64.wrap ((i64.wrap ((i64.wrap (k*(60:Int)))+m))*(60:Int)))+d))*(1000000000:Int)))+c))) ((i64.wrap ((i64.wrap (n*(60:Int)))+i))) 0 b))))))))))))))))))))))))))))))))))))))) (Ak (Af a [] (.t (.box (st.push (.cells [.str s,.bool false]) (some 170)).nb 3)) 0) (fun (a3:TV)=>As (.int .i64) a3 (fun (b8:Int)=>BId ((23:Int)<b8) (K 0 0 0 0 2 a) (Ak (Af a [] (.t (.box (st.push (.cells [.str s,.bool false]) (some 170)).nb 4)) 0) (fun (b6:TV)=>As (.int .i64) b6 (fun (a0:Int)=>BId ((59:Int)<a0) (K 0 0 0 0 2 a) (Ak (Af a [] (.t (.box (st.push (.cells [.str s,.bool false]) (some 170)).nb 5)) 0) (fun (a6:TV)=>As (.int .i64) a6 (fun (a1:Int)=>BId ((59:Int)<a1) (K 0 0 0 0 2 a) (Ak (Af a [] (.t (.box (st.push (.cells [.str s,.bool false]) (some 170)).nb 8)) 0) (fun (a2:TV)=>As (.int .i64) a2 (fun (b0:Int)=>BId ((23:Int)<b0) (K 0 0 0 0 2 a) (Ak (Af a [] (.t (.box (st.push (.cells [.str s,.bool false]) (some 170)).nb 9)) 0) (fun (b5:TV)=>As (.int .i64) b5 (fun (b4:Int)=>BId ((59:Int)<b4) (K 0 0 0 0 2 a) (Ak (Af a [] (.t (.box (st.push (.cells [.str s,.bool false]) (some 170)).nb 3)) 0) (fun (b9:TV)=>As (.int .i64) b9 (fun (f:Int)=>Ak (Af a [] (.t (.box (st.push (.cells [.str s,.bool false]) (some 170)).nb 4)) 0) (fun (x:TV)=>As (.int .i64) x (fun (o:Int)=>Ak (Af a [] (.t (.box (st.push (.cells [.str s,.bool false]) (some 170)).nb 5)) 0) (fun (a9:TV)=>As (.int .i64) a9 (fun (g:Int)=>Ak (Af a [] (.t (.box (st.push (.cells [.str s,.bool false]) (some 170)).nb 6)) 0) (fun (u:TV)=>As (.int .i64) u (fun (e:Int)=>Ak (Af a [] (.t (.box (st.push (.cells [.str s,.bool false]) (some 170)).nb 8)) 0) (fun (r:TV)=>As (.int .i64) r (fun (j:Int)=>Ak (Af a [] (.t (.box (st.push (.cells [.str s,.bool false]) (some 170)).nb 9)) 0) (fun (y:TV)=>As (.int .i64) y (fun (l:Int)=>Ak (Af a [] (.t (.box (st.push (.cells [.str s,.bool false]) (some 170)).nb 7)) 0) (fun (c0:TV)=>As (.int .u8) c0 (fun (b3:Int)=>BId (b3=45) (K n1 0 ((i64.wrap ((i64.wrap ((i64.wrap ((i64.wrap ((i64.wrap ((i64.wrap (f*(60:Int)))+o))*(60:Int)))+g))*(1000000000:Int)))+e))) ((i64.wrap (0-(i64.wrap ((i64.wrap (j*(60:Int)))+l))))) 0 a) (K n1 0 ((i64.wrap ((i64.wrap ((i64.wrap ((i64.wrap ((i64.wrap ((i64.wrap (f*(60:Int)))+o))*(60:Int)))+g))*(1000000000:Int)))+e))) ((i64.wrap ((i64.wrap (j*(60:Int)))+l))) 0 a))))))))))))))))))))))))))))))))))))))):CallT PR FW [.str s] [.agg [.int .i64,.int .i64,.int .i64,.int .i64],.one (.int .i64)] st K:=
 Ae (cfg:=⟨[2,7],[],[]⟩) (h:= .none) mixed (fun _ _=>Tryz.call66 _ _) Tryz.func66 (by kernel_rfl) (by kernel_rfl) h
theorem Jo (s:B8) (st:St) (K:Bool->B8->Int->Int->St->Prop) (h:∃(C1:Int->B8->Bool->B8->Int->St->Prop),(BId ((0:Int)<(s.length:Int)) (((0<=(0:Int)/\(0:Int)<(s.length:Int))/\BId (((List.getD s (Int.toNat (0:Int)) 0).toNat:Int)=(45:Int)) (C1 1 s false [] 0 st) (C1 0 s false [] 0 st))) (C1 0 s false [] 0 st))/\∀i a1 b1 s1 n1 d6,C1 i a1 b1 s1 n1 d6->(CallT PR B5 [.str a1,.int .i64 i] [.one (.int .i64)] d6 (fun (n2:Int) c5=>∃(C2:B8->Int->Bool->Int->Bool->B8->Int->St->Prop),(BId (n2=i) (K false [] 0 3 c5) (((0<=i/\i<(a1.length:Int))/\BId (((List.getD a1 i.toNat 0).toNat:Int)=(48:Int)) (BId ((i64.wrap (i+(1:Int)))<n2) (K false [] 0 3 c5) (C2 a1 i ((decide (i=1))) n2 b1 s1 n1 c5)) (C2 a1 i ((decide (i=1))) n2 b1 s1 n1 c5))))/\∀n a8 a7 j b2 s2 n3 c8,C2 n a8 a7 j b2 s2 n3 c8->(((0<=a8/\a8<=j/\j<=(n.length:Int))/\∃(C3:Int->B8->Int->B8->Bool->Bool->B8->Int->St->Prop),(∃(C4:Bool->B8->Bool->Int->B8->Int->Bool->B8->Int->St->Prop),(BId (j<(n.length:Int)) (((0<=j/\j<(n.length:Int))/\C4 ((decide (((List.getD n j.toNat 0).toNat:Int)=(46:Int)))) n a7 j ((List.drop a8.toNat (List.take j.toNat n))) 0 b2 s2 n3 c8)) (C4 false n a7 j ((List.drop a8.toNat (List.take j.toNat n))) 0 b2 s2 n3 c8))/\∀d1 z a6 p d c6 b3 s3 n4 c9,C4 d1 z a6 p d c6 b3 s3 n4 c9->(BIf d1 (CallT PR B5 [.str z,(.int .i64 (i64.wrap (p+(1:Int))))] [.one (.int .i64)] c9 (fun (n5:Int) d2=>BId (n5=(i64.wrap (p+(1:Int)))) (K false [] 0 3 d2) (((0<=(i64.wrap (p+(1:Int)))/\(i64.wrap (p+(1:Int)))<=n5/\n5<=(z.length:Int))/\(d.length+((List.drop (Int.toNat (i64.wrap (p+(1:Int)))) (List.take n5.toNat z))).length<=9223372036854775807/\C3 n5 ((d++(List.drop (Int.toNat (i64.wrap (p+(1:Int)))) (List.take n5.toNat z)))) ((i64.wrap ((i64.wrap (p+(1:Int)))-n5))) z a6 b3 s3 n4 d2))))) (C3 p d c6 z a6 b3 s3 n4 c9)))/\∀g c w m u b4 s4 n6 c1,C3 g c w m u b4 s4 n6 c1->(∃(C5:Int->Int->B8->Bool->B8->Bool->B8->Int->St->Prop),(∃(C6:Bool->B8->Bool->Int->B8->Int->Bool->B8->Int->St->Prop),(BId (g<(m.length:Int)) (((0<=g/\g<(m.length:Int))/\BId (((List.getD m g.toNat 0).toNat:Int)=(101:Int)) (C6 true m u g c w b4 s4 n6 c1) (((0<=g/\g<(m.length:Int))/\C6 ((decide (((List.getD m g.toNat 0).toNat:Int)=(69:Int)))) m u g c w b4 s4 n6 c1)))) (C6 false m u g c w b4 s4 n6 c1))/\∀d7 x v r b t b5 s5 n7 c4,C6 d7 x v r b t b5 s5 n7 c4->(BIf d7 (∃(C7:Bool->B8->Bool->Int->B8->Int->Bool->B8->Int->St->Prop),(BId ((i64.wrap (r+(1:Int)))<(x.length:Int)) (((0<=(i64.wrap (r+(1:Int)))/\(i64.wrap (r+(1:Int)))<(x.length:Int))/\C7 ((decide (((List.getD x (Int.toNat (i64.wrap (r+(1:Int)))) 0).toNat:Int)=(45:Int)))) x v ((i64.wrap (r+(1:Int)))) b t b5 s5 n7 c4)) (C7 false x v ((i64.wrap (r+(1:Int)))) b t b5 s5 n7 c4))/\∀f k o e a q b6 s6 n8 a9,C7 f k o e a q b6 s6 n8 a9->(∃(C8:Int->B8->Bool->B8->Int->Bool->Bool->B8->Int->St->Prop),(BId (e<(k.length:Int)) (((0<=e/\e<(k.length:Int))/\BId (((List.getD k e.toNat 0).toNat:Int)=(45:Int)) (C8 ((i64.wrap (e+(1:Int)))) k o a q f b6 s6 n8 a9) (((0<=e/\e<(k.length:Int))/\BId (((List.getD k e.toNat 0).toNat:Int)=(43:Int)) (C8 ((i64.wrap (e+(1:Int)))) k o a q f b6 s6 n8 a9) (C8 e k o a q f b6 s6 n8 a9))))) (C8 e k o a q f b6 s6 n8 a9))/\∀a0 a2 a5 l a4 b0 b7 s7 n9 d4,C8 a0 a2 a5 l a4 b0 b7 s7 n9 d4->(CallT PR B5 [.str a2,.int .i64 a0] [.one (.int .i64)] d4 (fun (a3:Int) c7=>BId (a3=a0) (K false [] 0 3 c7) (((0<=a0/\a0<=a3/\a3<=(a2.length:Int))/\CallT PR Dx [(.str (List.drop a0.toNat (List.take a3.toNat a2)))] [.one (.int .i64)] c7 (fun (d8:Int) d0=>BIf b0 (C5 a3 ((i64.wrap (a4+(i64.wrap (0-d8))))) a2 a5 l b7 s7 n9 d0) (C5 a3 ((i64.wrap (a4+d8))) a2 a5 l b7 s7 n9 d0)))))))) (C5 r t x v b b5 s5 n7 c4)))/\∀d3 c2 d5 c3 y b8 s8 e1 c0,C5 d3 c2 d5 c3 y b8 s8 e1 c0->(BId (d3<(d5.length:Int)) (K false [] 0 3 c0) (CallT PR Df [.bool c3,.str y,.int .i64 c2] [.agg [.bool,.str,.int .i64],.one (.int .i64)] c0 (fun (b9:Bool) (s9:B8) (e2 e0:Int) d9=>K b9 s9 e2 e0 d9))))))))):CallT PR Dz [.str s] [.agg [.bool,.str,.int .i64],.one (.int .i64)] st K:=
 Ae (cfg:=⟨[2],[],[]⟩) (h:=(.seq .none (.seq .none (.cut ⟨[(4,.int .i64),(0,.str)],[(2,0,0)],[(0,3)],[(0,0,.bool),(0,1,.str),(0,2,.int .i64)]⟩ .none (.seq .none (.seq .none (.cut ⟨[(0,.str),(4,.int .i64),(5,.bool),(6,.int .i64)],[(2,0,0)],[(0,3)],[(0,0,.bool),(0,1,.str),(0,2,.int .i64)]⟩ .none (.seq .none (.seq .none (.cut ⟨[(6,.int .i64),(7,.str),(8,.int .i64),(0,.str),(5,.bool)],[(2,0,0)],[(0,3)],[(0,0,.bool),(0,1,.str),(0,2,.int .i64)]⟩ (.cut ⟨[(55,.bool),(0,.str),(5,.bool),(6,.int .i64),(7,.str),(8,.int .i64)],[(2,0,0)],[(0,3)],[(0,0,.bool),(0,1,.str),(0,2,.int .i64)]⟩ .none .none) (.cut ⟨[(6,.int .i64),(8,.int .i64),(0,.str),(5,.bool),(7,.str)],[(2,0,0)],[(0,3)],[(0,0,.bool),(0,1,.str),(0,2,.int .i64)]⟩ (.cut ⟨[(92,.bool),(0,.str),(5,.bool),(6,.int .i64),(7,.str),(8,.int .i64)],[(2,0,0)],[(0,3)],[(0,0,.bool),(0,1,.str),(0,2,.int .i64)]⟩ .none (.cond (.seq .none (.cut ⟨[(10,.bool),(0,.str),(5,.bool),(6,.int .i64),(7,.str),(8,.int .i64)],[(2,0,0)],[(0,3)],[(0,0,.bool),(0,1,.str),(0,2,.int .i64)]⟩ .none (.cut ⟨[(6,.int .i64),(0,.str),(5,.bool),(7,.str),(8,.int .i64),(10,.bool)],[(2,0,0)],[(0,3)],[(0,0,.bool),(0,1,.str),(0,2,.int .i64)]⟩ .none .none))) .none)) .none))))))))))) mixed (fun _ _=>Tryz.call69 _ _) Tryz.func69 (by kernel_rfl) (by kernel_rfl) h
theorem Jj (s:B8) (st:St) (K:Int->Int->Int->Int->Int->St->Prop) (h:CallT PR Bq [.str s,.str str13] [.one .bool] st (fun (b1:Bool) k=>BIf (!b1) (CallT PR AQ [.str s] [.one (.int .i64),.one .str,.one .bool,.one .bool] k (fun (n1:Int) (s1:B8) (b2 b3:Bool) i=>BIf (!b2) (K 0 0 0 0 3 i) (BId (s1≠([]:B8)) (K 0 0 0 0 3 i) (BIf (!b3) (K 0 0 0 0 2 i) (K 2 0 n1 0 0 i))))) (((0<=(4:Int)/\(4:Int)<=(s.length:Int))/\((0<=(5:Int)/\(5:Int)<=(7:Int)/\(7:Int)<=(s.length:Int))/\((0<=(8:Int)/\(8:Int)<=(10:Int)/\(10:Int)<=(s.length:Int))/\CallT PR Ao [(.str (List.take (Int.toNat (4:Int)) s))] [.one (.int .i64)] k (fun (n2:Int) v=>CallT PR Ao [(.str (List.drop (Int.toNat (5:Int)) (List.take (Int.toNat (7:Int)) s)))] [.one (.int .i64)] v (fun (n3:Int) w=>CallT PR Ao [(.str (List.drop (Int.toNat (8:Int)) (List.take (Int.toNat (10:Int)) s)))] [.one (.int .i64)] w (fun (n4:Int) o=>CallT PR Ej [.int .i64 n2,.int .i64 n3,.int .i64 n4] [.one (.int .i64),.one (.int .i64)] o (fun (n5 n6:Int) d=>((0<=(10:Int)/\(10:Int)<=(s.length:Int))/\BId ((List.drop (Int.toNat (10:Int)) s)=([]:B8)) (BId (n6≠0) (K 0 0 0 0 n6 d) (K 1 n5 0 0 0 d)) (((0<=(0:Int)/\(0:Int)<(((List.drop (Int.toNat (10:Int)) s)).length:Int))/\BId (((List.getD (List.drop (Int.toNat (10:Int)) s) (Int.toNat (0:Int)) 0).toNat:Int)≠(84:Int)) (((0<=(0:Int)/\(0:Int)<(((List.drop (Int.toNat (10:Int)) s)).length:Int))/\BId (((List.getD (List.drop (Int.toNat (10:Int)) s) (Int.toNat (0:Int)) 0).toNat:Int)≠(116:Int)) (((0<=(0:Int)/\(0:Int)<(((List.drop (Int.toNat (10:Int)) s)).length:Int))/\BId (((List.getD (List.drop (Int.toNat (10:Int)) s) (Int.toNat (0:Int)) 0).toNat:Int)≠(32:Int)) (K 0 0 0 0 3 d) (((0<=(1:Int)/\(1:Int)<=(((List.drop (Int.toNat (10:Int)) s)).length:Int))/\CallT PR AQ [(.str (List.drop (Int.toNat (1:Int)) (List.drop (Int.toNat (10:Int)) s)))] [.one (.int .i64),.one .str,.one .bool,.one .bool] d (fun (n7:Int) (s2:B8) (b4 b5:Bool) g=>BIf (!b4) (K 0 0 0 0 3 g) (BId (s2≠([]:B8)) (CallT PR AV [.str s2] [.one (.int .i64),.one .bool,.one .bool] g (fun (n8:Int) (b6 b7:Bool) e=>BIf (!b6) (K 0 0 0 0 3 e) (BIf b5 (BId (n6≠0) (K 0 0 0 0 2 e) (BIf (!b7) (K 0 0 0 0 2 e) (K 4 n5 n7 n8 0 e))) (BId (n6≠0) (K 0 0 0 0 2 e) (K 0 0 0 0 2 e))))) (BId (n6≠0) (K 0 0 0 0 2 g) (BIf (!b5) (K 0 0 0 0 2 g) (K 3 n5 n7 0 0 g))))))))) (((0<=(1:Int)/\(1:Int)<=(((List.drop (Int.toNat (10:Int)) s)).length:Int))/\CallT PR AQ [(.str (List.drop (Int.toNat (1:Int)) (List.drop (Int.toNat (10:Int)) s)))] [.one (.int .i64),.one .str,.one .bool,.one .bool] d (fun (n9:Int) (s3:B8) (b8 b9:Bool) f=>BIf (!b8) (K 0 0 0 0 3 f) (BId (s3≠([]:B8)) (CallT PR AV [.str s3] [.one (.int .i64),.one .bool,.one .bool] f (fun (t:Int) (m n:Bool) a=>BIf (!m) (K 0 0 0 0 3 a) (BIf b9 (BId (n6≠0) (K 0 0 0 0 2 a) (BIf (!n) (K 0 0 0 0 2 a) (K 4 n5 n9 t 0 a))) (BId (n6≠0) (K 0 0 0 0 2 a) (K 0 0 0 0 2 a))))) (BId (n6≠0) (K 0 0 0 0 2 f) (BIf (!b9) (K 0 0 0 0 2 f) (K 3 n5 n9 0 0 f))))))))) (((0<=(1:Int)/\(1:Int)<=(((List.drop (Int.toNat (10:Int)) s)).length:Int))/\CallT PR AQ [(.str (List.drop (Int.toNat (1:Int)) (List.drop (Int.toNat (10:Int)) s)))] [.one (.int .i64),.one .str,.one .bool,.one .bool] d (fun (l:Int) (s4:B8) (r j:Bool) c=>BIf (!r) (K 0 0 0 0 3 c) (BId (s4≠([]:B8)) (CallT PR AV [.str s4] [.one (.int .i64),.one .bool,.one .bool] c (fun (q:Int) (p u:Bool) b=>BIf (!p) (K 0 0 0 0 3 b) (BIf j (BId (n6≠0) (K 0 0 0 0 2 b) (BIf (!u) (K 0 0 0 0 2 b) (K 4 n5 l q 0 b))) (BId (n6≠0) (K 0 0 0 0 2 b) (K 0 0 0 0 2 b))))) (BId (n6≠0) (K 0 0 0 0 2 c) (BIf (!j) (K 0 0 0 0 2 c) (K 3 n5 l 0 0 c)))))))))))))))))))):CallT PR Dw [.str s] [.agg [.int .i64,.int .i64,.int .i64,.int .i64],.one (.int .i64)] st K:=
 Ae (cfg:=⟨[2,14],[],[]⟩) (h:= .none) mixed (fun _ _=>Tryz.call70 _ _) Tryz.func70 (by kernel_rfl) (by kernel_rfl) h
theorem I0 (d_0:Bool) (d_1:B8) (d_2:Int) (st:St) (K:B8->St->Prop) (h:∃(C1:Bool->B8->Int->St->Prop),(BId (d_1=([]:B8)) (K JW st) (CallT PR Eb [(.agg [.bool d_0,.str d_1,.int .i64 d_2])] [.one .bool] st (fun (b1:Bool) u=>BIf (!b1) (K JW u) (C1 d_0 d_1 d_2 u))))/\∀b2 s1 n1 p,C1 b2 s1 n1 p->(∃(C2:B8->Bool->B8->Int->St->Prop),(BIf b2 (C2 Cc b2 s1 n1 p) (C2 [] b2 s1 n1 p))/\∀l b3 s2 n2 q,C2 l b3 s2 n2 q->(∃(C3:B8->Int->Int->Bool->B8->Int->St->Prop),(∃(C4:Bool->B8->Int->Int->Bool->B8->Int->St->Prop),(BId ((0:Int)<=n2) (C4 ((decide ((i64.wrap ((s2.length:Int)+n2))<=(21:Int)))) l ((s2.length:Int)) ((i64.wrap ((s2.length:Int)+n2))) b3 s2 n2 q) (C4 false l ((s2.length:Int)) ((i64.wrap ((s2.length:Int)+n2))) b3 s2 n2 q))/\∀s c k e b4 s3 n3 i,C4 s c k e b4 s3 n3 i->(BIf s ((c.length+s3.length<=9223372036854775807/\CallT PR EV [.str JW,.int .i64 n3] [.one .str] i (fun (s4:B8) y=>(((c++s3)).length+s4.length<=9223372036854775807/\K (((c++s3)++s4)) y)))) (∃(C5:Bool->B8->Int->Int->Bool->B8->Int->St->Prop),(BId (n3<0) (BId ((1:Int)<=e) (C5 ((decide (e<=21))) c k e b4 s3 n3 i) (C5 false c k e b4 s3 n3 i)) (C5 false c k e b4 s3 n3 i))/\∀v b r a b5 s5 n4 g,C5 v b r a b5 s5 n4 g->(BIf v (((0<=a/\a<=(s5.length:Int))/\(b.length+((List.take a.toNat s5)).length<=9223372036854775807/\(((b++(List.take a.toNat s5))).length+Dl.length<=9223372036854775807/\((0<=a/\a<=(s5.length:Int))/\((((b++(List.take a.toNat s5))++Dl)).length+((List.drop a.toNat s5)).length<=9223372036854775807/\K ((((b++(List.take a.toNat s5))++Dl)++(List.drop a.toNat s5))) g)))))) (BId ((-5:Int)<=a) (BId (a<=0) ((b.length+NE.length<=9223372036854775807/\CallT PR EV [.str JW,(.int .i64 (i64.wrap (0-a)))] [.one .str] g (fun (s6:B8) z=>(((b++NE)).length+s6.length<=9223372036854775807/\((((b++NE)++s6)).length+s5.length<=9223372036854775807/\K ((((b++NE)++s6)++s5)) z))))) (C3 b r a b5 s5 n4 g)) (C3 b r a b5 s5 n4 g))))))/\∀f t m b6 s7 n5 o,C3 f t m b6 s7 n5 o->(((0<=(1:Int)/\(1:Int)<=(s7.length:Int))/\(f.length+((List.take (Int.toNat (1:Int)) s7)).length<=9223372036854775807/\∃(C6:B8->Int->St->Prop),(BId ((1:Int)<t) (((0<=(1:Int)/\(1:Int)<=(s7.length:Int))/\(Dl.length+((List.drop (Int.toNat (1:Int)) s7)).length<=9223372036854775807/\(((f++(List.take (Int.toNat (1:Int)) s7))).length+((Dl++(List.drop (Int.toNat (1:Int)) s7))).length<=9223372036854775807/\C6 (((f++(List.take (Int.toNat (1:Int)) s7))++(Dl++(List.drop (Int.toNat (1:Int)) s7)))) m o)))) (C6 ((f++(List.take (Int.toNat (1:Int)) s7))) m o))/\∀d j n,C6 d j n->(BId (j<1) ((d.length+Xl.length<=9223372036854775807/\CallT PR Ea [(.int .i64 (i64.wrap ((1:Int)-j)))] [.one .str] n (fun (s8:B8) w=>(((d++Xl)).length+s8.length<=9223372036854775807/\K (((d++Xl)++s8)) w)))) ((d.length+LS.length<=9223372036854775807/\CallT PR Ea [(.int .i64 (i64.wrap (j-(1:Int))))] [.one .str] n (fun (s9:B8) x=>(((d++LS)).length+s9.length<=9223372036854775807/\K (((d++LS)++s9)) x))))))))))):CallT PR F0 [(.agg [.bool d_0,.str d_1,.int .i64 d_2])] [.one .str] st K:=
 Ae (cfg:=⟨[1],[],[]⟩) (h:=(.seq .none (.cut ⟨[],[(1,0,0)],[(0,3)],[(0,0,.bool),(0,1,.str),(0,2,.int .i64)]⟩ .none (.seq .none (.cut ⟨[(3,.str)],[(1,0,0)],[(0,3)],[(0,0,.bool),(0,1,.str),(0,2,.int .i64)]⟩ .none (.seq .none (.seq .none (.cut ⟨[(3,.str),(4,.int .i64),(5,.int .i64)],[(1,0,0)],[(0,3)],[(0,0,.bool),(0,1,.str),(0,2,.int .i64)]⟩ (.block (.cut ⟨[(23,.bool),(3,.str),(4,.int .i64),(5,.int .i64)],[(1,0,0)],[(0,3)],[(0,0,.bool),(0,1,.str),(0,2,.int .i64)]⟩ .none (.cond .none (.cut ⟨[(39,.bool),(3,.str),(4,.int .i64),(5,.int .i64)],[(1,0,0)],[(0,3)],[(0,0,.bool),(0,1,.str),(0,2,.int .i64)]⟩ .none .none)))) (.seq .none (.cut ⟨[(3,.str),(5,.int .i64)],[],[],[]⟩ .none .none)))))))))) mixed (fun _ _=>Tryz.call71 _ _) Tryz.func71 (by kernel_rfl) (by kernel_rfl) h
theorem OD (t_0:Int) (t_1:Int) (t_2:Int) (t_3:Int) (st:St) (K:B8->St->Prop) (h:CallT PR Do [(.agg [.int .i64 t_0,.int .i64 t_1,.int .i64 t_2,.int .i64 t_3])] [.one .bool] st (fun (b1:Bool) a=>BIf (!b1) (K [] a) (BId (t_0=1) (CallT PR BK [.int .i64 t_1] [.one .str] a (fun (s1:B8) d=>K s1 d)) (BId (t_0=2) (CallT PR BE [.int .i64 t_2] [.one .str] a (fun (s2:B8) f=>K s2 f)) (BId (t_0=3) (CallT PR BK [.int .i64 t_1] [.one .str] a (fun (s3:B8) g=>(s3.length+G5.length<=9223372036854775807/\CallT PR BE [.int .i64 t_2] [.one .str] g (fun (s4:B8) i=>(((s3++G5)).length+s4.length<=9223372036854775807/\K (((s3++G5)++s4)) i))))) (CallT PR BK [.int .i64 t_1] [.one .str] a (fun (s5:B8) b=>(s5.length+G5.length<=9223372036854775807/\CallT PR BE [.int .i64 t_2] [.one .str] b (fun (s6:B8) c=>(((s5++G5)).length+s6.length<=9223372036854775807/\CallT PR DQ [.int .i64 t_3] [.one .str] c (fun (s7:B8) e=>((((s5++G5)++s6)).length+s7.length<=9223372036854775807/\K ((((s5++G5)++s6)++s7)) e)))))))))))):CallT PR GG [(.agg [.int .i64 t_0,.int .i64 t_1,.int .i64 t_2,.int .i64 t_3])] [.one .str] st K:=
 Ae (cfg:=⟨[1],[],[]⟩) (h:= .none) mixed (fun _ _=>Tryz.call72 _ _) Tryz.func72 (by kernel_rfl) (by kernel_rfl) h
theorem Fy (d_0:Bool) (d_1:B8) (d_2:Int) (st:St) (K:B8->St->Prop) (h:BId (d_1=([]:B8)) (K JW st) (∃(C1:B8->Bool->B8->Int->St->Prop),(BIf d_0 (C1 Cc d_0 d_1 d_2 st) (C1 [] d_0 d_1 d_2 st))/\∀e b1 s1 n1 i,C1 e b1 s1 n1 i->(∃(C2:B8->Int->Bool->B8->Int->St->Prop),(BId ((0:Int)<=n1) (BId ((i64.wrap ((s1.length:Int)+n1))<=(21:Int)) ((e.length+s1.length<=9223372036854775807/\CallT PR BZ [.int .i64 n1] [.one .str] i (fun (s2:B8) n=>(((e++s1)).length+s2.length<=9223372036854775807/\K (((e++s1)++s2)) n)))) (C2 e ((i64.wrap ((s1.length:Int)+n1))) b1 s1 n1 i)) (C2 e ((i64.wrap ((s1.length:Int)+n1))) b1 s1 n1 i))/\∀c a b2 s3 n2 g,C2 c a b2 s3 n2 g->(∃(C3:B8->Int->Bool->B8->Int->St->Prop),(BId (n2<0) (BId ((1:Int)<=a) (BId (a<=21) (((0<=a/\a<=(s3.length:Int))/\(c.length+((List.take a.toNat s3)).length<=9223372036854775807/\(((c++(List.take a.toNat s3))).length+Dl.length<=9223372036854775807/\((0<=a/\a<=(s3.length:Int))/\((((c++(List.take a.toNat s3))++Dl)).length+((List.drop a.toNat s3)).length<=9223372036854775807/\K ((((c++(List.take a.toNat s3))++Dl)++(List.drop a.toNat s3))) g)))))) (C3 c a b2 s3 n2 g)) (C3 c a b2 s3 n2 g)) (C3 c a b2 s3 n2 g))/\∀d f b3 s4 n3 j,C3 d f b3 s4 n3 j->(∃(C4:B8->Int->Bool->B8->Int->St->Prop),(BId ((-5:Int)<=f) (BId (f<=0) ((d.length+NE.length<=9223372036854775807/\CallT PR BZ [(.int .i64 (i64.wrap (0-f)))] [.one .str] j (fun (s5:B8) p=>(((d++NE)).length+s5.length<=9223372036854775807/\((((d++NE)++s5)).length+s4.length<=9223372036854775807/\K ((((d++NE)++s5)++s4)) p))))) (C4 d f b3 s4 n3 j)) (C4 d f b3 s4 n3 j))/\∀b l b4 s6 n4 k,C4 b l b4 s6 n4 k->(((0<=(1:Int)/\(1:Int)<=(s6.length:Int))/\(b.length+((List.take (Int.toNat (1:Int)) s6)).length<=9223372036854775807/\BId ((1:Int)<(s6.length:Int)) ((((b++(List.take (Int.toNat (1:Int)) s6))).length+Dl.length<=9223372036854775807/\((0<=(1:Int)/\(1:Int)<=(s6.length:Int))/\((((b++(List.take (Int.toNat (1:Int)) s6))++Dl)).length+((List.drop (Int.toNat (1:Int)) s6)).length<=9223372036854775807/\(((((b++(List.take (Int.toNat (1:Int)) s6))++Dl)++(List.drop (Int.toNat (1:Int)) s6))).length+LS.length<=9223372036854775807/\CallT PR Cb [(.int .i64 (i64.wrap (l-(1:Int))))] [.one .str] k (fun (s7:B8) m=>((((((b++(List.take (Int.toNat (1:Int)) s6))++Dl)++(List.drop (Int.toNat (1:Int)) s6))++LS)).length+s7.length<=9223372036854775807/\K ((((((b++(List.take (Int.toNat (1:Int)) s6))++Dl)++(List.drop (Int.toNat (1:Int)) s6))++LS)++s7)) m))))))) ((((b++(List.take (Int.toNat (1:Int)) s6))).length+LS.length<=9223372036854775807/\CallT PR Cb [(.int .i64 (i64.wrap (l-(1:Int))))] [.one .str] k (fun (s8:B8) o=>((((b++(List.take (Int.toNat (1:Int)) s6))++LS)).length+s8.length<=9223372036854775807/\K ((((b++(List.take (Int.toNat (1:Int)) s6))++LS)++s8)) o)))))))))))):CallT PR DZ [(.agg [.bool d_0,.str d_1,.int .i64 d_2])] [.one .str] st K:=
 Ae (cfg:=⟨[1],[],[]⟩) (h:=(.seq .none (.seq .none (.seq .none (.cut ⟨[(3,.str)],[(1,0,0)],[(0,3)],[(0,0,.bool),(0,1,.str),(0,2,.int .i64)]⟩ .none (.seq .none (.cut ⟨[(3,.str),(4,.int .i64)],[(1,0,0)],[(0,3)],[(0,0,.bool),(0,1,.str),(0,2,.int .i64)]⟩ .none (.cut ⟨[(3,.str),(4,.int .i64)],[(1,0,0)],[(0,3)],[(0,0,.bool),(0,1,.str),(0,2,.int .i64)]⟩ .none (.cut ⟨[(3,.str),(4,.int .i64)],[(1,0,0)],[(0,3)],[(0,0,.bool),(0,1,.str),(0,2,.int .i64)]⟩ .none .none))))))))) mixed (fun _ _=>Tryz.call74 _ _) Tryz.func74 (by kernel_rfl) (by kernel_rfl) h
theorem JK (t_0:Int) (t_1:Int) (t_2:Int) (t_3:Int) (st:St) (K:B8->St->Prop) (h:CallT PR Cp [(.agg [.int .i64 t_0,.int .i64 t_1,.int .i64 t_2,.int .i64 t_3])] [.one .bool] st (fun (b1:Bool) b=>BIf (!b1) (K [] b) (CallT PR DY [.int .i64 t_1] [.one (.int .i64),.one (.int .i64),.one (.int .i64),.one (.int .i64)] b (fun (n1 n2 n3 n4:Int) e=>CallT PR AB [.int .i64 n1,.int .i64 4] [.one .str] e (fun (s1:B8) i=>(s1.length+Cc.length<=9223372036854775807/\CallT PR AB [.int .i64 n2,.int .i64 2] [.one .str] i (fun (s2:B8) j=>(((s1++Cc)).length+s2.length<=9223372036854775807/\((((s1++Cc)++s2)).length+Cc.length<=9223372036854775807/\CallT PR AB [.int .i64 n3,.int .i64 2] [.one .str] j (fun (s3:B8) a=>(((((s1++Cc)++s2)++Cc)).length+s3.length<=9223372036854775807/\BId (t_0=1) (K (((((s1++Cc)++s2)++Cc)++s3)) a) (BId (t_0=2) (CallT PR Bi [.int .i64 t_2] [.one .str] a (fun (s4:B8) c=>K s4 c)) (BId (t_0=3) (((((((s1++Cc)++s2)++Cc)++s3)).length+G5.length<=9223372036854775807/\CallT PR Bi [.int .i64 t_2] [.one .str] a (fun (s5:B8) d=>(((((((s1++Cc)++s2)++Cc)++s3)++G5)).length+s5.length<=9223372036854775807/\K (((((((s1++Cc)++s2)++Cc)++s3)++G5)++s5)) d)))) (((((((s1++Cc)++s2)++Cc)++s3)).length+G5.length<=9223372036854775807/\CallT PR Bi [.int .i64 t_2] [.one .str] a (fun (s6:B8) g=>(((((((s1++Cc)++s2)++Cc)++s3)++G5)).length+s6.length<=9223372036854775807/\CallT PR Dd [.int .i64 t_3] [.one .str] g (fun (s7:B8) f=>((((((((s1++Cc)++s2)++Cc)++s3)++G5)++s6)).length+s7.length<=9223372036854775807/\K ((((((((s1++Cc)++s2)++Cc)++s3)++G5)++s6)++s7)) f))))))))))))))))))):CallT PR DX [(.agg [.int .i64 t_0,.int .i64 t_1,.int .i64 t_2,.int .i64 t_3])] [.one .str] st K:=
 Ae (cfg:=⟨[1],[],[]⟩) (h:= .none) mixed (fun _ _=>Tryz.call75 _ _) Tryz.func75 (by kernel_rfl) (by kernel_rfl) h
end Go.TVF
