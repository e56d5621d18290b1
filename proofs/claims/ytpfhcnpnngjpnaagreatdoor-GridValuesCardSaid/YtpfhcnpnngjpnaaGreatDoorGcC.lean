/- What the laws below rest on: a framework for Go programs, and contracts of the functions that they reach. -/
import Derived.Test.YtpfhcnpnngjpnaaGreatDoorGcB
import Derived.Deep.Slices
import Derived.WideShapes
import Derived.ChangeArms
import Derived.OpenShut
import Derived.Test.YtpfhcnpnngjpnaaGreatDoorProg
import Derived.KernelRfl
set_option maxRecDepth 20000
set_option linter.unusedVariables false
set_option linter.unusedSimpArgs false
section
namespace Go.TVF
open Go.IntKind(i64 u8)
open Go.RowKit (Below)
theorem Rr {P:Program} {Q:Exit->Act->World->Prop} {a:Act} {w:World} {c:Code} (I:Nat->Act->World->Prop) (h₀:∃m,I m a w)
  (round:∀m a w,I m a w->c.wp P (Exit.then (fun a' w'=>∃m',m'<m/\I m' a' w') Q) a w):(Code.loop c).wp P Q a w:=by
 intro b k cs
 have key:∀m a w,I m a w->∃e a' w',Q e a' w'/\Arrives P (lone (b.at a (.code c:: .inLoop c::k)) cs w) b k cs e a' w':=by
  intro m
  induction m using Nat.strongRecOn with
  | _ m ih=>
   intro a w hI
   obtain⟨e,a₁,w₁,hq,harr⟩:=round m a w hI b (.inLoop c::k) cs
   cases e with
   | normal=>
    obtain⟨m',hlt,hI₁⟩:=hq
    obtain⟨e₂,a₂,w₂,hq₂,harr₂⟩:=ih m' hlt a₁ w₁ hI₁
    exact⟨e₂,a₂,w₂,hq₂,.of_steps (Steps.trans harr (.one step_inLoop)) harr₂⟩
   | exit id=>exact⟨_,a₁,w₁,hq,.pass (x:= .inLoop c) rfl (fun _ _=> .inl (by simp)) harr⟩
   | goto l=>exact⟨_,a₁,w₁,hq,.pass (x:= .inLoop c) rfl (fun _ _=> .inl (by simp)) harr⟩
   | ret=>exact⟨_,a₁,w₁,hq,.pass (x:= .inLoop c) rfl (fun _ _=> .inl (by simp)) harr⟩
   | panic ch=>exact⟨_,a₁,w₁,hq,.pass (x:= .inLoop c) rfl (fun _ _=> .inl (by simp)) harr⟩
   | outgrown=>exact⟨_,a₁,w₁,hq,.pass (x:= .inLoop c) rfl (fun _ _=> .inl (by simp)) harr⟩
 obtain⟨m,hm⟩:=h₀
 obtain⟨e,a',w',hq,harr⟩:=key m a w hm
 exact⟨e,a',w',hq,.of_steps (.one step_loop) harr⟩
theorem ON:∀{cs:List CTy} {vs:List TV} {I:Fun cs (St->Prop)} {M:Fun cs (St->Nat)} {B:List TV->Nat->St->Prop} {st:St},AllC cs I M B->Kj cs vs I (fun p=>p st)->∃m,B vs m st
 | [],[],I,M,B,st,h,hd=>⟨_,h st hd⟩
 | [],_::_,I,M,B,st,h,hd=>hd.elim
 | _::_,[],I,M,B,st,h,hd=>hd.elim
 | c::cs,v::vs,I,M,B,st,h,hd=>by
  obtain⟨y,rfl,hd2⟩:=DV hd
  exact ON (B:=fun l=>B (enc c y::l)) (h y) hd2
theorem Qh:∀{cs:List CTy} {vs:List TV} {I:Fun cs (St->Prop)} {M:Fun cs (St->Nat)} {B:List TV->Nat->St->Prop} {st:St} {m:Nat},AllC cs I M B->SA cs vs I M (fun p q=>p st/\q st<m)->∃m',m'<m/\B vs m' st
 | [],[],I,M,B,st,m,h,hd=>⟨_,hd.2,h st hd.1⟩
 | [],_::_,I,M,B,st,m,h,hd=>hd.elim
 | _::_,[],I,M,B,st,m,h,hd=>hd.elim
 | c::cs,v::vs,I,M,B,st,m,h,hd=>by
  obtain⟨y,rfl,hd2⟩:=DV hd
  exact Qh (B:=fun l=>B (enc c y::l)) (h y) hd2
theorem MP:∀{cs:List CTy} {vs:List TV} {I:Fun cs (St->Prop)} {B:List TV->St->Prop} {st:St},XU cs I B->Kj cs vs I (fun p=>p st)->B vs st
 | [],[],I,B,st,h,hd=>h st hd
 | [],_::_,I,B,st,h,hd=>hd.elim
 | _::_,[],I,B,st,h,hd=>hd.elim
 | c::cs,v::vs,I,B,st,h,hd=>by
  obtain⟨y,rfl,hd2⟩:=DV hd
  exact MP (B:=fun l=>B (enc c y::l)) (h y) hd2
def QPost (g:Ghost) (w:World) (a0:Act) (Q:Exit->Fr->St->Prop) (e:Exit) (a:Act) (w':World):Prop:=Km g w a0 (Q e) a w'
section
variable {P:Program} {cfg:Cfg} {ns nl:Nat}
theorem V5 (hm:P.follows .mixedOrders=true):∀(c:Code) (h:Jv) (Q:Exit->Fr->St->Prop) (fr:Fr) (st:St) (g:Ghost) (w:World) (a:Act),cwp cfg P ns nl c h Q fr st->Sim g st fr.loc w->Ge g w fr a.tmps->a.tmps.size=ns->
  c.wp P (QPost g w a Q) a w:=by
 intro c
 induction c with
 | skip=>intro h Q fr st g w a hc s hf hn;exact wp_skip ⟨fr,st,g,hc,s,hf,Ext.refl _ _,rfl,rfl⟩
 | region id ops draw=>
  intro h Q fr st g w a hc s hf hn
  cases draw with
  | false=>exact wp_region_list (My ops.toList fr st g w a hc s hf fun a' w' hp=>hp)
  | true=>exact QY hm hc s hf fun a' w' hp=>hp
 | seq x y ihx ihy=>
  intro h Q fr st g w a hc s hf hn
  have key:∀(hx hy:Jv),cwp cfg P ns nl x hx (RG (cwp cfg P ns nl y hy Q) Q) fr st->(Code.seq x y).wp P (QPost g w a Q) a w:=by
   intro hx hy hcx
   refine wp_seq (wp_mono (ihx hx _ fr st g w a hcx s hf hn) fun e a' w' hq=>?_)
   obtain⟨fr',st',g',h1,h2,h3,h4,h5⟩:=hq
   cases e with
   | normal=>
    refine wp_mono (ihy hy Q fr' st' g' w' a' h1 h2 h3 (h5.2.trans hn)) fun e a'' w'' hq2=>?_
    exact hq2.ext h4 h5
   | _=>exact⟨fr',st',g',h1,h2,h3,h4,h5⟩
  cases h with
  | cut k hx hy=>
   obtain⟨R,h1,h2⟩:=hc
   refine wp_seq (wp_mono (ihx hx _ fr st g w a h1 s hf hn) fun e a' w' hq=>?_)
   obtain⟨fr',st',g',q1,q2,q3,q4,q5⟩:=hq
   cases e with
   | normal=>
    have q1':need (k.ok nl fr') (Kj k.tys (k.vals fr') R fun p=>p st'):=q1
    rw[Au]at q1'
    obtain⟨w1,w2⟩:=E6.weak (ns:=ns) q1'.1 q2 q3 (q5.2.trans hn)
    have hb:=MP h2 q1'.2
    exact wp_mono (ihy hy Q _ st' g' w' a' hb w1 w2 (q5.2.trans hn)) fun e a'' w'' hq2=>hq2.ext q4 q5
   | _=>exact⟨fr',st',g',q1,q2,q3,q4,q5⟩
  | none=>exact key _ _ hc
  | seq p q=>exact key _ _ hc
  | cond p q=>exact key _ _ hc
  | block p=>exact key _ _ hc
  | loop k p=>exact key _ _ hc
 | cond c x y ihx ihy=>
  intro h Q fr st g w a hc s hf hn
  simp only[cwp]at hc
  split at hc
  ·rename_i b hb
   have hr:=QC hf c
   rw[hb]at hr
   have hr':Rel g w (.bool b) (a.eval c):=hr
   have hev:a.eval c= .bool b:=by generalize a.eval c=q at hr';cases hr';rfl
   cases b with
   | true=>exact wp_cond_true hev (ihx h.l Q fr st g w a hc s hf hn)
   | false=>exact wp_cond_false hev (ihy h.r Q fr st g w a hc s hf hn)
  ·exact hc.elim
 | block id x ih=>
  intro h Q fr st g w a hc s hf hn
  refine wp_block (wp_mono (ih h.l (Uq id Q) fr st g w a hc s hf hn) fun e a' w' hq=>?_)
  obtain⟨fr',st',g',h1,h2,h3,h4,h5⟩:=hq
  cases e with
  | exit id'=>
   simp only[Uq]at h1
   by_cases hid:id'=id
   ·subst hid
    have hbe:(id'.beq id')=true:=Nat.beq_refl id'
    simp only[hbe]at h1
    simp only[Exit.inBlock,if_true]
    exact⟨fr',st',g',h1,h2,h3,h4,h5⟩
   ·have hbe:(id'.beq id)=false:=by
     cases hq:id'.beq id with
     | false=>rfl
     | true=>exact absurd (Nat.eq_of_beq_eq_true hq) hid
    simp only[hbe]at h1
    simp only[Exit.inBlock,hid,if_false]
    exact⟨fr',st',g',h1,h2,h3,h4,h5⟩
  | _=>exact⟨fr',st',g',h1,h2,h3,h4,h5⟩
 | loop x ih=>
  intro h Q fr st g w a hc s hf hn
  cases h with
  | loop k hx=>
   obtain⟨I,M,h1,h2⟩:=hc
   rw[Au]at h1
   refine Rr (fun m a' w'=>∃vals st' g',cwp cfg P ns nl x hx (RG (fun fr st=>need (k.ok nl fr) (SA k.tys (k.vals fr) I M fun p q=>p st/\q st<m)) Q) (k.frame ns nl vals) st'/\
    Sim g' st' (k.frame ns nl vals).loc w'/\Ge g' w' (k.frame ns nl vals) a'.tmps/\Ext g w g' w'/\a'.defers=a.defers/\a'.tmps.size=a.tmps.size) ?_ ?_
   ·obtain⟨m,hm⟩:=ON h2 h1.2
    obtain⟨w1,w2⟩:=E6.weak (ns:=ns) h1.1 s hf hn
    exact⟨m,_,st,g,hm,w1,w2,Ext.refl _ _,rfl,rfl⟩
   ·rintro m a' w' ⟨vals,st',g',q1,q2,q3,q4,q5⟩
    refine wp_mono (ih hx _ _ st' g' w' a' q1 q2 q3 (q5.2.trans hn)) fun e a'' w'' hq=>?_
    obtain⟨fr2,st2,g2,r1,r2,r3,r4,r5⟩:=hq
    cases e with
    | normal=>
     have r1':need (k.ok nl fr2) (SA k.tys (k.vals fr2) I M fun p q=>p st2/\q st2<m):=r1
     rw[Au]at r1'
     obtain⟨m',hlt,hB⟩:=Qh h2 r1'.2
     obtain⟨w1,w2⟩:=E6.weak (ns:=ns) r1'.1 r2 r3 (r5.2.trans (q5.2.trans hn))
     exact⟨m',hlt,_,st2,g2,hB,w1,w2,q4.trans r4,r5.1.trans q5.1,r5.2.trans q5.2⟩
    | _=>exact⟨fr2,st2,g2,r1,r2,r3,q4.trans r4,r5.1.trans q5.1,r5.2.trans q5.2⟩
  | _=>exact hc.elim
 | exit id=>intro h Q fr st g w a hc s hf hn;exact wp_exit ⟨fr,st,g,hc,s,hf,Ext.refl _ _,rfl,rfl⟩
 | ret=>intro h Q fr st g w a hc s hf hn;exact wp_ret ⟨fr,st,g,hc,s,hf,Ext.refl _ _,rfl,rfl⟩
 | _=>intro h Q fr st g w a hc s hf hn;exact hc.elim
def L0 (P:Program) (fr:Fr) (st:St):ResultVar->Option TV
 | .tmp t=>some (LV fr t)
 | .cell a t=>match KF P t with
  | some true=>match P.cellsOf t with
   | 0=>none
   | n=>(Aj st fr.loc (fr.slots.f a) 0 n).map .agg
  | some false=>Ac st fr.loc (fr.slots.f a) 0
  | none=>none
def Jb (P:Program) (fr:Fr) (st:St):List ResultVar->Option (List TV)
 | []=>some []
 | r::rs=>match L0 P fr st r with
  | some v=>(Jb P fr st rs).map (v::·)
  | none=>none
def S0:List TV->TV
 | [v]=>v
 | vs=> .tuple vs
def resT (P:Program) (fn:Func) (fr:Fr) (st:St):Option TV:=(Jb P fr st fn.results.toList).map S0
def QI (P:Program) (fr:Fr) (st:St) (r:ResultVar) (k:TV->Prop):Prop:=
 match r with
 | .tmp t=>k (LV fr t)
 | .cell a t=>match KF P t with
  | some true=>match P.cellsOf t with
   | 0=>False
   | n=>Ag ((Aj st fr.loc (fr.slots.f a) 0 n).map .agg) k
  | some false=>Ag (Ac st fr.loc (fr.slots.f a) 0) k
  | none=>False
def Le (P:Program) (fr:Fr) (st:St):List ResultVar->(List TV->Prop)->Prop
 | [],k=>k []
 | r::rs,k=>QI P fr st r fun v=>Le P fr st rs fun vs=>k (v::vs)
theorem O9 {P:Program} {fr:Fr} {st:St} {r:ResultVar} {k:TV->Prop} (h:QI P fr st r k):∃v,L0 P fr st r=some v/\k v:=by
 cases r with
 | tmp t=>exact⟨_,rfl,h⟩
 | cell a t=>
  unfold QI at h
  unfold L0
  simp only at h⊢
  cases ha:KF P t with
  | none=>rw[ha]at h;exact h.elim
  | some b=>
   rw[ha]at h
   cases b with
   | true=>
    simp only at h⊢
    cases hn:P.cellsOf t with
    | zero=>rw[hn]at h;exact h.elim
    | succ n=>
     rw[hn]at h
     exact DF.1 h
   | false=>exact DF.1 h
theorem J9 {P:Program} {fr:Fr} {st:St}:∀{rs:List ResultVar} {k:List TV->Prop},Le P fr st rs k->∃vs,Jb P fr st rs=some vs/\k vs
 | [],k,h=>⟨[],rfl,h⟩
 | r::rs,k,h=>by
  obtain⟨v,h1,h2⟩:=O9 h
  obtain⟨vs,h3,h4⟩:=J9 h2
  exact⟨v::vs,by simp[Jb,h1,h3],h4⟩
def retQ (P:Program) (fn:Func) (R:TV->St->Prop):Exit->Fr->St->Prop
 | .normal,fr,st=>Le P fr st fn.results.toList fun vs=>R (S0 vs) st
 | .ret,fr,st=>Le P fr st fn.results.toList fun vs=>R (S0 vs) st
 | _,_,_=>False
def HM (cfg:Cfg) (fn:Func) (args:List TV):Fr:=⟨⟨fn.ntmps,fun i=>match args[i]? with | some v=> .t v | none=> .t .undef⟩,cfg.loc.map fun _=>none⟩
theorem QH {g:Ghost} {st:St} {w:World} {fr:Fr} {tmps:Array Value} (s:Sim g st fr.loc w) (hf:Ge g w fr tmps) {r:ResultVar} {v:TV} (h:L0 P fr st r=some v):
  ∃u,(match r with | .tmp t=>pure (tmps.getD t Go.undef) | .cell a t=>do loadVar t (<-asAddr (tmps.getD a Go.undef)):Sem Value).run P w= .ok u w/\Rel g w v u:=by
 cases r with
 | tmp t=>
  simp only[L0,Option.some.injEq]at h
  subst h
  exact⟨_,rfl,(hf.2 t).tv⟩
 | cell a t=>
  simp only[L0]at h
  have hld:∀p,Bi g w fr.loc p (tmps.getD a Go.undef)->(Ee P st fr.loc t p).Is (.t v)->∃u,(do loadVar t (<-asAddr (tmps.getD a Go.undef)):Sem Value).run P w= .ok u w/\Rel g w v u:=by
   intro p hp hl
   have hl':=hl
   obtain⟨u,hu,hr⟩:=Oh (P:=P) s hp hl'
   have hsa:(Instr.loadAt t (tmps.getD a Go.undef)).run P w=(do loadVar t (<-asAddr (tmps.getD a Go.undef)):Sem Value).run P w:=by
    generalize hq:tmps.getD a Go.undef=q at hp hu
    simp only[Instr.loadAt,Sem.run_bind]
    cases q with
    | pointer o=>cases o with
     | none=>simp[Instr.loadAt,Instr.sureAddr]at hu
     | some ad=>simp[Instr.sureAddr,asAddr]
    | _=>simp[Instr.loadAt,Instr.sureAddr]at hu
   exact⟨u,by rw[<-hsa];exact hu,hr⟩
  split at h
  ·rename_i ha
   split at h
   ·cases h
   ·rename_i n hn
    refine hld _ (hf.2 a) ?_
    unfold Ee
    rw[ha]
    exact⟨v,by
     split
     ·rename_i h0;exact absurd h0 hn
     ·exact h,rfl⟩
  ·rename_i ha
   refine hld _ (hf.2 a) ?_
   unfold Ee
   rw[ha]
   exact⟨v,h,rfl⟩
  ·cases h
theorem Ld {g:Ghost} {st:St} {w:World} {fr:Fr} {tmps:Array Value} (s:Sim g st fr.loc w) (hf:Ge g w fr tmps):∀{rs:List ResultVar} {vs:List TV},Jb P fr st rs=some vs->
  ∃us:List Value,(rs.mapM (fun r=>match r with | .tmp t=>pure (tmps.getD t Go.undef) | .cell a t=>do loadVar t (<-asAddr (tmps.getD a Go.undef))):Sem (List Value)).run P w= .ok us w/\AK g w vs us
 | [],vs,h=>by simp only[Jb,Option.some.injEq]at h;subst h;exact⟨[],rfl,.nil _ _⟩
 | r::rs,vs,h=>by
  simp only[Jb]at h
  split at h
  ·rename_i v hv
   obtain⟨vs',hvs',rfl⟩:=Option.map_eq_some_iff.1 h
   obtain⟨u,hu,hr⟩:=QH s hf hv
   obtain⟨us,hus,hrs⟩:=Ld s hf hvs'
   refine⟨u::us,?_,.cons hr hrs⟩
   rw[List.mapM_cons]
   simp only[Sem.run_bind,hu,Result.andThen_ok,hus,Sem.run_pure]
  ·cases h
theorem Te {g:Ghost} {st:St} {w:World} {fr:Fr} {tmps:Array Value} (s:Sim g st fr.loc w) (hf:Ge g w fr tmps) {fn:Func} {v:TV} (h:resT P fn fr st=some v):∃u,(results fn tmps).run P w= .ok u w/\Rel g w v u:=by
 unfold resT at h
 cases hr:Jb P fr st fn.results.toList with
 | none=>rw[hr]at h;cases h
 | some vs=>
  rw[hr]at h
  obtain⟨us,hus,hrel⟩:=Ld s hf hr
  have hrun:(fn.results.mapM (fun r=>match r with | .tmp t=>pure (tmps.getD t Go.undef) | .cell a t=>do loadVar t (<-asAddr (tmps.getD a Go.undef))):Sem (Array Value)).run P w= .ok us.toArray w:=by
   rw[<-Array.toArray_toList (xs:=fn.results),List.mapM_toArray]
   simp only[Sem.run_map,hus,Result.andThen_ok]
  refine⟨if h:us.toArray.size=1 then us.toArray[0]else .tuple us.toArray,?_,?_⟩
  ·have hres:results fn tmps=(do
     let vs<-(fn.results.mapM (fun r=>match r with | .tmp t=>pure (tmps.getD t Go.undef) | .cell a t=>do loadVar t (<-asAddr (tmps.getD a Go.undef))):Sem (Array Value))
     pure (if h:vs.size=1 then vs[0]else .tuple vs)):=rfl
   rw[hres,Sem.run_bind,hrun]
   rfl
  ·cases vs with
   | nil=>
    simp only[Option.map_some,Option.some.injEq,S0]at h;subst h
    have:us=[]:=List.eq_nil_of_length_eq_zero hrel.1.symm
    subst this
    exact Rel.tuple [] [] rfl (fun i hi=>absurd hi (Nat.not_lt_zero _))
   | cons v1 vs1=>cases vs1 with
    | nil=>
     simp only[Option.map_some,Option.some.injEq,S0]at h;subst h
     cases us with
     | nil=>have:=hrel.1;simp at this
     | cons u1 us1=>
      have:us1=[]:=List.eq_nil_of_length_eq_zero (by have:=hrel.1;simpa using this.symm)
      subst this
      simpa using hrel.2 0 (by simp)
    | cons v2 vs2=>
     simp only[Option.map_some,Option.some.injEq,S0]at h;subst h
     have hl:us.toArray.size≠1:=by have:=hrel.1;simp at this⊢;omega
     rw[dif_neg hl]
     exact Rel.tuple _ us hrel.1 hrel.2
theorem Vs (hm:P.follows .mixedOrders=true) {f:FuncId} {fn:Func} {c:Code} (hcall:∀(vs:Array Value) (w:World),(callFunc f vs).run P w= .ok (.enter f vs) w) (hf:P.funcs[f]? =some fn) (hb:fn.body=some c)
  (cfg:Cfg) (h:Jv) {args:List TV} {st:St} {R:TV->St->Prop} (hn:args.length<=fn.ntmps)
  (hc:cwp cfg P fn.ntmps cfg.loc.length c h (retQ P fn R) (HM cfg fn args) st):Fk P f args st R:=by
 refine Ds hcall fun g w vargs s hr=>?_
 refine calls_of_wp hf hb ?_
 have hlen:vargs.length=args.length:=hr.1.symm
 have hsize:(vargs.toArray++Array.replicate (fn.ntmps-vargs.toArray.size) Go.undef).size=fn.ntmps:=by simp;omega
 have hsim:Sim g st (HM cfg fn args).loc w:=s.weakLoc fun j x' hx'=>by
  simp only[HM,List.getElem?_map]at hx'
  cases hq:cfg.loc[j]? with
  | none=>rw[hq]at hx';cases hx'
  | some q=>rw[hq]at hx';simp at hx'
 have hfr:Ge g w (HM cfg fn args) (vargs.toArray++Array.replicate (fn.ntmps-vargs.toArray.size) Go.undef):=by
  refine⟨by rw[hsize];rfl,fun i=>?_⟩
  by_cases hia:i<args.length
  ·have h1:(HM cfg fn args).slots.f i= .t args[i]:=by simp[HM,hia]
   have h2:(vargs.toArray++Array.replicate (fn.ntmps-vargs.toArray.size) Go.undef).getD i Go.undef=vargs.getD i Go.undef:=by
    have:i<vargs.length:=by omega
    have hin:i<fn.ntmps:=by omega
    simp[Array.getD,Array.getElem_append,this,hin,List.getD_eq_getElem?_getD]
    omega
   rw[h1,h2]
   exact hr.2 i hia
  ·have h1:(HM cfg fn args).slots.f i= .t .undef:=by simp[HM,hia]
   have h2:(vargs.toArray++Array.replicate (fn.ntmps-vargs.toArray.size) Go.undef).getD i Go.undef=Go.undef:=by
    have:¬i<vargs.length:=by omega
    simp[Array.getD,Array.getElem_append,this]
   rw[h1,h2]
   exact Rel.undef
 refine wp_mono (V5 hm c h _ _ st g w {tmps:=vargs.toArray++Array.replicate (fn.ntmps-vargs.toArray.size) Go.undef,defers:=[]} hc hsim hfr hsize) fun e a' w' hq=>?_
 obtain⟨fr',st',g',h1,h2,h3,h4,h5,h6⟩:=hq
 have fin:Le P fr' st' fn.results.toList (fun vs=>R (S0 vs) st')->a'.defers=[]/\∃v,(results fn a'.tmps).run P w'= .ok v w'/\∃v',Ending.returned v= .returned v'/\∃r st' g',R r st'/\Sim g' st' [] w'/\Rel g' w' r v'/\Ext g w g' w':=by
  intro ho
  obtain⟨vs,hvs,hR⟩:=J9 ho
  obtain⟨u,hu,hrel⟩:=Te (fn:=fn) h2 h3 (by unfold resT;rw[hvs];rfl)
  exact⟨h5,u,hu,u,rfl,_,st',g',hR,h2.dropLoc (fun j x hx=>by simp at hx),hrel,h4⟩
 cases e with
 | normal=>exact fin h1
 | ret=>exact fin h1
 | _=>exact h1.elim
def St.zero:St:={nb:=0,box:=fun _=> .dead,nt:=0,live:=fun _=>false,ty:=fun _=>none,bt:=fun _=>none}
def Ghost.start (w:World):Ghost:={base:=w.heap.size,w0:=w,nb:=0,bk:=fun _=>0,lam:=fun _=>0,nt:=0,sp:=fun _=>none,S:=fun a=>a.spot=none/\∃v,w.cell? a=some v,prot:=fun _=>False}
theorem Sim.start (w:World) (hG:∀w',Below w.heap.size w w'->GlobOK w'):Sim (Ghost.start w) St.zero [] w:=by
 have hd:∀k,¬Dom St.zero [] k:=by
  intro k d
  cases k with
  | box i=>exact absurd d (Nat.not_lt_zero _)
  | loc i=>obtain⟨x,hx⟩:=d;simp at hx
 exact⟨rfl,rfl,Below.refl _ _,Nat.le_refl _,fun k d=>absurd d (hd k),fun k k' d=>absurd d (hd k),fun k d=>absurd d (hd k),fun id h=>absurd h (Nat.not_lt_zero _),
  fun id b l h hh=>(by cases hh),fun i j b l h l' h' _ hh=>(by cases hh),fun id _=>rfl,fun a ha=>⟨ha.1,ha.2,fun k d=>absurd d (hd k),fun id l h hh=>(by cases hh)⟩,fun b hb=>hb.elim,fun id b l h hh=>(by cases hh),fun id b l h T hh=>(by cases hh),fun b T hb=>absurd hb (Nat.not_lt_zero _),hG⟩
theorem Ul {f:FuncId} {args:List TV} (hcall:∀(vs:Array Value) (w:World),(callFunc f vs).run P w= .ok (.enter f vs) w) (h:Fk P f args St.zero fun r _=>r= .bool true) (w:World) (hG:∀w',Below w.heap.size w w'->GlobOK w') (vargs:List Value) (hr:AK (Ghost.start w) w args vargs):
  Calls P f vargs.toArray w fun e w'=>e= .returned (.bool true)/\Below w.heap.size w w':=by
 have h1:=h.run (Ghost.start w) w vargs (Sim.start w hG) hr
 unfold C0 at h1
 rw[hcall]at h1
 refine Calls.mono h1 ?_
 rintro e w' ⟨v,rfl,r,st',g',rfl,s',hrel,e'⟩
 have hb:=s'.below
 rw[e'.base,e'.w0]at hb
 cases hrel
 exact⟨rfl,hb⟩
end
def Up (fn:Func):Code:=match fn.body with | some c=>c | none=> .skip
def Fw (cfg:Cfg) (P:Program) (h:Jv) (fn:Func) (args:List TV) (st:St) (R:TV->St->Prop):Prop:=
 cwp cfg P fn.ntmps cfg.loc.length (Up fn) h (retQ P fn R) (HM cfg fn args) st
def fits (fn:Func) (args:List TV):Bool:=(fn.body.isSome).and (args.length.ble fn.ntmps)
theorem Ae {P:Program} (hm:P.follows .mixedOrders=true) {f:FuncId} {fn:Func} (hcall:∀(vs:Array Value) (w:World),(callFunc f vs).run P w= .ok (.enter f vs) w) (hf:P.funcs[f]? =some fn)
  {cfg:Cfg} {h:Jv} {args:List TV} {st:St} {R:TV->St->Prop} (hn:fits fn args=true) {V:Prop} (he:Fw cfg P h fn args st R=V) (hV:V):Fk P f args st R:=by
 simp only[fits,Bool.and_eq_true]at hn
 obtain⟨c,hc⟩:=Option.isSome_iff_exists.1 hn.1
 have hb:fn.body=some (Up fn):=by rw[Up,hc]
 rw[<-he]at hV
 exact Vs hm hcall hf hb cfg h (Nat.le_of_ble_eq_true hn.2) hV
def AW (cs:List CTy) (v:TV) (f:Fun cs Prop):Prop:=
 match v with
 | .agg l=>decL cs l f
 | _=>False
def stB (st:St) (p:TV) (xs:List TV) (k:St->Prop):Prop:=
 match p with
 | .box b off=>∃l,st.box b= .cells l/\off+xs.length<=l.length/\k (st.put b (.cells (setAll l off xs)))
 | _=>False
theorem Aa {p:Prop} [Decidable p] {x y:Prop} (h1:p->x) (h2:¬p->y):BIf (decide p) x y:=by
 by_cases h:p
 ·simp only[h,decide_true,BIf];exact h1 h
 ·simp only[h,decide_false,BIf];exact h2 h
theorem Am {b:Bool} {x y:Prop} (h1:b=true->x) (h2:b=false->y):BIf b x y:=by
 cases b
 ·exact h2 rfl
 ·exact h1 rfl
end Go.TVF
end
section
namespace Go.TVF
open Go.IntKind(i64 u8)
structure Ar (a b:St):Prop where
 nb:a.nb<=b.nb
 box:∀i,i<a.nb->b.box i=a.box i
 nt:a.nt<=b.nt
 live:∀i,i<a.nt->b.live i=a.live i
 ty:∀i,i<a.nt->b.ty i=a.ty i
 bt:∀i,i<a.nb->b.bt i=a.bt i
theorem Ar.refl (a:St):Ar a a:=⟨Nat.le_refl _,fun _ _=>rfl,Nat.le_refl _,fun _ _=>rfl,fun _ _=>rfl,fun _ _=>rfl⟩
theorem Ar.trans {a b c:St} (h:Ar a b) (k:Ar b c):Ar a c:=
 ⟨Nat.le_trans h.nb k.nb,fun i hi=>(k.box i (Nat.lt_of_lt_of_le hi h.nb)).trans (h.box i hi),Nat.le_trans h.nt k.nt,fun i hi=>(k.live i (Nat.lt_of_lt_of_le hi h.nt)).trans (h.live i hi),fun i hi=>(k.ty i (Nat.lt_of_lt_of_le hi h.nt)).trans (h.ty i hi),fun i hi=>(k.bt i (Nat.lt_of_lt_of_le hi h.nb)).trans (h.bt i hi)⟩
theorem Ar.fresh {a b:St} (h:Ar a b) (T:Option Nat):Ar a (b.fresh T):=
 h.trans ⟨Nat.le_refl _,fun _ _=>rfl,Nat.le_succ _,fun i hi=>by simp only[St.fresh];rw[if_neg (by omega)],fun i hi=>by simp only[St.fresh];rw[if_neg (by omega)],fun _ _=>rfl⟩
theorem Ar.push {a b:St} (h:Ar a b) (o:KH) (T:Option Nat):Ar a (b.push o T):=
 h.trans ⟨Nat.le_succ _,fun i hi=>by simp only[St.push];rw[if_neg (by omega)],Nat.le_refl _,fun _ _=>rfl,fun _ _=>rfl,fun i hi=>by simp only[St.push];rw[if_neg (by omega)]⟩
theorem Ar.retire {a b:St} (h:Ar a b) {id:Nat} (hid:a.nt<=id):Ar a (b.retire id):=
 ⟨h.nb,h.box,h.nt,fun i hi=>by simp only[St.retire];rw[if_neg (by omega)];exact h.live i hi,h.ty,h.bt⟩
theorem Ar.put {a b:St} (h:Ar a b) {i:Nat} (hi:a.nb<=i) (o:KH):Ar a (b.put i o):=
 ⟨h.nb,fun j hj=>by simp only[St.put];rw[if_neg (by omega)];exact h.box j hj,h.nt,h.live,h.ty,h.bt⟩
theorem DI (l:B8):(AF l).length=l.length:=by simp[AF]
theorem Dq:∀l:B8,FM (AF l)=some l
 | []=>rfl
 | c::l=>by
  have:=Dq l
  simp only[AF]at this
  simp[AF,FM,Gd,Us,this]
theorem Tu (l:B8):(AF l).all Ap=true:=by simp[AF,Gd,Ap]
theorem Kl (a b:B8):AF a++AF b=AF (a++b):=by simp[AF]
def Rd (sz:Nat) (v:TV) (n:Nat) (xs:List TV):Prop:=
 (v= .nilSlice/\n=0/\xs=[])∨∃tip,v= .list sz tip n xs
def Own (b sz:Nat) (st:St) (v:TV) (n:Nat) (xs:List TV):Prop:=
 (v= .nilSlice/\n=0/\xs=[])∨∃tip,v= .list sz tip n xs/\(tip= .full∨∃id,tip= .own id/\b<=id/\id<st.nt/\st.live id=true)
theorem Own.rd {b sz:Nat} {st:St} {v:TV} {n:Nat} {xs:List TV} (h:Own b sz st v n xs):Rd sz v n xs:=by
 rcases h with h | ⟨tip,h,_⟩
 ·exact .inl h
 ·exact .inr ⟨tip,h⟩
theorem Own.ext {b sz:Nat} {st st':St} {v:TV} {n:Nat} {xs:List TV} (h:Own b sz st v n xs) (e:Ar st st'):Own b sz st' v n xs:=by
 rcases h with h | ⟨tip,h,ht | ⟨id,h1,h2,h3,h4⟩⟩
 ·exact .inl h
 ·exact .inr ⟨tip,h,.inl ht⟩
 ·exact .inr ⟨tip,h,.inr ⟨id,h1,h2,Nat.lt_of_lt_of_le h3 e.nt,(e.live id h3).trans h4⟩⟩
theorem Own.nil (b sz:Nat) (st:St):Own b sz st .nilSlice 0 []:= .inl ⟨rfl,rfl,rfl⟩
theorem Own.full (b sz:Nat) (st:St) (n:Nat) (xs:List TV):Own b sz st (.list sz .full n xs) n xs:= .inr ⟨_,rfl,.inl rfl⟩
theorem Own.fresh {b sz:Nat} {st:St} {T:Option Nat} (n:Nat) (xs:List TV) (hb:b<=st.nt):Own b sz (st.fresh T) (.list sz (.own st.nt) n xs) n xs:=
 .inr ⟨_,rfl,.inr ⟨st.nt,rfl,hb,Nat.lt_succ_self _,by simp[St.fresh]⟩⟩
theorem Rd.isSl {sz:Nat} {v:TV} {n:Nat} {xs:List TV} (h:Rd sz v n xs):TVF.isSl v=true:=by
 rcases h with⟨rfl,_⟩ | ⟨tip,rfl⟩<;>rfl
theorem Rd.lenS {sz:Nat} {v:TV} {n:Nat} {xs:List TV} (h:Rd sz v n xs):TVF.lenS v=n:=by
 rcases h with⟨rfl,rfl,_⟩ | ⟨tip,rfl⟩<;>rfl
theorem Rd.lenZ {sz:Nat} {v:TV} {n:Nat} {xs:List TV} (h:Rd sz v n xs):TVF.lenZ sz v=n:=by
 rcases h with⟨rfl,rfl,_⟩ | ⟨tip,rfl⟩
 ·rfl
 ·simp[TVF.lenZ]
theorem Rd.one {sz:Nat} {v:TV} {n:Nat} {xs:List TV} (h:Rd sz v n xs):Ap v=true:=by
 rcases h with⟨rfl,rfl,_⟩ | ⟨tip,rfl⟩<;>rfl
theorem Rd.ld {sz:Nat} {v:TV} {n:Nat} {xs:List TV} (h:Rd sz v n xs) (st:St) (i j:Nat) (hi:i*sz+j<xs.length):Ac st [] (.t (ixT sz v i)) j=some xs[i*sz+j]:=by
 rcases h with⟨rfl,rfl,rfl⟩ | ⟨tip,rfl⟩
 ·simp at hi
 ·simp[Ac,ixT,hi]
theorem Rd.ldf {sz:Nat} {v:TV} {n:Nat} {xs:List TV} (h:Rd sz v n xs) (st:St) (i f:Nat) (hi:i*sz+f<xs.length):Ac st [] (.t (Ao (ixT sz v i) f)) 0=some xs[i*sz+f]:=by
 rcases h with⟨rfl,rfl,rfl⟩ | ⟨tip,rfl⟩
 ·simp at hi
 ·simp[Ac,ixT,Ao,hi]
theorem src_str (st:St) (l:B8):Jr st 1 (.str l)=some (l.length,AF l):=rfl
theorem By {T b sz bytes:Nat} {st0 st:St} {v:TV} {n k:Nat} {xs ys:List TV} {K:TV->St->Prop} (e:Ar st0 st) (hb:b=st0.nt) (h:Own b sz st v n xs) (hby:(n+k)*bytes<=140737488355328) (hys:k=0->ys=[])
  (hK:∀v' st',Ar st0 st'->st'.box=st.box->Own b sz st' v' (n+k) (xs++ys)->K v' st'):AU T sz bytes v k ys st K:=by
 subst hb
 rcases h with⟨rfl,rfl,rfl⟩ | ⟨tip,rfl,ht⟩
 ·simp only[AU]
  cases k with
  | zero=>rw[hys rfl]at hK;exact hK _ _ e rfl (.nil _ _ _)
  | succ m=>
   simp only[Au]
   refine⟨by simpa using hby,hK _ _ (e.fresh _) rfl ?_⟩
   simp only[List.nil_append,Nat.zero_add]
   exact Own.fresh _ _ e.nt
 ·simp only[AU,Nat.beq_refl]
  refine⟨hby,?_⟩
  rcases ht with rfl | ⟨id,rfl,h1,h2,h3⟩
  ·cases k with
   | zero=>rw[hys rfl]at hK;simp only[List.append_nil]at hK;exact hK _ _ e rfl (Own.full _ _ _ _ _)
   | succ m=>exact hK _ _ (e.fresh _) rfl (Own.fresh _ _ e.nt)
  ·exact⟨h3,hK _ _ ((e.retire h1).fresh _) rfl (Own.fresh (st:=st.retire id) _ _ e.nt)⟩
theorem Ab {b:Bool} {k:Prop} (h:b=true) (hk:k):need b k:=Au.2 ⟨h,hk⟩
theorem Ad {α:Type} {o:Option α} {x:α} {k:α->Prop} (h:o=some x) (hk:k x):Ag o k:=by rw[h];exact hk
theorem Ah (x:Int) (h1: -9223372036854775808<=x) (h2:x<=9223372036854775807):IntKind.wrap .i64 x=x:=by
 unfold IntKind.wrap
 simp only[IntKind.signed,IntKind.bits]
 simp
 omega
theorem LB (x:Int) (h1:0<=x) (h2:x<=255):IntKind.wrap .u8 x=x:=by
 unfold IntKind.wrap
 simp only[IntKind.signed,IntKind.bits]
 simp
 omega
end Go.TVF
end
section
namespace Go.TVF
open Go.IntKind(i64 u8)
open Go.RowKit (Below)
theorem XK {r:TV} {st':St} (h:GU [.one .bool] r (fun (b:Bool) (_:St)=>b=true) (fun p=>p st')):r= .bool true:=by
 cases r<;>simp only[GU,Ga,Af]at h<;>first | exact h.elim | skip
 subst h;rfl
theorem calls_law {P:Program} {f:FuncId} {args:List TV} (hcall:∀(vs:Array Value) (w:World),(callFunc f vs).run P w= .ok (.enter f vs) w) (h:CallT P f args [.one .bool] St.zero (fun r _=>r=true)) (w:World) (hG:∀w',Below w.heap.size w w'->GlobOK w') (vargs:List Value) (hr:AK (Ghost.start w) w args vargs):
  Calls P f vargs.toArray w fun e w'=>e= .returned (.bool true)/\Below w.heap.size w w':=
 Ul hcall (Fk.mono h fun r st' hd=>XK hd) w hG vargs hr
theorem N1 (g:Ghost) (w:World) (s:ByteArray):Rel g w (.str s.data.toList) (.string s):=by
 have:=Rel.str (g:=g) (w:=w) s.data.toList
 simpa using this
def flatIs:List CTy->List TV->Prop
 | [],xs=>xs=[]
 | .int k::cs,xs=>∃n ys,xs= .int k n::ys/\(Lit.int k n).wf=true/\flatIs cs ys
 | .str::cs,xs=>∃l ys,xs= .str l::ys/\l.length<=maxLen/\flatIs cs ys
 | .bool::cs,xs=>∃b ys,xs= .bool b::ys/\flatIs cs ys
 | .tv::_,_=>False
def Ro (P:Program):CTy->TypeId->Prop
 | .int k,t=>P.underlying t=some (.int k)
 | .bool,t=>P.underlying t=some .bool
 | .str,t=>P.underlying t=some .string
 | .tv,_=>False
def FieldsTy (P:Program):List CTy->List Field->Nat->Prop
 | [],[],_=>True
 | c::cs,f::fs,o=>f.offset=o/\P.cellsOf f.type=1/\Ro P c f.type/\FieldsTy P cs fs (o+1)
 | _,_,_=>False
section
variable {H:Type} {enc:TypeId×Value->H} {P:Program} {w:World} {base:Nat} {sp:Nat->Bool} {held:Bool}
theorem Ma {c:CTy} {t:TypeId} {fuel:Nat} {cs:List Value} {x:DataW H×List MemPlace} (g:Ghost) (hc:Ro P c t) (h:DataW.trod enc P w base sp held fuel t cs=some x):
  ∃v u,cs=[u]/\Rel g w v u/\flatIs [c] [v]:=by
 cases c with
 | int k=>
  obtain⟨n,rfl,_,hw⟩:=DataW.trod_int hc h
  exact⟨_,_,rfl,.int k n,n,[],rfl,hw,rfl⟩
 | bool=>
  obtain⟨b,rfl,_⟩:=DataW.trod_bool hc h
  exact⟨_,_,rfl,.bool b,b,[],rfl,rfl⟩
 | str=>
  obtain⟨s,rfl,_,hs⟩:=DataW.trod_string hc h
  exact⟨_,_,rfl,N1 g w s,_,[],rfl,by rw[Array.length_toList];exact hs,rfl⟩
 | tv=>exact hc.elim
theorem flatIs.cons {c:CTy} {cs:List CTy} {v:TV} {xs:List TV} (h:flatIs [c] [v]) (k:flatIs cs xs):flatIs (c::cs) (v::xs):=by
 cases c with
 | int _=>
  obtain⟨n,ys,h1,h2,_⟩:=h
  simp only[List.cons.injEq]at h1
  exact⟨n,xs,by rw[h1.1],h2,k⟩
 | bool=>
  obtain⟨b,ys,h1,_⟩:=h
  simp only[List.cons.injEq]at h1
  exact⟨b,xs,by rw[h1.1],k⟩
 | str=>
  obtain⟨l,ys,h1,h2,_⟩:=h
  simp only[List.cons.injEq]at h1
  exact⟨l,xs,by rw[h1.1],h2,k⟩
 | tv=>exact h.elim
theorem MB {n:Nat} {vs:List Value} (g:Ghost):∀(cs:List CTy) (fs:List Field) (o:Nat) (xs:List (DataW H×List MemPlace)),FieldsTy P cs fs o->xs.length=fs.length->vs.length=o+cs.length->
  (∀(i:Nat) (f:Field),fs[i]? =some f->DataW.trod enc P w base sp held n f.type ((vs.drop f.offset).take (P.cellsOf f.type))=xs[i]?)->∃tv,AK g w tv (vs.drop o)/\flatIs cs tv
 | [],[],o,xs,_,_,hl,_=>⟨[],by rw[List.drop_of_length_le (by simp at hl;omega)];exact .nil _ _,rfl⟩
 | c::cs,f::fs,o,[],_,hx,_,_=>by simp at hx
 | c::cs,f::fs,o,x::xs,ht,hx,hl,hd=>by
  obtain⟨h1,h2,h3,h4⟩:=ht
  have hd0:=hd 0 f rfl
  rw[h1,h2]at hd0
  obtain⟨v,u,hu,hr,hf⟩:=Ma g h3 hd0
  obtain⟨tv,hr',hf'⟩:=MB (n:=n) (vs:=vs) g cs fs (o+1) xs h4 (by simpa using hx) (by simp at hl;omega) (fun i f' hi=>by simpa using hd (i+1) f' (by simpa using hi))
  refine⟨v::tv,?_,hf.cons hf'⟩
  have hlt:o<vs.length:=by simp at hl;omega
  rw[List.drop_eq_getElem_cons hlt]
  rw[List.drop_eq_getElem_cons hlt]at hu
  simp only[List.take_succ_cons,List.take_zero,List.cons.injEq]at hu
  rw[hu.1]
  exact .cons hr hr'
 | [],f::fs,o,xs,ht,_,_,_=>ht.elim
 | c::cs,[],o,xs,ht,_,_,_=>ht.elim
theorem OO (b off i:Nat):(⟨b,off,none⟩:Addr).add i=⟨b,off+i,none⟩:=by
 unfold Addr.add;split
 ·rename_i h;subst h;rfl
 ·rfl
def Opens (enc:TypeId×Value->H) (P:Program) (w:World) (base:Nat) (sp:Nat->Bool) (held:Bool) (cs:List CTy) (e:TypeId):Prop:=
 ∀(g:Ghost) n vs x,DataW.trod enc P w base sp held n e vs=some x->∃tv,AK g w tv vs/\flatIs cs tv
theorem opens_struct {cs:List CTy} {e:TypeId} {fs:Array Field} (ht:P.underlying e=some (.struct fs)) (hf:FieldsTy P cs fs.toList 0) (hc:P.cellsOf e=cs.length):Opens enc P w base sp held cs e:=fun g n vs x hd=>by
 obtain⟨xs,m,rfl,_,hl,hx,hi⟩:=DataW.trod_struct ht hd
 have:=MB (enc:=enc) (P:=P) (w:=w) (base:=base) (sp:=sp) (held:=held) (n:=m) (vs:=vs) g cs fs.toList 0 xs hf (by simpa using hx) (by omega) (fun i f h=>hi i f (by simpa using h))
 simpa using this
end
end Go.TVF
end
namespace Go.TVF
open Go.IntKind(i64 u8)
open Go Go.Proofs
theorem mixed:Tryz.prog.follows .mixedOrders=true:=by kernel_rfl
noncomputable def PR:Program:=Tryz.prog
abbrev V13(X:Type):=Int->Bool->Bool->B8->Int->Int->Int->Int->Int->B8->TV->TV->TV->X
abbrev sV:RTy:=.agg [.int .i64,.bool,.bool,.str,.int .i64,.int .i64,.int .i64,.int .i64,.int .i64,.str,.tv,.tv,.tv]
abbrev cV(a:Int)(b c:Bool)(d:B8)(e f g h i:Int)(j:B8)(k l m:TV):List TV:=[.int .i64 a,.bool b,.bool c,.str d,.int .i64 e,.int .i64 f,.int .i64 g,.int .i64 h,.int .i64 i,.str j,k,l,m]
abbrev BId(p:Prop)[Decidable p](a b:Prop):Prop:=BIf (decide p) a b
def fn_datakitlaw28_GridValues:Nat:=8
def Bf:Nat:=33
def HS:Nat:=34
def Bp:Nat:=36
def Cp:Nat:=37
def B0:Nat:=38
def HT:Nat:=39
def CQ:Nat:=41
def ER:Nat:=42
def CM:Nat:=43
def Fa:Nat:=44
def Ch:Nat:=45
def F6:Nat:=53
def El:Nat:=55
def GP:Nat:=56
def GO:Nat:=57
def F4:Nat:=58
def BM:Nat:=62
def BP:Nat:=63
def Dj:Nat:=69
def F5:Nat:=70
def CN:Nat:=71
def CS:Nat:=72
def CO:Nat:=73
def CP:Nat:=86
def HR:Nat:=87
def CI:Nat:=93
def Kf:Nat:=94
def GM:Nat:=95
def Cg:Nat:=96
def FE:Nat:=97
def CC:Nat:=98
def EP:Nat:=99
def B6:Nat:=100
def CV:Nat:=101
def CT:Nat:=102
def DT:Nat:=103
def B2:Nat:=104
def Dt:Nat:=105
def Ff:Nat:=106
def Cs:Nat:=107
def Ci:Nat:=108
def EI:Nat:=118
def Cq:Nat:=119
def DM:Nat:=120
def Gv:Nat:=121
def EQ:Nat:=122
def BU:Nat:=123
def Dg:Nat:=124
def DB:Nat:=127
def BG:Nat:=128
def A5:Nat:=129
def Em:Nat:=130
def AN:Nat:=131
def BA:Nat:=132
def DL:Nat:=133
def DR:Nat:=143
def Eh:Nat:=144
def Ek:Nat:=145
def AE:Nat:=146
def A0:Nat:=156
def Dk:Nat:=157
def EJ:Nat:=158
def Dz:Nat:=159
def CD:Nat:=160
def CL:Nat:=161
def Fh:Nat:=162
def Az:Nat:=163
def Bx:Nat:=164
def CU:Nat:=165
def Cw:Nat:=166
def A6:Nat:=167
def AM:Nat:=168
def DA:Nat:=169
def Av:Nat:=170
def AQ:Nat:=171
def A3:Nat:=172
def ES:Nat:=173
def CJ:Nat:=174
def CR:Nat:=175
def BO:Nat:=176
def B3:Nat:=177
def Ef:Nat:=179
def Bd:Nat:=191
def Al:Nat:=192
def AO:Nat:=193
def AI:Nat:=194
def HQ:Nat:=195
def AP:Nat:=196
def F3:Nat:=197
def Dv:Nat:=198
def CB:Nat:=199
def GL:Nat:=200
def BI:Nat:=202
def Fe:Nat:=203
def Ct:Nat:=204
def BN:Nat:=205
def Ai:Nat:=206
def B1:Nat:=207
def AV:Nat:=208
def AD:Nat:=209
def Jj:Nat:=210
def GN:Nat:=211
def HP:Nat:=212
def Eg:Nat:=221
def Du:Nat:=222
def Bg:Nat:=223
def Bc:Nat:=224
def Di:Nat:=225
def Cu:Nat:=233
def Be:Nat:=234
def DN:Nat:=235
def Fc:Nat:=236
def Fg:Nat:=241
def A9:Nat:=242
def BL:Nat:=243
def AC:Nat:=244
def Br:Nat:=245
def AR:Nat:=246
def Bs:Nat:=247
def BQ:Nat:=248
def CY:Nat:=249
def CW:Nat:=250
def Cv:Nat:=251
def FF:Nat:=252
def Bo:Nat:=253
def Cc:Nat:=254
def KB:Nat:=256
def BZ:Nat:=265
def Bv:Nat:=266
def DQ:Nat:=267
def Fb:Nat:=268
def HO:Nat:=269
def BC:Nat:=271
def Ej:Nat:=277
def EL:Nat:=278
def AH:Nat:=279
def A7:Nat:=286
def Dh:Nat:=289
def Ax:Nat:=290
def BV:Nat:=291
def CZ:Nat:=292
def EK:Nat:=293
def CX:Nat:=294
def Dl:Nat:=295
def Cr:Nat:=299
def H7:Nat:=300
def GQ:Nat:=301
def BB:Nat:=302
def Ei:Nat:=306
def Gw:Nat:=307
def Cy:Nat:=316
def BW:Nat:=320
def Vu:B8:=[97,44,98,10,49,44,120,10,34,49,34,44,10]
def str10:B8:=[49]
def str11:B8:=[34,49,34]
def J3:B8:=[116,114,117,101]
def UL:B8:=[102,97,108,115,101]
def K3:B8:=[48]
def EV:B8:=[45]
def J2:B8:=[46]
def UK:B8:=[48,46]
def Wt:B8:=[101]
def NQ:B8:=[84]
def RK:B8:=[43]
def str21:B8:=[100,100,100,100,45,100,100,45,100,100]
def Wr:B8:=[101,45]
def Dy:B8:=[58]
def str24:B8:=[90]
def str25:B8:=[84,116,32]
def str26:B8:=[100,100,58,100,100,58,100,100]
def EU:B8:=[48,48,48,48,48,48,48,48,48]
def str28:B8:=[122]
def str29:B8:=[43,100,100,58,100,100]
def str30:B8:=[45,100,100,58,100,100]
def str31:B8:=[90,122,43,45]
def str32:B8:=[57,50,50,51,51,55,50,48,51,54,56,53,52,55,55,53,56,48,55]
theorem In (n_0:Int) (n_1:B8) (n_2:B8) (n_3:TV) (n_4:B8) (most:Int) (depth:Int) (long:Int) (st:St) (K:Bool->St->Prop) (h:CallT PR B2 [(.agg [.int .i64 n_0,.str n_1,.str n_2,n_3,.str n_4]),.int .i64 most,.int .i64 depth,.int .i64 long] [.one (.int .i64)] st (fun (n1:Int) a=>K ((decide ((0:Int)<=n1))) a)):CallT PR CQ [(.agg [.int .i64 n_0,.str n_1,.str n_2,n_3,.str n_4]),.int .i64 most,.int .i64 depth,.int .i64 long] [.one .bool] st K:=
 Ae (cfg:=⟨[4],[],[]⟩) (h:= .none) mixed (fun _ _=>Tryz.call41 _ _) Tryz.func41 (by kernel_rfl) (by kernel_rfl) h
theorem NF (st:St) (K:Int->Int->Int->Int->Int->St->Prop) (h:K 48 65536 1048576 1024 65536 st):CallT PR F6 [] [.agg [.int .i64,.int .i64,.int .i64,.int .i64,.int .i64]] st K:=
 Ae (cfg:=⟨[0],[],[]⟩) (h:= .none) mixed (fun _ _=>Tryz.call53 _ _) Tryz.func53 (by kernel_rfl) (by kernel_rfl) h
theorem NI (src:B8) (d_0:Int) (d_1:Int) (d_2:Bool) (d_3:Bool) (l_0:Int) (l_1:Int) (l_2:Int) (l_3:Int) (l_4:Int) (st:St) (K:Int->B8->B8->TV->B8->Int->Int->St->Prop) (h:CallT PR Dj [(.agg [.int .u8 d_0,.int .u8 d_1,.bool d_2,.bool d_3])] [.one .bool] st (fun (b1:Bool) i=>BIf (!b1) (K 0 [] [] .nilSlice [] 0 1 i) (CallT PR F5 [(.agg [.int .i64 l_0,.int .i64 l_1,.int .i64 l_2,.int .i64 l_3,.int .i64 l_4])] [.one .bool] i (fun (b2:Bool) f=>BIf (!b2) (K 0 [] [] .nilSlice [] 0 1 f) (BId (l_2<(src.length:Int)) (K 0 [] [] .nilSlice [] 0 10 f) (CallT PR EI [.str src] [.one (.int .i64)] f (fun (n1:Int) c=>BId ((0:Int)<=n1) (K 0 [] [] .nilSlice [] n1 5 c) (need (List.all [(.map c.nb)] Ap) (∃(I1:B8->TV->Int->B8->B8->TV->B8->St->Prop) (M1:B8->TV->Int->B8->B8->TV->B8->St->Nat),(I1 src ((.box (c.push (.map []) none).nb 0)) 1 [] [] .nilSlice [] ((c.push (.map []) none).push (.cells [.str src,.int .u8 d_0,.int .u8 d_1,.bool d_2,.bool d_3,.int .i64 l_0,.int .i64 l_1,.int .i64 l_2,.int .i64 l_3,.int .i64 l_4,.int .i64 0,.int .i64 1,.int .i64 0,(.map c.nb),.int .i64 0,.int .i64 0]) (some 180)))/\∀b a n2 s1 s2 v1 s3 d,I1 b a n2 s1 s2 v1 s3 d->(need (isPtr a) (need (isPtr a) (Ag (Ac d [] (.t (Ao a 10)) 0) (fun (x1:TV)=>Af (.int .i64) x1 (fun (n3:Int)=>BId (n3<(b.length:Int)) (need (isSl v1) (CallT PR Cq [a,(.int .i64 (lenS v1:Int))] [.agg [.int .i64,.str,.str,.tv,.str],.one .bool] d (fun (n4:Int) (s4 s5:B8) (v2:TV) (s6:B8) (b3:Bool) e=>need (List.all [.int .i64 n4,.str s4,.str s5,v2,.str s6] Ap) (BIf (!b3) (need (isPtr a) (need (isPtr a) (Ag (Ac e [] (.t (Ao a 14)) 0) (fun (x2:TV)=>Af (.int .i64) x2 (fun (n5:Int)=>need (isPtr a) (need (isPtr a) (Ag (Ac e [] (.t (Ao a 15)) 0) (fun (x3:TV)=>Af (.int .i64) x3 (fun (n6:Int)=>K 0 [] [] .nilSlice [] n5 n6 e))))))))) (need (List.all [.int .i64 n4,.str s4,.str s5,v2,.str s6] Ap) (AU 79 5 80 v1 1 [.int .i64 n4,.str s4,.str s5,v2,.str s6] e (fun (v3:TV) g=>need (List.all [v3] Ap) ((I1 b a n2 s1 s2 v3 s3 g/\M1 b a n2 s1 s2 v3 s3 g<M1 b a n2 s1 s2 v1 s3 d))))))))) (need (List.all [.int .i64 n2,.str s1,.str s2,v1,.str s3] Ap) (K n2 s1 s2 v1 s3 0 0 d)))))))))))))))):CallT PR El [.str src,(.agg [.int .u8 d_0,.int .u8 d_1,.bool d_2,.bool d_3]),(.agg [.int .i64 l_0,.int .i64 l_1,.int .i64 l_2,.int .i64 l_3,.int .i64 l_4])] [.agg [.int .i64,.str,.str,.tv,.str],.one (.int .i64),.one (.int .i64)] st K:=
 Ae (cfg:=⟨[4,5,6,11,12],[],[]⟩) (h:=(.seq .none (.seq .none (.seq .none (.seq .none (.seq .none (.seq .none (.seq (.block (.loop ⟨[(0,.str),(10,.tv)],[(6,2,0),(11,3,0)],[(2,5),(3,5)],[(3,0,.int .i64),(3,1,.str),(3,2,.str),(3,3,.tv),(3,4,.str)]⟩ .none)) .none)))))))) mixed (fun _ _=>Tryz.call55 _ _) Tryz.func55 (by kernel_rfl) (by kernel_rfl) h
theorem O2 (n_0:Int) (n_1:B8) (n_2:B8) (n_3:TV) (n_4:B8) (st:St) (K:Int->St->Prop) (h:stB (st.push (.cells [.int .i64 0]) (some 3)) (.box st.nb 0) [.int .i64 0] (fun c=>CallT PR DM [(.agg [.int .i64 n_0,.str n_1,.str n_2,n_3,.str n_4]),.int .i64 1,(.box st.nb 0)] [.one (.int .i64)] c (fun (n1:Int) b=>BId (n1≠0) (K n1 b) (CallT PR Gv [(.agg [.int .i64 n_0,.str n_1,.str n_2,n_3,.str n_4])] [.one (.int .i64)] b (fun (n2:Int) a=>BId ((1048576:Int)<n2) (K 10 a) (K 0 a)))))):CallT PR GP [(.agg [.int .i64 n_0,.str n_1,.str n_2,n_3,.str n_4])] [.one (.int .i64)] st K:=
 Ae (cfg:=⟨[1],[],[]⟩) (h:= .none) mixed (fun _ _=>Tryz.call56 _ _) Tryz.func56 (by kernel_rfl) (by kernel_rfl) h
theorem O1 (n_0:Int) (n_1:B8) (n_2:B8) (n_3:TV) (n_4:B8) (st:St) (K:B8->St->Prop) (h:CallT PR EQ [(.box st.nb 0),(.agg [.int .i64 n_0,.str n_1,.str n_2,n_3,.str n_4])] [] (st.push (.cells [.nilPtr,.nilSlice]) (some 188)) (fun (a:St)=>CallT PR BU [(.box st.nb 0)] [.one .str] a (fun (s1:B8) b=>K s1 b))):CallT PR GO [(.agg [.int .i64 n_0,.str n_1,.str n_2,n_3,.str n_4])] [.one .str] st K:=
 Ae (cfg:=⟨[1],[],[]⟩) (h:= .none) mixed (fun _ _=>Tryz.call57 _ _) Tryz.func57 (by kernel_rfl) (by kernel_rfl) h
theorem Ii (st:St) (K:Int->Int->Bool->Bool->St->Prop) (h:K 44 34 true true st):CallT PR BM [] [.agg [.int .u8,.int .u8,.bool,.bool]] st K:=
 Ae (cfg:=⟨[0],[],[]⟩) (h:= .none) mixed (fun _ _=>Tryz.call62 _ _) Tryz.func62 (by kernel_rfl) (by kernel_rfl) h
theorem Ir (st:St) (K:Int->Int->Int->Int->Int->St->Prop) (h:K 48 65536 1048576 1024 65536 st):CallT PR BP [] [.agg [.int .i64,.int .i64,.int .i64,.int .i64,.int .i64]] st K:=
 Ae (cfg:=⟨[0],[],[]⟩) (h:= .none) mixed (fun _ _=>Tryz.call63 _ _) Tryz.func63 (by kernel_rfl) (by kernel_rfl) h
theorem NG (d_0:Int) (d_1:Int) (d_2:Bool) (d_3:Bool) (st:St) (K:Bool->St->Prop) (h:BId (d_0≠9) (BId (d_0<32) (K false st) (BId ((126:Int)<d_0) (K false st) (BId (d_1<33) (K false st) (BId ((126:Int)<d_1) (K false st) (BId (d_0≠d_1) (CallT PR BG [.int .u8 d_0] [.one .bool] st (fun (b1:Bool) b=>BIf (!b1) (CallT PR BG [.int .u8 d_1] [.one .bool] b (fun (b2:Bool) d=>K ((!b2)) d)) (K false b))) (K false st)))))) (BId (d_1<33) (K false st) (BId ((126:Int)<d_1) (K false st) (BId (d_0≠d_1) (CallT PR BG [.int .u8 d_0] [.one .bool] st (fun (b3:Bool) a=>BIf (!b3) (CallT PR BG [.int .u8 d_1] [.one .bool] a (fun (b4:Bool) c=>K ((!b4)) c)) (K false a))) (K false st))))):CallT PR Dj [(.agg [.int .u8 d_0,.int .u8 d_1,.bool d_2,.bool d_3])] [.one .bool] st K:=
 Ae (cfg:=⟨[1],[],[]⟩) (h:= .none) mixed (fun _ _=>Tryz.call69 _ _) Tryz.func69 (by kernel_rfl) (by kernel_rfl) h
theorem NE (l_0:Int) (l_1:Int) (l_2:Int) (l_3:Int) (l_4:Int) (st:St) (K:Bool->St->Prop) (h:BId ((1:Int)<=l_0) (BId (l_0<=48) (BId ((1:Int)<=l_1) (BId (l_1<=65536) (BId ((1:Int)<=l_2) (BId (l_2<=1048576) (BId ((0:Int)<=l_3) (BId (l_3<=1024) (BId ((0:Int)<=l_4) (K ((decide (l_4<=65536))) st) (K false st)) (K false st)) (K false st)) (K false st)) (K false st)) (K false st)) (K false st)) (K false st)) (K false st)):CallT PR F5 [(.agg [.int .i64 l_0,.int .i64 l_1,.int .i64 l_2,.int .i64 l_3,.int .i64 l_4])] [.one .bool] st K:=
 Ae (cfg:=⟨[1],[],[]⟩) (h:= .none) mixed (fun _ _=>Tryz.call70 _ _) Tryz.func70 (by kernel_rfl) (by kernel_rfl) h
theorem Ih (d_0:Int) (d_1:Int) (d_2:Bool) (d_3:Bool) (st:St) (K:Bool->St->Prop) (h:BId (d_0=9) (BId ((33:Int)<=d_1) (BId (d_1<=126) (BId (d_0≠d_1) (CallT PR A5 [.int .u8 d_0] [.one .bool] st (fun (b1:Bool) b=>BIf b1 (CallT PR A5 [.int .u8 d_1] [.one .bool] b (fun (b2:Bool) d=>K b2 d)) (K false b))) (K false st)) (K false st)) (K false st)) (BId ((32:Int)<=d_0) (BId (d_0<=126) (BId ((33:Int)<=d_1) (BId (d_1<=126) (BId (d_0≠d_1) (CallT PR A5 [.int .u8 d_0] [.one .bool] st (fun (b3:Bool) a=>BIf b3 (CallT PR A5 [.int .u8 d_1] [.one .bool] a (fun (b4:Bool) c=>K b4 c)) (K false a))) (K false st)) (K false st)) (K false st)) (K false st)) (K false st))):CallT PR CN [(.agg [.int .u8 d_0,.int .u8 d_1,.bool d_2,.bool d_3])] [.one .bool] st K:=
 Ae (cfg:=⟨[1],[],[]⟩) (h:= .none) mixed (fun _ _=>Tryz.call71 _ _) Tryz.func71 (by kernel_rfl) (by kernel_rfl) h
theorem Iq (l_0:Int) (l_1:Int) (l_2:Int) (l_3:Int) (l_4:Int) (st:St) (K:Bool->St->Prop) (h:BId ((1:Int)<=l_0) (BId (l_0<=48) (BId ((1:Int)<=l_1) (BId (l_1<=65536) (BId ((1:Int)<=l_2) (BId (l_2<=1048576) (BId ((0:Int)<=l_3) (BId (l_3<=1024) (BId ((0:Int)<=l_4) (K ((decide (l_4<=65536))) st) (K false st)) (K false st)) (K false st)) (K false st)) (K false st)) (K false st)) (K false st)) (K false st)) (K false st)):CallT PR CS [(.agg [.int .i64 l_0,.int .i64 l_1,.int .i64 l_2,.int .i64 l_3,.int .i64 l_4])] [.one .bool] st K:=
 Ae (cfg:=⟨[1],[],[]⟩) (h:= .none) mixed (fun _ _=>Tryz.call72 _ _) Tryz.func72 (by kernel_rfl) (by kernel_rfl) h
theorem Ik (src:B8) (d_0:Int) (d_1:Int) (d_2:Bool) (d_3:Bool) (l_0:Int) (l_1:Int) (l_2:Int) (l_3:Int) (l_4:Int) (st:St) (K:Int->B8->B8->TV->B8->Int->Int->St->Prop) (h:CallT PR CN [(.agg [.int .u8 d_0,.int .u8 d_1,.bool d_2,.bool d_3])] [.one .bool] st (fun (b1:Bool) z=>BIf (!b1) (K 0 [] [] .nilSlice [] 0 1 z) (CallT PR Em [.str src,(.agg [.int .i64 l_0,.int .i64 l_1,.int .i64 l_2,.int .i64 l_3,.int .i64 l_4])] [.one (.int .i64),.one (.int .i64)] z (fun (n1 n2:Int) c8=>BId (n2≠0) (K 0 [] [] .nilSlice [] n1 n2 c8) (CallT PR AN [(.agg [.str src,.int .u8 d_0,.int .u8 d_1,.bool d_2,.bool d_3,.int .i64 l_0,.int .i64 l_1,.int .i64 l_2,.int .i64 l_3,.int .i64 l_4,.int .i64 0,.int .i64 0,.int .i64 0,.int .i64 0]),.int .i64 1] [.agg [.str,.int .u8,.int .u8,.bool,.bool,.int .i64,.int .i64,.int .i64,.int .i64,.int .i64,.int .i64,.int .i64,.int .i64,.int .i64]] c8 (fun (s1:B8) (n3 n4:Int) (b2 b3:Bool) (n5 n6 n7 n8 n9 d7 d9 e1 e3:Int) e0=>∃(I1:Int->B8->Int->Int->Bool->Bool->B8->Int->Int->Bool->Bool->Int->Int->Int->Int->Int->Int->Int->Int->Int->Int->B8->B8->TV->B8->St->Prop) (M1:Int->B8->Int->Int->Bool->Bool->B8->Int->Int->Bool->Bool->Int->Int->Int->Int->Int->Int->Int->Int->Int->Int->B8->B8->TV->B8->St->Nat),(I1 0 src d_0 d_1 d_2 d_3 s1 n3 n4 b2 b3 n5 n6 n7 n8 n9 d7 d9 e1 e3 1 [] [] .nilSlice [] e0)/\∀c a f g b4 b5 s2 l m b6 b7 k r o p q j n i d b s3 s4 v1 s5 e,I1 c a f g b4 b5 s2 l m b6 b7 k r o p q j n i d b s3 s4 v1 s5 e->(BId (d=0) (BId (j<(a.length:Int)) (BIf b4 (need (isSl v1) (CallT PR BA [(.agg [.str s2,.int .u8 l,.int .u8 m,.bool b6,.bool b7,.int .i64 k,.int .i64 r,.int .i64 o,.int .i64 p,.int .i64 q,.int .i64 j,.int .i64 n,.int .i64 i,.int .i64 d]),.int .i64 c,(.bool (decide ((lenS v1:Int)=(0:Int))))] [.agg [.str,.int .u8,.int .u8,.bool,.bool,.int .i64,.int .i64,.int .i64,.int .i64,.int .i64,.int .i64,.int .i64,.int .i64,.int .i64],.agg [.int .i64,.str,.str,.tv,.str],.one (.int .i64)] e (fun (s6:B8) (c4 c0:Int) (b8 b9:Bool) (d5 a5 a2 c7 a6 c6 d6 c1 c5 s:Int) (s7 s8:B8) (v2:TV) (s9:B8) (d2:Int) e2=>need (List.all [.int .i64 s,.str s7,.str s8,v2,.str s9] Ap) (need (List.all [.int .i64 s,.str s7,.str s8,v2,.str s9] Ap) (AU 79 5 80 v1 1 [.int .i64 s,.str s7,.str s8,v2,.str s9] e2 (fun (v3:TV) c2=>need (List.all [v3] Ap) ((I1 d2 a f g b4 b5 s6 c4 c0 b8 b9 d5 a5 a2 c7 a6 c6 d6 c1 c5 b s3 s4 v3 s5 c2/\M1 d2 a f g b4 b5 s6 c4 c0 b8 b9 d5 a5 a2 c7 a6 c6 d6 c1 c5 b s3 s4 v3 s5 c2<M1 c a f g b4 b5 s2 l m b6 b7 k r o p q j n i d b s3 s4 v1 s5 e)))))))) (CallT PR BA [(.agg [.str s2,.int .u8 l,.int .u8 m,.bool b6,.bool b7,.int .i64 k,.int .i64 r,.int .i64 o,.int .i64 p,.int .i64 q,.int .i64 j,.int .i64 n,.int .i64 i,.int .i64 d]),.int .i64 c,.bool false] [.agg [.str,.int .u8,.int .u8,.bool,.bool,.int .i64,.int .i64,.int .i64,.int .i64,.int .i64,.int .i64,.int .i64,.int .i64,.int .i64],.agg [.int .i64,.str,.str,.tv,.str],.one (.int .i64)] e (fun (a9:B8) (d0 a3:Int) (a0 x:Bool) (a1 c9 d3 a8 d1 y a4 d4 c3 u:Int) (v t:B8) (v4:TV) (w:B8) (b0:Int) d8=>need (List.all [.int .i64 u,.str v,.str t,v4,.str w] Ap) (need (List.all [.int .i64 u,.str v,.str t,v4,.str w] Ap) (AU 79 5 80 v1 1 [.int .i64 u,.str v,.str t,v4,.str w] d8 (fun (v5:TV) a7=>need (List.all [v5] Ap) ((I1 b0 a f g b4 b5 a9 d0 a3 a0 x a1 c9 d3 a8 d1 y a4 d4 c3 b s3 s4 v5 s5 a7/\M1 b0 a f g b4 b5 a9 d0 a3 a0 x a1 c9 d3 a8 d1 y a4 d4 c3 b s3 s4 v5 s5 a7<M1 c a f g b4 b5 s2 l m b6 b7 k r o p q j n i d b s3 s4 v1 s5 e)))))))) (BId (d≠0) (K 0 [] [] .nilSlice [] i d e) (need (List.all [.int .i64 b,.str s3,.str s4,v1,.str s5] Ap) (K b s3 s4 v1 s5 0 0 e)))) (BId (d≠0) (K 0 [] [] .nilSlice [] i d e) (need (List.all [.int .i64 b,.str s3,.str s4,v1,.str s5] Ap) (K b s3 s4 v1 s5 0 0 e)))))))))):CallT PR CO [.str src,(.agg [.int .u8 d_0,.int .u8 d_1,.bool d_2,.bool d_3]),(.agg [.int .i64 l_0,.int .i64 l_1,.int .i64 l_2,.int .i64 l_3,.int .i64 l_4])] [.agg [.int .i64,.str,.str,.tv,.str],.one (.int .i64),.one (.int .i64)] st K:=
 Ae (cfg:=⟨[4,5,6,11,12,14],[],[]⟩) (h:=(.seq .none (.seq .none (.seq .none (.seq .none (.seq .none (.seq .none (.seq (.block (.loop ⟨[(13,.int .i64),(0,.str)],[(4,0,0),(6,2,0),(11,3,0),(12,4,0)],[(0,4),(2,5),(3,14),(4,5)],[(0,0,.int .u8),(0,1,.int .u8),(0,2,.bool),(0,3,.bool),(3,0,.str),(3,1,.int .u8),(3,2,.int .u8),(3,3,.bool),(3,4,.bool),(3,5,.int .i64),(3,6,.int .i64),(3,7,.int .i64),(3,8,.int .i64),(3,9,.int .i64),(3,10,.int .i64),(3,11,.int .i64),(3,12,.int .i64),(3,13,.int .i64),(4,0,.int .i64),(4,1,.str),(4,2,.str),(4,3,.tv),(4,4,.str)]⟩ .none)) .none)))))))) mixed (fun _ _=>Tryz.call73 _ _) Tryz.func73 (by kernel_rfl) (by kernel_rfl) h
theorem Il (st:St) (K:Int->Int->Int->Int->Int->St->Prop) (h:CallT PR BP [] [.agg [.int .i64,.int .i64,.int .i64,.int .i64,.int .i64]] st (fun (n1 n2 n3 n4 n5:Int) a=>K n1 n2 n3 n4 n5 a)):CallT PR CP [] [.agg [.int .i64,.int .i64,.int .i64,.int .i64,.int .i64]] st K:=
 Ae (cfg:=⟨[0],[],[]⟩) (h:= .none) mixed (fun _ _=>Tryz.call86 _ _) Tryz.func86 (by kernel_rfl) (by kernel_rfl) h
theorem IR (n_0:Int) (n_1:B8) (n_2:B8) (n_3:TV) (n_4:B8) (left:Int) (depth:Int) (long:Int) (st:St) (K:Int->St->Prop) (h:BId (depth<=0) (K (-1) st) (need (isSl n_3) (BId ((i64.wrap (left-(1:Int)))<(lenS n_3:Int)) (K (-1) st) (BId (long<(n_1.length:Int)) (K (-1) st) (BId (long<(n_2.length:Int)) (K (-1) st) (BId (long<(n_4.length:Int)) (K (-1) st) (∃(I1:Int->Int->Int->Int->Int->B8->B8->TV->B8->St->Prop) (M1:Int->Int->Int->Int->Int->B8->B8->TV->B8->St->Nat),(I1 ((i64.wrap (left-(1:Int)))) 0 depth long n_0 n_1 n_2 n_3 n_4 st)/\∀b d a c n1 s1 s2 v1 s3 e,I1 b d a c n1 s1 s2 v1 s3 e->(need (isSl v1) (BId (d<(lenS v1:Int)) (BId ((0:Int)<=b) (((0<=d/\d<(lenZ 5 v1:Int))/\Ag ((Aj e [] (.t (ixT 5 v1 d.toNat)) 0 5).map TV.agg) (fun (x1:TV)=>AW [.int .i64,.str,.str,.tv,.str] x1 (fun (n2:Int) (s4 s5:B8) (v2:TV) (s6:B8)=>CallT PR B2 [(.agg [.int .i64 n2,.str s4,.str s5,v2,.str s6]),.int .i64 b,(.int .i64 (i64.wrap (a-(1:Int)))),.int .i64 c] [.one (.int .i64)] e (fun (n3:Int) f=>(I1 n3 ((i64.wrap (d+(1:Int)))) a c n1 s1 s2 v1 s3 f/\M1 n3 ((i64.wrap (d+(1:Int)))) a c n1 s1 s2 v1 s3 f<M1 b d a c n1 s1 s2 v1 s3 e)))))) (K b e)) (K b e)))))))))):CallT PR B2 [(.agg [.int .i64 n_0,.str n_1,.str n_2,n_3,.str n_4]),.int .i64 left,.int .i64 depth,.int .i64 long] [.one (.int .i64)] st K:=
 Ae (cfg:=⟨[4],[],[]⟩) (h:=(.seq .none (.seq .none (.seq .none (.seq (.seq .none (.block (.loop ⟨[(1,.int .i64),(9,.int .i64),(2,.int .i64),(3,.int .i64)],[(4,0,0)],[(0,5)],[(0,0,.int .i64),(0,1,.str),(0,2,.str),(0,3,.tv),(0,4,.str)]⟩ .none))) .none))))) mixed (fun _ _=>Tryz.call104 _ _) Tryz.func104 (by kernel_rfl) (by kernel_rfl) h
theorem LF (n_0:Int) (b:B8) (f:B8) (a:TV) (c:B8) (d_0:Int) (d_1:Int) (d_2:Bool) (d_3:Bool) (st:St) (K:TV->Int->St->Prop) (h:CallT PR ES [(.agg [.int .i64 n_0,.str b,.str f,a,.str c]),(.agg [.int .u8 d_0,.int .u8 d_1,.bool d_2,.bool d_3])] [.one .bool] st (fun (b1:Bool) r=>BIf (!b1) (K .nilSlice 1 r) (need (isSl a) (∃(I1:TV->Int->TV->Int->Int->Int->Bool->Bool->St->Prop) (M1:TV->Int->TV->Int->Int->Int->Bool->Bool->St->Nat),(I1 .nilSlice 0 a ((lenS a:Int)) d_0 d_1 d_2 d_3 r)/\∀e b l f n1 n2 b2 b3 n,I1 e b l f n1 n2 b2 b3 n->(BId (b<f) (((0<=b/\b<(lenZ 5 l:Int))/\Ag ((Aj n [] (.t (ixT 5 l b.toNat)) 0 5).map TV.agg) (fun (x1:TV)=>AW [.int .i64,.str,.str,.tv,.str] x1 (fun (n3:Int) (s1 s2:B8) (v1:TV) (s3:B8)=>need (List.all [.int .i64 n3,.str s1,.str s2,v1,.str s3] Ap) (need (isSl v1) (∃(I2:TV->Int->TV->TV->Int->Int->TV->Int->Int->Int->Bool->Bool->St->Prop) (M2:TV->Int->TV->TV->Int->Int->TV->Int->Int->Int->Bool->Bool->St->Nat),(I2 .nilSlice 0 e l f b v1 ((lenS v1:Int)) n1 n2 b2 b3 n)/\∀i a d j c g k m n4 n5 b4 b5 o,I2 i a d j c g k m n4 n5 b4 b5 o->(BId (a<m) (((0<=a/\a<(lenZ 5 k:Int))/\Ag ((Aj o [] (.t (ixT 5 k a.toNat)) 0 5).map TV.agg) (fun (x2:TV)=>AW [.int .i64,.str,.str,.tv,.str] x2 (fun (n6:Int) (s4 s5:B8) (v2:TV) (s6:B8)=>need (List.all [.int .i64 n6,.str s4,.str s5,v2,.str s6] Ap) (((0<=(0:Int)/\(0:Int)<(lenZ 5 v2:Int))/\need (isPtr (ixT 5 v2 (Int.toNat (0:Int)))) (Ag (Ac CA [] (.t (Ao (ixT 5 v2 (Int.toNat (0:Int))) 2)) 0) (fun (x3:TV)=>Af .str x3 (fun (s7:B8)=>CallT PR CJ [.str s7,(.agg [.int .u8 n4,.int .u8 n5,.bool b4,.bool b5])] [.one .str,.one .bool] o (fun (s8:B8) (b6:Bool) s=>AU 9 1 16 i 1 [.str s8] s (fun (v3:TV) q=>(I2 v3 ((i64.wrap (a+(1:Int)))) d j c g k m n4 n5 b4 b5 q/\M2 v3 ((i64.wrap (a+(1:Int)))) d j c g k m n4 n5 b4 b5 q<M2 i a d j c g k m n4 n5 b4 b5 o)))))))))))) (need (List.all [i] Ap) (need (List.all [i] Ap) (AU 22 1 24 d 1 [i] o (fun (v4:TV) p=>(I1 v4 ((i64.wrap (g+(1:Int)))) j c n4 n5 b4 b5 p/\M1 v4 ((i64.wrap (g+(1:Int)))) j c n4 n5 b4 b5 p<M1 e b l f n1 n2 b2 b3 n)))))))))))) (K e 0 n)))))):CallT PR Dt [(.agg [.int .i64 n_0,.str b,.str f,a,.str c]),(.agg [.int .u8 d_0,.int .u8 d_1,.bool d_2,.bool d_3])] [.one .tv,.one (.int .i64)] st K:=
 Ae (cfg:=⟨[2,3,8,11],[],[]⟩) (h:=(.seq .none (.seq .none (.seq .none (.seq (.seq .none (.block (.loop ⟨[(6,.tv),(21,.int .i64),(19,.tv),(20,.int .i64)],[(3,1,0)],[(1,4)],[(1,0,.int .u8),(1,1,.int .u8),(1,2,.bool),(1,3,.bool)]⟩ (.seq .none (.seq .none (.seq (.block (.seq .none (.seq .none (.seq (.seq .none (.block (.loop ⟨[(9,.tv),(28,.int .i64),(6,.tv),(19,.tv),(20,.int .i64),(21,.int .i64),(26,.tv),(27,.int .i64)],[(3,1,0)],[(1,4)],[(1,0,.int .u8),(1,1,.int .u8),(1,2,.bool),(1,3,.bool)]⟩ .none))) .none)))) .none)))))) .none))))) mixed (fun _ _=>Tryz.call105 _ _) Tryz.func105 (by kernel_rfl) (by kernel_rfl) h
theorem MY (n_0:Int) (b:B8) (f:B8) (a:TV) (c:B8) (d_0:Int) (d_1:Int) (d_2:Bool) (d_3:Bool) (st:St) (K:TV->Int->St->Prop) (h:CallT PR ES [(.agg [.int .i64 n_0,.str b,.str f,a,.str c]),(.agg [.int .u8 d_0,.int .u8 d_1,.bool d_2,.bool d_3])] [.one .bool] st (fun (b1:Bool) r=>BIf (!b1) (K .nilSlice 1 r) (need (isSl a) (∃(I1:TV->Int->TV->Int->Int->Int->Bool->Bool->St->Prop) (M1:TV->Int->TV->Int->Int->Int->Bool->Bool->St->Nat),(I1 .nilSlice 0 a ((lenS a:Int)) d_0 d_1 d_2 d_3 r)/\∀e b l f n1 n2 b2 b3 n,I1 e b l f n1 n2 b2 b3 n->(BId (b<f) (((0<=b/\b<(lenZ 5 l:Int))/\Ag ((Aj n [] (.t (ixT 5 l b.toNat)) 0 5).map TV.agg) (fun (x1:TV)=>AW [.int .i64,.str,.str,.tv,.str] x1 (fun (n3:Int) (s1 s2:B8) (v1:TV) (s3:B8)=>need (List.all [.int .i64 n3,.str s1,.str s2,v1,.str s3] Ap) (need (isSl v1) (∃(I2:TV->Int->TV->TV->Int->Int->TV->Int->Int->Int->Bool->Bool->St->Prop) (M2:TV->Int->TV->TV->Int->Int->TV->Int->Int->Int->Bool->Bool->St->Nat),(I2 .nilSlice 0 e l f b v1 ((lenS v1:Int)) n1 n2 b2 b3 n)/\∀i a d j c g k m n4 n5 b4 b5 o,I2 i a d j c g k m n4 n5 b4 b5 o->(BId (a<m) (((0<=a/\a<(lenZ 5 k:Int))/\Ag ((Aj o [] (.t (ixT 5 k a.toNat)) 0 5).map TV.agg) (fun (x2:TV)=>AW [.int .i64,.str,.str,.tv,.str] x2 (fun (n6:Int) (s4 s5:B8) (v2:TV) (s6:B8)=>need (List.all [.int .i64 n6,.str s4,.str s5,v2,.str s6] Ap) (((0<=(0:Int)/\(0:Int)<(lenZ 5 v2:Int))/\need (isPtr (ixT 5 v2 (Int.toNat (0:Int)))) (Ag (Ac CA [] (.t (Ao (ixT 5 v2 (Int.toNat (0:Int))) 2)) 0) (fun (x3:TV)=>Af .str x3 (fun (s7:B8)=>CallT PR CJ [.str s7,(.agg [.int .u8 n4,.int .u8 n5,.bool b4,.bool b5])] [.one .str,.one .bool] o (fun (s8:B8) (b6:Bool) s=>AU 4 1 1 i 1 [.bool b6] s (fun (v3:TV) q=>(I2 v3 ((i64.wrap (a+(1:Int)))) d j c g k m n4 n5 b4 b5 q/\M2 v3 ((i64.wrap (a+(1:Int)))) d j c g k m n4 n5 b4 b5 q<M2 i a d j c g k m n4 n5 b4 b5 o)))))))))))) (need (List.all [i] Ap) (need (List.all [i] Ap) (AU 164 1 24 d 1 [i] o (fun (v4:TV) p=>(I1 v4 ((i64.wrap (g+(1:Int)))) j c n4 n5 b4 b5 p/\M1 v4 ((i64.wrap (g+(1:Int)))) j c n4 n5 b4 b5 p<M1 e b l f n1 n2 b2 b3 n)))))))))))) (K e 0 n)))))):CallT PR Ff [(.agg [.int .i64 n_0,.str b,.str f,a,.str c]),(.agg [.int .u8 d_0,.int .u8 d_1,.bool d_2,.bool d_3])] [.one .tv,.one (.int .i64)] st K:=
 Ae (cfg:=⟨[2,3,8,11],[],[]⟩) (h:=(.seq .none (.seq .none (.seq .none (.seq (.seq .none (.block (.loop ⟨[(6,.tv),(21,.int .i64),(19,.tv),(20,.int .i64)],[(3,1,0)],[(1,4)],[(1,0,.int .u8),(1,1,.int .u8),(1,2,.bool),(1,3,.bool)]⟩ (.seq .none (.seq .none (.seq (.block (.seq .none (.seq .none (.seq (.seq .none (.block (.loop ⟨[(9,.tv),(28,.int .i64),(6,.tv),(19,.tv),(20,.int .i64),(21,.int .i64),(26,.tv),(27,.int .i64)],[(3,1,0)],[(1,4)],[(1,0,.int .u8),(1,1,.int .u8),(1,2,.bool),(1,3,.bool)]⟩ .none))) .none)))) .none)))))) .none))))) mixed (fun _ _=>Tryz.call106 _ _) Tryz.func106 (by kernel_rfl) (by kernel_rfl) h
theorem Kq (n_0:Int) (n_1:B8) (n_2:B8) (n_3:TV) (n_4:B8) (d_0:Int) (d_1:Int) (d_2:Bool) (d_3:Bool) (st:St) (K:Bool->St->Prop) (h:CallT PR CR [(.agg [.int .i64 n_0,.str n_1,.str n_2,n_3,.str n_4])] [.one (.int .i64)] st (fun (n1:Int) a=>BId (n1≠0) (K false a) (CallT PR BO [(.agg [.int .i64 n_0,.str n_1,.str n_2,n_3,.str n_4])] [.one .str] a (fun (s1:B8) d=>CallT PR BP [] [.agg [.int .i64,.int .i64,.int .i64,.int .i64,.int .i64]] d (fun (n2 n3 n4 n5 n6:Int) e=>CallT PR CO [.str s1,(.agg [.int .u8 d_0,.int .u8 d_1,.bool d_2,.bool d_3]),(.agg [.int .i64 n2,.int .i64 n3,.int .i64 n4,.int .i64 n5,.int .i64 n6])] [.agg [.int .i64,.str,.str,.tv,.str],.one (.int .i64),.one (.int .i64)] e (fun (n7:Int) (s2 s3:B8) (v1:TV) (s4:B8) (n8 n9:Int) b=>need (List.all [.int .i64 n7,.str s2,.str s3,v1,.str s4] Ap) (BId (n9=0) (CallT PR B3 [(.agg [.int .i64 n7,.str s2,.str s3,v1,.str s4]),(.agg [.int .i64 n_0,.str n_1,.str n_2,n_3,.str n_4])] [.one .bool] b (fun (b1:Bool) c=>K b1 c)) (K false b)))))))):CallT PR Cs [(.agg [.int .i64 n_0,.str n_1,.str n_2,n_3,.str n_4]),(.agg [.int .u8 d_0,.int .u8 d_1,.bool d_2,.bool d_3])] [.one .bool] st K:=
 Ae (cfg:=⟨[2,3,5],[],[]⟩) (h:= .none) mixed (fun _ _=>Tryz.call107 _ _) Tryz.func107 (by kernel_rfl) (by kernel_rfl) h
theorem G3 (n_0:Int) (n_1:B8) (n_2:B8) (n_3:TV) (n_4:B8) (d_0:Int) (d_1:Int) (d_2:Bool) (d_3:Bool) (st:St) (K:TV->Int->St->Prop) (h:CallT PR Cs [(.agg [.int .i64 n_0,.str n_1,.str n_2,n_3,.str n_4]),(.agg [.int .u8 d_0,.int .u8 d_1,.bool d_2,.bool d_3])] [.one .bool] st (fun (b1:Bool) l=>BIf (!b1) (K .nilSlice 1 l) (∃(I1:TV->Int->Int->B8->B8->TV->B8->Int->Int->Bool->Bool->St->Prop) (M1:TV->Int->Int->B8->B8->TV->B8->Int->Int->Bool->Bool->St->Nat),(I1 .nilSlice 0 n_0 n_1 n_2 n_3 n_4 d_0 d_1 d_2 d_3 l)/\∀d g n1 s1 s2 v1 s3 n2 n3 b2 b3 i,I1 d g n1 s1 s2 v1 s3 n2 n3 b2 b3 i->(need (isSl v1) (BId (g<(lenS v1:Int)) (∃(I2:TV->Int->TV->Int->Int->B8->B8->TV->B8->Int->Int->Bool->Bool->St->Prop) (M2:TV->Int->TV->Int->Int->B8->B8->TV->B8->Int->Int->Bool->Bool->St->Nat),(I2 .nilSlice 0 d g n1 s1 s2 v1 s3 n2 n3 b2 b3 i)/\∀e b c a n4 s4 s5 v2 s6 n5 n6 b4 b5 f,I2 e b c a n4 s4 s5 v2 s6 n5 n6 b4 b5 f->(((0<=a/\a<(lenZ 5 v2:Int))/\need (isPtr (ixT 5 v2 a.toNat)) (Ag (Ac f [] (.t (Ao (ixT 5 v2 a.toNat) 3)) 0) (fun (v3:TV)=>need (isSl v3) (BId (b<(lenS v3:Int)) (((0<=a/\a<(lenZ 5 v2:Int))/\need (isPtr (ixT 5 v2 a.toNat)) (Ag (Ac CA [] (.t (Ao (ixT 5 v2 a.toNat) 3)) 0) (fun (v4:TV)=>((0<=b/\b<(lenZ 5 v4:Int))/\need (isPtr (ixT 5 v4 b.toNat)) (Ag (Ac CA [] (.t (Ao (ixT 5 v4 b.toNat) 3)) 0) (fun (v5:TV)=>((0<=(0:Int)/\(0:Int)<(lenZ 5 v5:Int))/\need (isPtr (ixT 5 v5 (Int.toNat (0:Int)))) (Ag (Ac CA [] (.t (Ao (ixT 5 v5 (Int.toNat (0:Int))) 2)) 0) (fun (x4:TV)=>Af .str x4 (fun (s7:B8)=>CallT PR A3 [.str s7,(.agg [.int .u8 n5,.int .u8 n6,.bool b4,.bool b5])] [.one .str] f (fun (s8:B8) m=>AU 9 1 16 e 1 [.str s8] m (fun (v6:TV) k=>(I2 v6 ((i64.wrap (b+(1:Int)))) c a n4 s4 s5 v2 s6 n5 n6 b4 b5 k/\M2 v6 ((i64.wrap (b+(1:Int)))) c a n4 s4 s5 v2 s6 n5 n6 b4 b5 k<M2 e b c a n4 s4 s5 v2 s6 n5 n6 b4 b5 f)))))))))))))) (need (List.all [e] Ap) (need (List.all [e] Ap) (AU 22 1 24 c 1 [e] f (fun (v7:TV) j=>(I1 v7 ((i64.wrap (a+(1:Int)))) n4 s4 s5 v2 s6 n5 n6 b4 b5 j/\M1 v7 ((i64.wrap (a+(1:Int)))) n4 s4 s5 v2 s6 n5 n6 b4 b5 j<M1 d g n1 s1 s2 v1 s3 n2 n3 b2 b3 i))))))))))) (K d 0 i)))))):CallT PR Ci [(.agg [.int .i64 n_0,.str n_1,.str n_2,n_3,.str n_4]),(.agg [.int .u8 d_0,.int .u8 d_1,.bool d_2,.bool d_3])] [.one .tv,.one (.int .i64)] st K:=
 Ae (cfg:=⟨[2,3],[],[]⟩) (h:=(.seq .none (.seq .none (.seq .none (.seq (.seq .none (.block (.loop ⟨[(6,.tv),(7,.int .i64)],[(2,0,0),(3,1,0)],[(0,5),(1,4)],[(0,0,.int .i64),(0,1,.str),(0,2,.str),(0,3,.tv),(0,4,.str),(1,0,.int .u8),(1,1,.int .u8),(1,2,.bool),(1,3,.bool)]⟩ (.seq .none (.seq (.block (.seq .none (.seq (.seq .none (.block (.loop ⟨[(8,.tv),(9,.int .i64),(6,.tv),(7,.int .i64)],[(2,0,0),(3,1,0)],[(0,5),(1,4)],[(0,0,.int .i64),(0,1,.str),(0,2,.str),(0,3,.tv),(0,4,.str),(1,0,.int .u8),(1,1,.int .u8),(1,2,.bool),(1,3,.bool)]⟩ .none))) .none))) .none))))) .none))))) mixed (fun _ _=>Tryz.call108 _ _) Tryz.func108 (by kernel_rfl) (by kernel_rfl) h
theorem LE (src:B8) (st:St) (K:Int->St->Prop) (h:∃(I1:Int->B8->St->Prop) (M1:Int->B8->St->Nat),(I1 0 src st)/\∀b a c,I1 b a c->(BId (b<(a.length:Int)) (CallT PR DL [.str a,.int .i64 b] [.one (.int .i64),.one (.int .i64)] c (fun (n1 n2:Int) d=>BId (n2=0) (K b d) ((I1 ((i64.wrap (b+n2))) a d/\M1 ((i64.wrap (b+n2))) a d<M1 b a c)))) (K (-1) c))):CallT PR EI [.str src] [.one (.int .i64)] st K:=
 Ae (cfg:=⟨[],[],[]⟩) (h:=(.seq .none (.seq (.seq .none (.block (.loop ⟨[(3,.int .i64),(0,.str)],[],[],[]⟩ .none))) .none))) mixed (fun _ _=>Tryz.call118 _ _) Tryz.func118 (by kernel_rfl) (by kernel_rfl) h
theorem Hp (p:Nat) (number:Int) (st:St) (K:Int->B8->B8->TV->B8->Bool->St->Prop) (h:BId (number=0) (Ag (Ac st [] (.t (.box p 3)) 0) (fun (x1:TV)=>Af .bool x1 (fun (b1:Bool)=>stB (st.push (.cells [.int .i64 0,(.str []),(.str []),.nilSlice,(.str [])]) (some 79)) (.box st.nb 0) [.int .i64 8,(.str []),(.str []),.nilSlice,(.str [])] (fun st1=>BIf (!b1) (CallT PR Bd [(.box p 0),.int .i64 2] [.one .bool] st1 (fun (b2:Bool) i3=>BIf (!b2) (Ag ((Aj i3 [] (.t (.box st.nb 0)) 0 5).map TV.agg) (fun (x2:TV)=>AW [.int .i64,.str,.str,.tv,.str] x2 (fun (n1:Int) (s1 s2:B8) (v1:TV) (s3:B8)=>need (List.all [.int .i64 n1,.str s1,.str s2,v1,.str s3] Ap) (K n1 s1 s2 v1 s3 false i3)))) (∃(I1:TV->Int->Bool->TV->St->Prop) (M1:TV->Int->Bool->TV->St->Nat),(I1 ((.box p 0)) number b1 ((.box st.nb 0)) i3)/\∀d g l a w,I1 d g l a w->(BId ((0:Int)<g) (need (isPtr a) (Ag (Ac w [] (.t (Ao a 3)) 0) (fun (v2:TV)=>need (isSl v2) (need (isPtr d) (need (isPtr d) (Ag (Ac w [] (.t (Ao d 12)) 0) (fun (x4:TV)=>Af (.int .i64) x4 (fun (n2:Int)=>BId (n2<=(lenS v2:Int)) (Ag ((Aj w [] (.t a) 0 5).map TV.agg) (fun (x5:TV)=>AW [.int .i64,.str,.str,.tv,.str] x5 (fun (n3:Int) (s4 s5:B8) (v3:TV) (s6:B8)=>need (isPtr d) (need (isPtr d) (Ag (Ac w [] (.t (Ao d 10)) 0) (fun (x6:TV)=>Af (.int .i64) x6 (fun (n4:Int)=>CallT PR Al [d,.int .i64 n4,.int .i64 10] [.one .bool] w (fun (b3:Bool) st4=>(Aj st4 [] (.t a) 0 5=some [.int .i64 n3,.str s4,.str s5,v3,.str s6]/\need (List.all [.int .i64 n3,.str s4,.str s5,v3,.str s6] Ap) (K n3 s4 s5 v3 s6 b3 st4)))))))))) (CallT PR AO [d,.bool l] [.agg [.int .i64,.str,.str,.tv,.str],.one .bool] w (fun (n5:Int) (s7 s8:B8) (v4:TV) (s9:B8) (b4:Bool) f3=>need (List.all [.int .i64 n5,.str s7,.str s8,v4,.str s9] Ap) (BIf (!b4) (Ag ((Aj f3 [] (.t a) 0 5).map TV.agg) (fun (x7:TV)=>AW [.int .i64,.str,.str,.tv,.str] x7 (fun (n6:Int) (u1 s11:B8) (v5:TV) (s12:B8)=>need (List.all [.int .i64 n6,.str u1,.str s11,v5,.str s12] Ap) (K n6 u1 s11 v5 s12 false f3)))) (need (isPtr a) (Ag (Ac f3 [] (.t (Ao a 3)) 0) (fun (v6:TV)=>need (isSl v6) (need (isPtr a) (need (List.all [.int .i64 n5,.str s7,.str s8,v4,.str s9] Ap) ((((lenS v6:Int)=(lenS v6:Int))/\AU 79 5 80 v6 1 [.int .i64 n5,.str s7,.str s8,v4,.str s9] f3 (fun (v7:TV) st6=>stB st6 (Ao a 3) [v7] (fun e8=>need (isSl v4) (BId ((lenS v4:Int)=(1:Int)) (need (isPtr d) (need (isPtr d) (Ag (Ac e8 [] (.t (Ao d 10)) 0) (fun (x9:TV)=>Af (.int .i64) x9 (fun (n7:Int)=>CallT PR AI [d,a] [.one .bool] e8 (fun (b5:Bool) x=>BIf (!b5) (Ag ((Aj x [] (.t a) 0 5).map TV.agg) (fun (x10:TV)=>AW [.int .i64,.str,.str,.tv,.str] x10 (fun (n8:Int) (x0 u2:B8) (v8:TV) (s15:B8)=>need (List.all [.int .i64 n8,.str x0,.str u2,v8,.str s15] Ap) (K n8 x0 u2 v8 s15 false x)))) (BId (g=0) (need (isPtr a) (Ag (Ac x [] (.t (Ao a 3)) 0) (fun (v9:TV)=>need (isSl v9) (need (isPtr d) (need (isPtr d) (stB x (Ao d 12) [(.int .i64 (lenS v9:Int))] (fun a3=>need (isPtr a) (Ag (Ac a3 [] (.t (Ao a 3)) 0) (fun (y8:TV)=>need (isSl y8) (need (isPtr d) (need (isPtr d) (Ag (Ac a3 [] (.t (Ao d 12)) 0) (fun (x13:TV)=>Af (.int .i64) x13 (fun (n9:Int)=>BId ((lenS y8:Int)<n9) (Ag ((Aj a3 [] (.t a) 0 5).map TV.agg) (fun (x14:TV)=>AW [.int .i64,.str,.str,.tv,.str] x14 (fun (k6:Int) (h6 o4:B8) (l5:TV) (k0:B8)=>CallT PR Al [d,.int .i64 n7,.int .i64 10] [.one .bool] a3 (fun (b6:Bool) j9=>(Aj j9 [] (.t a) 0 5=some [.int .i64 k6,.str h6,.str o4,l5,.str k0]/\need (List.all [.int .i64 k6,.str h6,.str o4,l5,.str k0] Ap) (K k6 h6 o4 l5 k0 b6 j9)))))) (Ag ((Aj a3 [] (.t a) 0 5).map TV.agg) (fun (x15:TV)=>AW [.int .i64,.str,.str,.tv,.str] x15 (fun (n11:Int) (s19 z0:B8) (x8:TV) (w2:B8)=>need (List.all [.int .i64 n11,.str s19,.str z0,x8,.str w2] Ap) (K n11 s19 z0 x8 w2 true a3)))))))))))))))))) (need (isPtr a) (Ag (Ac x [] (.t (Ao a 3)) 0) (fun (r6:TV)=>need (isSl r6) (need (isPtr d) (need (isPtr d) (Ag (Ac x [] (.t (Ao d 12)) 0) (fun (x17:TV)=>Af (.int .i64) x17 (fun (n12:Int)=>BId ((lenS r6:Int)<n12) (Ag ((Aj x [] (.t a) 0 5).map TV.agg) (fun (x18:TV)=>AW [.int .i64,.str,.str,.tv,.str] x18 (fun (f8:Int) (g2 n0:B8) (p6:TV) (m5:B8)=>CallT PR Al [d,.int .i64 n7,.int .i64 10] [.one .bool] x (fun (b7:Bool) i0=>(Aj i0 [] (.t a) 0 5=some [.int .i64 f8,.str g2,.str n0,p6,.str m5]/\need (List.all [.int .i64 f8,.str g2,.str n0,p6,.str m5] Ap) (K f8 g2 n0 p6 m5 b7 i0)))))) (Ag ((Aj x [] (.t a) 0 5).map TV.agg) (fun (x19:TV)=>AW [.int .i64,.str,.str,.tv,.str] x19 (fun (n14:Int) (s25 w1:B8) (z8:TV) (y4:B8)=>need (List.all [.int .i64 n14,.str s25,.str w1,z8,.str y4] Ap) (K n14 s25 w1 z8 y4 true x))))))))))))))))))) ((I1 d g l a e8/\M1 d g l a e8<M1 d g l a w))))))))))))))))))))))) (CallT PR AO [d,.bool l] [.agg [.int .i64,.str,.str,.tv,.str],.one .bool] w (fun (q1:Int) (o6 p7:B8) (c7:TV) (g0:B8) (b8:Bool) c0=>need (List.all [.int .i64 q1,.str o6,.str p7,c7,.str g0] Ap) (BIf (!b8) (Ag ((Aj c0 [] (.t a) 0 5).map TV.agg) (fun (x20:TV)=>AW [.int .i64,.str,.str,.tv,.str] x20 (fun (t9:Int) (v0 t3:B8) (v17:TV) (z5:B8)=>need (List.all [.int .i64 t9,.str v0,.str t3,v17,.str z5] Ap) (K t9 v0 t3 v17 z5 false c0)))) (need (isPtr a) (Ag (Ac c0 [] (.t (Ao a 3)) 0) (fun (f0:TV)=>need (isSl f0) (need (isPtr a) (need (List.all [.int .i64 q1,.str o6,.str p7,c7,.str g0] Ap) ((((lenS f0:Int)=(lenS f0:Int))/\AU 79 5 80 f0 1 [.int .i64 q1,.str o6,.str p7,c7,.str g0] c0 (fun (v19:TV) st13=>stB st13 (Ao a 3) [v19] (fun a7=>need (isSl c7) (BId ((lenS c7:Int)=(1:Int)) (need (isPtr d) (need (isPtr d) (Ag (Ac a7 [] (.t (Ao d 10)) 0) (fun (x22:TV)=>Af (.int .i64) x22 (fun (n17:Int)=>CallT PR AI [d,a] [.one .bool] a7 (fun (b9:Bool) q=>BIf (!b9) (Ag ((Aj q [] (.t a) 0 5).map TV.agg) (fun (x23:TV)=>AW [.int .i64,.str,.str,.tv,.str] x23 (fun (n18:Int) (s34 s35:B8) (v20:TV) (s36:B8)=>need (List.all [.int .i64 n18,.str s34,.str s35,v20,.str s36] Ap) (K n18 s34 s35 v20 s36 false q)))) (BId (g=0) (need (isPtr a) (Ag (Ac q [] (.t (Ao a 3)) 0) (fun (v21:TV)=>need (isSl v21) (need (isPtr d) (need (isPtr d) (stB q (Ao d 12) [(.int .i64 (lenS v21:Int))] (fun z=>need (isPtr a) (Ag (Ac z [] (.t (Ao a 3)) 0) (fun (z6:TV)=>need (isSl z6) (need (isPtr d) (need (isPtr d) (Ag (Ac z [] (.t (Ao d 12)) 0) (fun (x26:TV)=>Af (.int .i64) x26 (fun (n19:Int)=>BId ((lenS z6:Int)<n19) (Ag ((Aj z [] (.t a) 0 5).map TV.agg) (fun (x27:TV)=>AW [.int .i64,.str,.str,.tv,.str] x27 (fun (j6:Int) (q8 h5:B8) (i8:TV) (g1:B8)=>CallT PR Al [d,.int .i64 n17,.int .i64 10] [.one .bool] z (fun (b10:Bool) r2=>(Aj r2 [] (.t a) 0 5=some [.int .i64 j6,.str q8,.str h5,i8,.str g1]/\need (List.all [.int .i64 j6,.str q8,.str h5,i8,.str g1] Ap) (K j6 q8 h5 i8 g1 b10 r2)))))) (Ag ((Aj z [] (.t a) 0 5).map TV.agg) (fun (x28:TV)=>AW [.int .i64,.str,.str,.tv,.str] x28 (fun (w5:Int) (y9 s41:B8) (u3:TV) (y3:B8)=>need (List.all [.int .i64 w5,.str y9,.str s41,u3,.str y3] Ap) (K w5 y9 s41 u3 y3 true z)))))))))))))))))) (need (isPtr a) (Ag (Ac q [] (.t (Ao a 3)) 0) (fun (v25:TV)=>need (isSl v25) (need (isPtr d) (need (isPtr d) (Ag (Ac q [] (.t (Ao d 12)) 0) (fun (x30:TV)=>Af (.int .i64) x30 (fun (n22:Int)=>BId ((lenS v25:Int)<n22) (Ag ((Aj q [] (.t a) 0 5).map TV.agg) (fun (x31:TV)=>AW [.int .i64,.str,.str,.tv,.str] x31 (fun (f5:Int) (p1 f4:B8) (j0:TV) (m7:B8)=>CallT PR Al [d,.int .i64 n17,.int .i64 10] [.one .bool] q (fun (b11:Bool) k4=>(Aj k4 [] (.t a) 0 5=some [.int .i64 f5,.str p1,.str f4,j0,.str m7]/\need (List.all [.int .i64 f5,.str p1,.str f4,j0,.str m7] Ap) (K f5 p1 f4 j0 m7 b11 k4)))))) (Ag ((Aj q [] (.t a) 0 5).map TV.agg) (fun (x32:TV)=>AW [.int .i64,.str,.str,.tv,.str] x32 (fun (r8:Int) (w6 r5:B8) (u9:TV) (s48:B8)=>need (List.all [.int .i64 r8,.str w6,.str r5,u9,.str s48] Ap) (K r8 w6 r5 u9 s48 true q))))))))))))))))))) ((I1 d g l a a7/\M1 d g l a a7<M1 d g l a w))))))))))))))))))) (∃(I2:TV->Int->Bool->TV->St->Prop) (M2:TV->Int->Bool->TV->St->Nat),(I2 ((.box p 0)) number b1 ((.box st.nb 0)) st1)/\∀f i k c u,I2 f i k c u->(BId ((0:Int)<i) (need (isPtr c) (Ag (Ac u [] (.t (Ao c 3)) 0) (fun (t8:TV)=>need (isSl t8) (need (isPtr f) (need (isPtr f) (Ag (Ac u [] (.t (Ao f 12)) 0) (fun (x34:TV)=>Af (.int .i64) x34 (fun (n25:Int)=>BId (n25<=(lenS t8:Int)) (Ag ((Aj u [] (.t c) 0 5).map TV.agg) (fun (x35:TV)=>AW [.int .i64,.str,.str,.tv,.str] x35 (fun (j1:Int) (l6 m6:B8) (g3:TV) (g9:B8)=>need (isPtr f) (need (isPtr f) (Ag (Ac u [] (.t (Ao f 10)) 0) (fun (x36:TV)=>Af (.int .i64) x36 (fun (n27:Int)=>CallT PR Al [f,.int .i64 n27,.int .i64 10] [.one .bool] u (fun (b12:Bool) g6=>(Aj g6 [] (.t c) 0 5=some [.int .i64 j1,.str l6,.str m6,g3,.str g9]/\need (List.all [.int .i64 j1,.str l6,.str m6,g3,.str g9] Ap) (K j1 l6 m6 g3 g9 b12 g6)))))))))) (CallT PR AO [f,.bool k] [.agg [.int .i64,.str,.str,.tv,.str],.one .bool] u (fun (l7:Int) (m8 m3:B8) (c3:TV) (i6:B8) (b13:Bool) c1=>need (List.all [.int .i64 l7,.str m8,.str m3,c3,.str i6] Ap) (BIf (!b13) (Ag ((Aj c1 [] (.t c) 0 5).map TV.agg) (fun (x37:TV)=>AW [.int .i64,.str,.str,.tv,.str] x37 (fun (w0:Int) (w9 s56:B8) (r4:TV) (t4:B8)=>need (List.all [.int .i64 w0,.str w9,.str s56,r4,.str t4] Ap) (K w0 w9 s56 r4 t4 false c1)))) (need (isPtr c) (Ag (Ac c1 [] (.t (Ao c 3)) 0) (fun (e7:TV)=>need (isSl e7) (need (isPtr c) (need (List.all [.int .i64 l7,.str m8,.str m3,c3,.str i6] Ap) ((((lenS e7:Int)=(lenS e7:Int))/\AU 79 5 80 e7 1 [.int .i64 l7,.str m8,.str m3,c3,.str i6] c1 (fun (v33:TV) st22=>stB st22 (Ao c 3) [v33] (fun a9=>need (isSl c3) (BId ((lenS c3:Int)=(1:Int)) (need (isPtr f) (need (isPtr f) (Ag (Ac a9 [] (.t (Ao f 10)) 0) (fun (x39:TV)=>Af (.int .i64) x39 (fun (n30:Int)=>CallT PR AI [f,c] [.one .bool] a9 (fun (b14:Bool) s=>BIf (!b14) (Ag ((Aj s [] (.t c) 0 5).map TV.agg) (fun (x40:TV)=>AW [.int .i64,.str,.str,.tv,.str] x40 (fun (y7:Int) (s58 z3:B8) (v34:TV) (s60:B8)=>need (List.all [.int .i64 y7,.str s58,.str z3,v34,.str s60] Ap) (K y7 s58 z3 v34 s60 false s)))) (BId (i=0) (need (isPtr c) (Ag (Ac s [] (.t (Ao c 3)) 0) (fun (v35:TV)=>need (isSl v35) (need (isPtr f) (need (isPtr f) (stB s (Ao f 12) [(.int .i64 (lenS v35:Int))] (fun a1=>need (isPtr c) (Ag (Ac a1 [] (.t (Ao c 3)) 0) (fun (v36:TV)=>need (isSl v36) (need (isPtr f) (need (isPtr f) (Ag (Ac a1 [] (.t (Ao f 12)) 0) (fun (x43:TV)=>Af (.int .i64) x43 (fun (n32:Int)=>BId ((lenS v36:Int)<n32) (Ag ((Aj a1 [] (.t c) 0 5).map TV.agg) (fun (x44:TV)=>AW [.int .i64,.str,.str,.tv,.str] x44 (fun (o0:Int) (p4 o3:B8) (r0:TV) (i7:B8)=>CallT PR Al [f,.int .i64 n30,.int .i64 10] [.one .bool] a1 (fun (b15:Bool) m4=>(Aj m4 [] (.t c) 0 5=some [.int .i64 o0,.str p4,.str o3,r0,.str i7]/\need (List.all [.int .i64 o0,.str p4,.str o3,r0,.str i7] Ap) (K o0 p4 o3 r0 i7 b15 m4)))))) (Ag ((Aj a1 [] (.t c) 0 5).map TV.agg) (fun (x45:TV)=>AW [.int .i64,.str,.str,.tv,.str] x45 (fun (n34:Int) (s64 s65:B8) (y1:TV) (s66:B8)=>need (List.all [.int .i64 n34,.str s64,.str s65,y1,.str s66] Ap) (K n34 s64 s65 y1 s66 true a1)))))))))))))))))) (need (isPtr c) (Ag (Ac s [] (.t (Ao c 3)) 0) (fun (v39:TV)=>need (isSl v39) (need (isPtr f) (need (isPtr f) (Ag (Ac s [] (.t (Ao f 12)) 0) (fun (x47:TV)=>Af (.int .i64) x47 (fun (n35:Int)=>BId ((lenS v39:Int)<n35) (Ag ((Aj s [] (.t c) 0 5).map TV.agg) (fun (x48:TV)=>AW [.int .i64,.str,.str,.tv,.str] x48 (fun (j8:Int) (h7 h8:B8) (q6:TV) (l0:B8)=>CallT PR Al [f,.int .i64 n30,.int .i64 10] [.one .bool] s (fun (b16:Bool) j3=>(Aj j3 [] (.t c) 0 5=some [.int .i64 j8,.str h7,.str h8,q6,.str l0]/\need (List.all [.int .i64 j8,.str h7,.str h8,q6,.str l0] Ap) (K j8 h7 h8 q6 l0 b16 j3)))))) (Ag ((Aj s [] (.t c) 0 5).map TV.agg) (fun (x49:TV)=>AW [.int .i64,.str,.str,.tv,.str] x49 (fun (n37:Int) (z4 s71:B8) (v41:TV) (w3:B8)=>need (List.all [.int .i64 n37,.str z4,.str s71,v41,.str w3] Ap) (K n37 z4 s71 v41 w3 true s))))))))))))))))))) ((I2 f i k c a9/\M2 f i k c a9<M2 f i k c u))))))))))))))))))))))) (CallT PR AO [f,.bool k] [.agg [.int .i64,.str,.str,.tv,.str],.one .bool] u (fun (o9:Int) (m9 j5:B8) (c6:TV) (p9:B8) (b17:Bool) a6=>need (List.all [.int .i64 o9,.str m9,.str j5,c6,.str p9] Ap) (BIf (!b17) (Ag ((Aj a6 [] (.t c) 0 5).map TV.agg) (fun (x50:TV)=>AW [.int .i64,.str,.str,.tv,.str] x50 (fun (n39:Int) (u5 s77:B8) (v43:TV) (y2:B8)=>need (List.all [.int .i64 n39,.str u5,.str s77,v43,.str y2] Ap) (K n39 u5 s77 v43 y2 false a6)))) (need (isPtr c) (Ag (Ac a6 [] (.t (Ao c 3)) 0) (fun (f1:TV)=>need (isSl f1) (need (isPtr c) (need (List.all [.int .i64 o9,.str m9,.str j5,c6,.str p9] Ap) ((((lenS f1:Int)=(lenS f1:Int))/\AU 79 5 80 f1 1 [.int .i64 o9,.str m9,.str j5,c6,.str p9] a6 (fun (v45:TV) st29=>stB st29 (Ao c 3) [v45] (fun c2=>need (isSl c6) (BId ((lenS c6:Int)=(1:Int)) (need (isPtr f) (need (isPtr f) (Ag (Ac c2 [] (.t (Ao f 10)) 0) (fun (x52:TV)=>Af (.int .i64) x52 (fun (t1:Int)=>CallT PR AI [f,c] [.one .bool] c2 (fun (b18:Bool) v=>BIf (!b18) (Ag ((Aj v [] (.t c) 0 5).map TV.agg) (fun (x53:TV)=>AW [.int .i64,.str,.str,.tv,.str] x53 (fun (n41:Int) (s79 u7:B8) (s0:TV) (s81:B8)=>need (List.all [.int .i64 n41,.str s79,.str u7,s0,.str s81] Ap) (K n41 s79 u7 s0 s81 false v)))) (BId (i=0) (need (isPtr c) (Ag (Ac v [] (.t (Ao c 3)) 0) (fun (t6:TV)=>need (isSl t6) (need (isPtr f) (need (isPtr f) (stB v (Ao f 12) [(.int .i64 (lenS t6:Int))] (fun y=>need (isPtr c) (Ag (Ac y [] (.t (Ao c 3)) 0) (fun (u8:TV)=>need (isSl u8) (need (isPtr f) (need (isPtr f) (Ag (Ac y [] (.t (Ao f 12)) 0) (fun (x56:TV)=>Af (.int .i64) x56 (fun (n42:Int)=>BId ((lenS u8:Int)<n42) (Ag ((Aj y [] (.t c) 0 5).map TV.agg) (fun (x57:TV)=>AW [.int .i64,.str,.str,.tv,.str] x57 (fun (q5:Int) (h9 o7:B8) (m0:TV) (k3:B8)=>CallT PR Al [f,.int .i64 t1,.int .i64 10] [.one .bool] y (fun (b19:Bool) l8=>(Aj l8 [] (.t c) 0 5=some [.int .i64 q5,.str h9,.str o7,m0,.str k3]/\need (List.all [.int .i64 q5,.str h9,.str o7,m0,.str k3] Ap) (K q5 h9 o7 m0 k3 b19 l8)))))) (Ag ((Aj y [] (.t c) 0 5).map TV.agg) (fun (x58:TV)=>AW [.int .i64,.str,.str,.tv,.str] x58 (fun (n44:Int) (s85 r9:B8) (r7:TV) (s87:B8)=>need (List.all [.int .i64 n44,.str s85,.str r9,r7,.str s87] Ap) (K n44 s85 r9 r7 s87 true y)))))))))))))))))) (need (isPtr c) (Ag (Ac v [] (.t (Ao c 3)) 0) (fun (v51:TV)=>need (isSl v51) (need (isPtr f) (need (isPtr f) (Ag (Ac v [] (.t (Ao f 12)) 0) (fun (x60:TV)=>Af (.int .i64) x60 (fun (n45:Int)=>BId ((lenS v51:Int)<n45) (Ag ((Aj v [] (.t c) 0 5).map TV.agg) (fun (x61:TV)=>AW [.int .i64,.str,.str,.tv,.str] x61 (fun (m2:Int) (j7 j4:B8) (q0:TV) (p8:B8)=>CallT PR Al [f,.int .i64 t1,.int .i64 10] [.one .bool] v (fun (b20:Bool) q3=>(Aj q3 [] (.t c) 0 5=some [.int .i64 m2,.str j7,.str j4,q0,.str p8]/\need (List.all [.int .i64 m2,.str j7,.str j4,q0,.str p8] Ap) (K m2 j7 j4 q0 p8 b20 q3)))))) (Ag ((Aj v [] (.t c) 0 5).map TV.agg) (fun (x62:TV)=>AW [.int .i64,.str,.str,.tv,.str] x62 (fun (w7:Int) (s91 t7:B8) (v53:TV) (w4:B8)=>need (List.all [.int .i64 w7,.str s91,.str t7,v53,.str w4] Ap) (K w7 s91 t7 v53 w4 true v))))))))))))))))))) ((I2 f i k c c2/\M2 f i k c c2<M2 f i k c u))))))))))))))))))))) (stB (st.push (.cells [.int .i64 0,(.str []),(.str []),.nilSlice,(.str [])]) (some 79)) (.box st.nb 0) [.int .i64 8,(.str []),(.str []),.nilSlice,(.str [])] (fun st35=>CallT PR Bd [(.box p 0),.int .i64 2] [.one .bool] st35 (fun (b21:Bool) d1=>BIf (!b21) (Ag ((Aj d1 [] (.t (.box st.nb 0)) 0 5).map TV.agg) (fun (x63:TV)=>AW [.int .i64,.str,.str,.tv,.str] x63 (fun (n48:Int) (s94 u0:B8) (v54:TV) (s96:B8)=>need (List.all [.int .i64 n48,.str s94,.str u0,v54,.str s96] Ap) (K n48 s94 u0 v54 s96 false d1)))) (∃(I3:TV->Int->Bool->TV->St->Prop) (M3:TV->Int->Bool->TV->St->Nat),(I3 ((.box p 0)) number false ((.box st.nb 0)) d1)/\∀e j m b r,I3 e j m b r->(BId ((0:Int)<j) (need (isPtr b) (Ag (Ac r [] (.t (Ao b 3)) 0) (fun (v55:TV)=>need (isSl v55) (need (isPtr e) (need (isPtr e) (Ag (Ac r [] (.t (Ao e 12)) 0) (fun (x65:TV)=>Af (.int .i64) x65 (fun (n49:Int)=>BId (n49<=(lenS v55:Int)) (Ag ((Aj r [] (.t b) 0 5).map TV.agg) (fun (x66:TV)=>AW [.int .i64,.str,.str,.tv,.str] x66 (fun (h2:Int) (g8 f6:B8) (q7:TV) (k7:B8)=>need (isPtr e) (need (isPtr e) (Ag (Ac r [] (.t (Ao e 10)) 0) (fun (x67:TV)=>Af (.int .i64) x67 (fun (n51:Int)=>CallT PR Al [e,.int .i64 n51,.int .i64 10] [.one .bool] r (fun (b22:Bool) q9=>(Aj q9 [] (.t b) 0 5=some [.int .i64 h2,.str g8,.str f6,q7,.str k7]/\need (List.all [.int .i64 h2,.str g8,.str f6,q7,.str k7] Ap) (K h2 g8 f6 q7 k7 b22 q9)))))))))) (CallT PR AO [e,.bool m] [.agg [.int .i64,.str,.str,.tv,.str],.one .bool] r (fun (p5:Int) (d3 e2:B8) (c4:TV) (d7:B8) (b23:Bool) a8=>need (List.all [.int .i64 p5,.str d3,.str e2,c4,.str d7] Ap) (BIf (!b23) (Ag ((Aj a8 [] (.t b) 0 5).map TV.agg) (fun (x68:TV)=>AW [.int .i64,.str,.str,.tv,.str] x68 (fun (z2:Int) (i9 o1:B8) (v58:TV) (g5:B8)=>need (List.all [.int .i64 z2,.str i9,.str o1,v58,.str g5] Ap) (K z2 i9 o1 v58 g5 false a8)))) (need (isPtr b) (Ag (Ac a8 [] (.t (Ao b 3)) 0) (fun (e9:TV)=>need (isSl e9) (need (isPtr b) (need (List.all [.int .i64 p5,.str d3,.str e2,c4,.str d7] Ap) ((((lenS e9:Int)=(lenS e9:Int))/\AU 79 5 80 e9 1 [.int .i64 p5,.str d3,.str e2,c4,.str d7] a8 (fun (v60:TV) st40=>stB st40 (Ao b 3) [v60] (fun b0=>need (isSl c4) (BId ((lenS c4:Int)=(1:Int)) (need (isPtr e) (need (isPtr e) (Ag (Ac b0 [] (.t (Ao e 10)) 0) (fun (x70:TV)=>Af (.int .i64) x70 (fun (y5:Int)=>CallT PR AI [e,b] [.one .bool] b0 (fun (b24:Bool) n=>BIf (!b24) (Ag ((Aj n [] (.t b) 0 5).map TV.agg) (fun (x71:TV)=>AW [.int .i64,.str,.str,.tv,.str] x71 (fun (t0:Int) (g7 r3:B8) (v61:TV) (k8:B8)=>need (List.all [.int .i64 t0,.str g7,.str r3,v61,.str k8] Ap) (K t0 g7 r3 v61 k8 false n)))) (BId (j=0) (need (isPtr b) (Ag (Ac n [] (.t (Ao b 3)) 0) (fun (z9:TV)=>need (isSl z9) (need (isPtr e) (need (isPtr e) (stB n (Ao e 12) [(.int .i64 (lenS z9:Int))] (fun a2=>need (isPtr b) (Ag (Ac a2 [] (.t (Ao b 3)) 0) (fun (v63:TV)=>need (isSl v63) (need (isPtr e) (need (isPtr e) (Ag (Ac a2 [] (.t (Ao e 12)) 0) (fun (x74:TV)=>Af (.int .i64) x74 (fun (n56:Int)=>BId ((lenS v63:Int)<n56) (Ag ((Aj a2 [] (.t b) 0 5).map TV.agg) (fun (x75:TV)=>AW [.int .i64,.str,.str,.tv,.str] x75 (fun (o8:Int) (e0 e5:B8) (h4:TV) (d0:B8)=>CallT PR Al [e,.int .i64 y5,.int .i64 10] [.one .bool] a2 (fun (b25:Bool) q2=>(Aj q2 [] (.t b) 0 5=some [.int .i64 o8,.str e0,.str e5,h4,.str d0]/\need (List.all [.int .i64 o8,.str e0,.str e5,h4,.str d0] Ap) (K o8 e0 e5 h4 d0 b25 q2)))))) (Ag ((Aj a2 [] (.t b) 0 5).map TV.agg) (fun (x76:TV)=>AW [.int .i64,.str,.str,.tv,.str] x76 (fun (n58:Int) (r1 g4:B8) (u6:TV) (p3:B8)=>need (List.all [.int .i64 n58,.str r1,.str g4,u6,.str p3] Ap) (K n58 r1 g4 u6 p3 true a2)))))))))))))))))) (need (isPtr b) (Ag (Ac n [] (.t (Ao b 3)) 0) (fun (v66:TV)=>need (isSl v66) (need (isPtr e) (need (isPtr e) (Ag (Ac n [] (.t (Ao e 12)) 0) (fun (x78:TV)=>Af (.int .i64) x78 (fun (n59:Int)=>BId ((lenS v66:Int)<n59) (Ag ((Aj n [] (.t b) 0 5).map TV.agg) (fun (x79:TV)=>AW [.int .i64,.str,.str,.tv,.str] x79 (fun (l1:Int) (d6 d9:B8) (l9:TV) (c8:B8)=>CallT PR Al [e,.int .i64 y5,.int .i64 10] [.one .bool] n (fun (b26:Bool) q4=>(Aj q4 [] (.t b) 0 5=some [.int .i64 l1,.str d6,.str d9,l9,.str c8]/\need (List.all [.int .i64 l1,.str d6,.str d9,l9,.str c8] Ap) (K l1 d6 d9 l9 c8 b26 q4)))))) (Ag ((Aj n [] (.t b) 0 5).map TV.agg) (fun (x80:TV)=>AW [.int .i64,.str,.str,.tv,.str] x80 (fun (t2:Int) (k1 p2:B8) (y0:TV) (i4:B8)=>need (List.all [.int .i64 t2,.str k1,.str p2,y0,.str i4] Ap) (K t2 k1 p2 y0 i4 true n))))))))))))))))))) ((I3 e j m b b0/\M3 e j m b b0<M3 e j m b r))))))))))))))))))))))) (CallT PR AO [e,.bool m] [.agg [.int .i64,.str,.str,.tv,.str],.one .bool] r (fun (l4:Int) (d2 e1:B8) (c5:TV) (d8:B8) (b27:Bool) a4=>need (List.all [.int .i64 l4,.str d2,.str e1,c5,.str d8] Ap) (BIf (!b27) (Ag ((Aj a4 [] (.t b) 0 5).map TV.agg) (fun (x81:TV)=>AW [.int .i64,.str,.str,.tv,.str] x81 (fun (z7:Int) (m1 f9:B8) (v70:TV) (k9:B8)=>need (List.all [.int .i64 z7,.str m1,.str f9,v70,.str k9] Ap) (K z7 m1 f9 v70 k9 false a4)))) (need (isPtr b) (Ag (Ac a4 [] (.t (Ao b 3)) 0) (fun (f2:TV)=>need (isSl f2) (need (isPtr b) (need (List.all [.int .i64 l4,.str d2,.str e1,c5,.str d8] Ap) ((((lenS f2:Int)=(lenS f2:Int))/\AU 79 5 80 f2 1 [.int .i64 l4,.str d2,.str e1,c5,.str d8] a4 (fun (v72:TV) st47=>stB st47 (Ao b 3) [v72] (fun a5=>need (isSl c5) (BId ((lenS c5:Int)=(1:Int)) (need (isPtr e) (need (isPtr e) (Ag (Ac a5 [] (.t (Ao e 10)) 0) (fun (x83:TV)=>Af (.int .i64) x83 (fun (y6:Int)=>CallT PR AI [e,b] [.one .bool] a5 (fun (b28:Bool) o=>BIf (!b28) (Ag ((Aj o [] (.t b) 0 5).map TV.agg) (fun (x84:TV)=>AW [.int .i64,.str,.str,.tv,.str] x84 (fun (z1:Int) (j2 k2:B8) (v73:TV) (l2:B8)=>need (List.all [.int .i64 z1,.str j2,.str k2,v73,.str l2] Ap) (K z1 j2 k2 v73 l2 false o)))) (BId (j=0) (need (isPtr b) (Ag (Ac o [] (.t (Ao b 3)) 0) (fun (v74:TV)=>need (isSl v74) (need (isPtr e) (need (isPtr e) (stB o (Ao e 12) [(.int .i64 (lenS v74:Int))] (fun a0=>need (isPtr b) (Ag (Ac a0 [] (.t (Ao b 3)) 0) (fun (u4:TV)=>need (isSl u4) (need (isPtr e) (need (isPtr e) (Ag (Ac a0 [] (.t (Ao e 12)) 0) (fun (x87:TV)=>Af (.int .i64) x87 (fun (n66:Int)=>BId ((lenS u4:Int)<n66) (Ag ((Aj a0 [] (.t b) 0 5).map TV.agg) (fun (x88:TV)=>AW [.int .i64,.str,.str,.tv,.str] x88 (fun (p0:Int) (d5 e6:B8) (f7:TV) (e4:B8)=>CallT PR Al [e,.int .i64 y6,.int .i64 10] [.one .bool] a0 (fun (b29:Bool) i1=>(Aj i1 [] (.t b) 0 5=some [.int .i64 p0,.str d5,.str e6,f7,.str e4]/\need (List.all [.int .i64 p0,.str d5,.str e6,f7,.str e4] Ap) (K p0 d5 e6 f7 e4 b29 i1)))))) (Ag ((Aj a0 [] (.t b) 0 5).map TV.agg) (fun (x89:TV)=>AW [.int .i64,.str,.str,.tv,.str] x89 (fun (n68:Int) (i2 h3:B8) (t5:TV) (h1:B8)=>need (List.all [.int .i64 n68,.str i2,.str h3,t5,.str h1] Ap) (K n68 i2 h3 t5 h1 true a0)))))))))))))))))) (need (isPtr b) (Ag (Ac o [] (.t (Ao b 3)) 0) (fun (v78:TV)=>need (isSl v78) (need (isPtr e) (need (isPtr e) (Ag (Ac o [] (.t (Ao e 12)) 0) (fun (x91:TV)=>Af (.int .i64) x91 (fun (n69:Int)=>BId ((lenS v78:Int)<n69) (Ag ((Aj o [] (.t b) 0 5).map TV.agg) (fun (x92:TV)=>AW [.int .i64,.str,.str,.tv,.str] x92 (fun (o2:Int) (c9 d4:B8) (i5:TV) (e3:B8)=>CallT PR Al [e,.int .i64 y6,.int .i64 10] [.one .bool] o (fun (b30:Bool) o5=>(Aj o5 [] (.t b) 0 5=some [.int .i64 o2,.str c9,.str d4,i5,.str e3]/\need (List.all [.int .i64 o2,.str c9,.str d4,i5,.str e3] Ap) (K o2 c9 d4 i5 e3 b30 o5)))))) (Ag ((Aj o [] (.t b) 0 5).map TV.agg) (fun (x93:TV)=>AW [.int .i64,.str,.str,.tv,.str] x93 (fun (w8:Int) (l3 k5:B8) (x3:TV) (h0:B8)=>need (List.all [.int .i64 w8,.str l3,.str k5,x3,.str h0] Ap) (K w8 l3 k5 x3 h0 true o))))))))))))))))))) ((I3 e j m b a5/\M3 e j m b a5<M3 e j m b r))))))))))))))))))))):CallT PR Cq [(.box p 0),.int .i64 number] [.agg [.int .i64,.str,.str,.tv,.str],.one .bool] st K:=
 Ae (cfg:=⟨[4,8],[],[41,46,93]⟩) (h:=(.seq .none (.seq .none (.seq .none (.seq .none (.seq (.block (.loop ⟨[(0,.tv),(1,.int .i64),(6,.bool),(7,.tv)],[(4,0,0)],[(0,5)],[]⟩ .none)) .none)))))) mixed (fun _ _=>Tryz.call119 _ _) Tryz.func119 (by kernel_rfl) (by kernel_rfl) h
theorem O0 (n_0:Int) (f:B8) (i:B8) (a:TV) (g:B8) (depth:Int) (seen:Nat) (st:St) (K:Int->St->Prop) (h:BId ((192:Int)<depth) (K 9 st) (Ag (Ac st [] (.t (.box seen 0)) 0) (fun (x1:TV)=>Af (.int .i64) x1 (fun (n1:Int)=>stB st (.box seen 0) [(.int .i64 (i64.wrap (n1+(1:Int))))] (fun m=>Ag (Ac m [] (.t (.box seen 0)) 0) (fun (x2:TV)=>Af (.int .i64) x2 (fun (n2:Int)=>BId ((524288:Int)<n2) (K 10 m) (BId (n_0<1) (K 6 m) (BId ((12:Int)<=n_0) (K 6 m) (CallT PR HQ [.int .i64 n_0] [.one .bool] m (fun (b1:Bool) o=>BIf b1 (need (isSl a) (BId ((0:Int)<(lenS a:Int)) (K 1 o) (BId (g≠([]:B8)) (K 1 o) (need (isSl a) (∃(I1:Int->Int->TV->TV->Int->St->Prop) (M1:Int->Int->TV->TV->Int->St->Nat),(I1 0 depth ((.box seen 0)) a ((lenS a:Int)) o)/\∀f b e j i n,I1 f b e j i n->(BId (f<i) (((0<=f/\f<(lenZ 5 j:Int))/\Ag ((Aj n [] (.t (ixT 5 j f.toNat)) 0 5).map TV.agg) (fun (x3:TV)=>AW [.int .i64,.str,.str,.tv,.str] x3 (fun (n3:Int) (s1 s2:B8) (v1:TV) (s3:B8)=>need (List.all [.int .i64 n3,.str s1,.str s2,v1,.str s3] Ap) (CallT PR DM [(.agg [.int .i64 n3,.str s1,.str s2,v1,.str s3]),(.int .i64 (i64.wrap (b+(1:Int)))),e] [.one (.int .i64)] n (fun (n4:Int) q=>BId (n4≠0) (K n4 q) ((I1 ((i64.wrap (f+(1:Int)))) b e j i q/\M1 ((i64.wrap (f+(1:Int)))) b e j i q<M1 f b e j i n)))))))) (K 0 n))))))) (need (isSl a) (∃(I2:Int->Int->TV->TV->Int->St->Prop) (M2:Int->Int->TV->TV->Int->St->Nat),(I2 0 depth ((.box seen 0)) a ((lenS a:Int)) o)/\∀a c d k g l,I2 a c d k g l->(BId (a<g) (((0<=a/\a<(lenZ 5 k:Int))/\Ag ((Aj l [] (.t (ixT 5 k a.toNat)) 0 5).map TV.agg) (fun (x4:TV)=>AW [.int .i64,.str,.str,.tv,.str] x4 (fun (n5:Int) (s4 s5:B8) (v2:TV) (s6:B8)=>need (List.all [.int .i64 n5,.str s4,.str s5,v2,.str s6] Ap) (CallT PR DM [(.agg [.int .i64 n5,.str s4,.str s5,v2,.str s6]),(.int .i64 (i64.wrap (c+(1:Int)))),d] [.one (.int .i64)] l (fun (n6:Int) p=>BId (n6≠0) (K n6 p) ((I2 ((i64.wrap (a+(1:Int)))) c d k g p/\M2 ((i64.wrap (a+(1:Int)))) c d k g p<M2 a c d k g l)))))))) (K 0 l))))))))))))))):CallT PR DM [(.agg [.int .i64 n_0,.str f,.str i,a,.str g]),.int .i64 depth,(.box seen 0)] [.one (.int .i64)] st K:=
 Ae (cfg:=⟨[3,8],[],[]⟩) (h:=(.seq .none (.seq .none (.seq .none (.seq .none (.seq .none (.seq (.seq .none (.block (.loop ⟨[(46,.int .i64),(1,.int .i64),(2,.tv),(44,.tv),(45,.int .i64)],[],[],[]⟩ .none))) .none))))))) mixed (fun _ _=>Tryz.call120 _ _) Tryz.func120 (by kernel_rfl) (by kernel_rfl) h
theorem Rw (n_0:Int) (a:B8) (c:B8) (n_3:TV) (n_4:B8) (st:St) (K:Int->St->Prop) (h:need (isSl n_3) (∃(I1:Int->Int->TV->Int->St->Prop) (M1:Int->Int->TV->Int->St->Nat),(I1 ((i64.wrap ((i64.wrap ((a.length:Int)+(c.length:Int)))+(n_4.length:Int)))) 0 n_3 ((lenS n_3:Int)) st)/\∀b a d c e,I1 b a d c e->(BId (a<c) (((0<=a/\a<(lenZ 5 d:Int))/\Ag ((Aj e [] (.t (ixT 5 d a.toNat)) 0 5).map TV.agg) (fun (x1:TV)=>AW [.int .i64,.str,.str,.tv,.str] x1 (fun (n1:Int) (s1 s2:B8) (v1:TV) (s3:B8)=>need (List.all [.int .i64 n1,.str s1,.str s2,v1,.str s3] Ap) (CallT PR Gv [(.agg [.int .i64 n1,.str s1,.str s2,v1,.str s3])] [.one (.int .i64)] e (fun (n2:Int) f=>(I1 ((i64.wrap (b+n2))) ((i64.wrap (a+(1:Int)))) d c f/\M1 ((i64.wrap (b+n2))) ((i64.wrap (a+(1:Int)))) d c f<M1 b a d c e))))))) (K b e)))):CallT PR Gv [(.agg [.int .i64 n_0,.str a,.str c,n_3,.str n_4])] [.one (.int .i64)] st K:=
 Ae (cfg:=⟨[1,5],[],[]⟩) (h:=(.seq .none (.seq .none (.seq (.seq .none (.block (.loop ⟨[(3,.int .i64),(20,.int .i64),(18,.tv),(19,.int .i64)],[],[],[]⟩ .none))) .none)))) mixed (fun _ _=>Tryz.call121 _ _) Tryz.func121 (by kernel_rfl) (by kernel_rfl) h
theorem OZ (b:Nat) (n_0:Int) (a:B8) (c:B8) (n_3:TV) (n_4:B8) (st:St) (K:St->Prop) (h:CallT PR AP [(.box b 0),.str a] [.one (.int .i64),.one .tv] st (fun (n1:Int) (v1:TV) j=>CallT PR AP [(.box b 0),.str c] [.one (.int .i64),.one .tv] j (fun (n2:Int) (v2:TV) k=>need (isSl n_3) (∃(I1:Int->TV->TV->Int->Int->B8->B8->TV->B8->St->Prop) (M1:Int->TV->TV->Int->Int->B8->B8->TV->B8->St->Nat),(I1 0 ((.box b 0)) n_3 ((lenS n_3:Int)) n_0 a c n_3 n_4 k)/\∀a e d c n3 s1 s2 v3 s3 f,I1 a e d c n3 s1 s2 v3 s3 f->(BId (a<c) (((0<=a/\a<(lenZ 5 d:Int))/\Ag ((Aj f [] (.t (ixT 5 d a.toNat)) 0 5).map TV.agg) (fun (x1:TV)=>AW [.int .i64,.str,.str,.tv,.str] x1 (fun (n4:Int) (s4 s5:B8) (v4:TV) (s6:B8)=>need (List.all [.int .i64 n4,.str s4,.str s5,v4,.str s6] Ap) (CallT PR EQ [e,(.agg [.int .i64 n4,.str s4,.str s5,v4,.str s6])] [] f (fun (g:St)=>(I1 ((i64.wrap (a+(1:Int)))) e d c n3 s1 s2 v3 s3 g/\M1 ((i64.wrap (a+(1:Int)))) e d c n3 s1 s2 v3 s3 g<M1 a e d c n3 s1 s2 v3 s3 f))))))) (CallT PR AP [e,.str s3] [.one (.int .i64),.one .tv] f (fun (n5:Int) (v5:TV) i=>K i))))))):CallT PR EQ [(.box b 0),(.agg [.int .i64 n_0,.str a,.str c,n_3,.str n_4])] [] st K:=
 Ae (cfg:=⟨[3,5],[],[]⟩) (h:=(.seq .none (.seq .none (.seq .none (.seq (.seq .none (.block (.loop ⟨[(17,.int .i64),(0,.tv),(15,.tv),(16,.int .i64)],[(3,0,0)],[(0,5)],[(0,0,.int .i64),(0,1,.str),(0,2,.str),(0,3,.tv),(0,4,.str)]⟩ .none))) .none))))) mixed (fun _ _=>Tryz.call122 _ _) Tryz.func122 (by kernel_rfl) (by kernel_rfl) h
theorem LD (b:Int) (st:St) (K:Bool->St->Prop) (h:CallT PR Fe [.int .u8 b] [.one .bool] st (fun (b1:Bool) a=>BIf b1 (K true a) (BId ((48:Int)<=b) (BId (b<=57) (K true a) (BId (b=43) (K true a) (BId (b=45) (K true a) (BId (b=46) (K true a) (K ((decide (b=58))) a))))) (BId (b=43) (K true a) (BId (b=45) (K true a) (BId (b=46) (K true a) (K ((decide (b=58))) a))))))):CallT PR BG [.int .u8 b] [.one .bool] st K:=
 Ae (cfg:=⟨[],[],[]⟩) (h:= .none) mixed (fun _ _=>Tryz.call128 _ _) Tryz.func128 (by kernel_rfl) (by kernel_rfl) h
theorem IN (c:Int) (st:St) (K:Bool->St->Prop) (h:CallT PR Ct [.int .u8 c] [.one .bool] st (fun (b1:Bool) b=>BIf (!b1) (CallT PR BN [.int .u8 c] [.one .bool] b (fun (b2:Bool) a=>BIf (!b2) (BId (c≠43) (BId (c≠45) (BId (c≠46) (K ((decide (c≠58))) a) (K false a)) (K false a)) (K false a)) (K false a))) (K false b))):CallT PR A5 [.int .u8 c] [.one .bool] st K:=
 Ae (cfg:=⟨[],[],[]⟩) (h:= .none) mixed (fun _ _=>Tryz.call129 _ _) Tryz.func129 (by kernel_rfl) (by kernel_rfl) h
theorem Hs (src:B8) (l_0:Int) (l_1:Int) (l_2:Int) (l_3:Int) (l_4:Int) (st:St) (K:Int->Int->St->Prop) (h:CallT PR CS [(.agg [.int .i64 l_0,.int .i64 l_1,.int .i64 l_2,.int .i64 l_3,.int .i64 l_4])] [.one .bool] st (fun (b1:Bool) a=>BIf (!b1) (K 0 1 a) (BId (l_2<(src.length:Int)) (K 0 10 a) (CallT PR DB [.str src] [.one (.int .i64)] a (fun (n1:Int) b=>BId (n1<(src.length:Int)) (K n1 5 b) (K 0 0 b)))))):CallT PR Em [.str src,(.agg [.int .i64 l_0,.int .i64 l_1,.int .i64 l_2,.int .i64 l_3,.int .i64 l_4])] [.one (.int .i64),.one (.int .i64)] st K:=
 Ae (cfg:=⟨[3],[],[]⟩) (h:= .none) mixed (fun _ _=>Tryz.call130 _ _) Tryz.func130 (by kernel_rfl) (by kernel_rfl) h
theorem Fs (x_0:B8) (x_1:Int) (x_2:Int) (x_3:Bool) (x_4:Bool) (x_5:Int) (x_6:Int) (x_7:Int) (x_8:Int) (x_9:Int) (x_10:Int) (x_11:Int) (x_12:Int) (x_13:Int) (depth:Int) (st:St) (K:B8->Int->Int->Bool->Bool->Int->Int->Int->Int->Int->Int->Int->Int->Int->St->Prop) (h:BId (x_5<depth) (CallT PR Ai [(.agg [.str x_0,.int .u8 x_1,.int .u8 x_2,.bool x_3,.bool x_4,.int .i64 x_5,.int .i64 x_6,.int .i64 x_7,.int .i64 x_8,.int .i64 x_9,.int .i64 x_10,.int .i64 x_11,.int .i64 x_12,.int .i64 x_13]),.int .i64 x_10,.int .i64 9] [.agg [.str,.int .u8,.int .u8,.bool,.bool,.int .i64,.int .i64,.int .i64,.int .i64,.int .i64,.int .i64,.int .i64,.int .i64,.int .i64]] st (fun (s1:B8) (n1 n2:Int) (b1 b2:Bool) (n3 n4 n5 n6 n7 n8 n9 d b:Int) g=>K s1 n1 n2 b1 b2 n3 n4 n5 n6 n7 n8 n9 d b g)) (BId (x_6<=x_11) (CallT PR Ai [(.agg [.str x_0,.int .u8 x_1,.int .u8 x_2,.bool x_3,.bool x_4,.int .i64 x_5,.int .i64 x_6,.int .i64 x_7,.int .i64 x_8,.int .i64 x_9,.int .i64 x_10,.int .i64 x_11,.int .i64 x_12,.int .i64 x_13]),.int .i64 x_10,.int .i64 10] [.agg [.str,.int .u8,.int .u8,.bool,.bool,.int .i64,.int .i64,.int .i64,.int .i64,.int .i64,.int .i64,.int .i64,.int .i64,.int .i64]] st (fun (s2:B8) (c n:Int) (b3 b4:Bool) (o i l m f p e j a:Int) k=>K s2 c n b3 b4 o i l m f p e j a k)) (K x_0 x_1 x_2 x_3 x_4 x_5 x_6 x_7 x_8 x_9 x_10 ((i64.wrap (x_11+(1:Int)))) x_12 x_13 st))):CallT PR AN [(.agg [.str x_0,.int .u8 x_1,.int .u8 x_2,.bool x_3,.bool x_4,.int .i64 x_5,.int .i64 x_6,.int .i64 x_7,.int .i64 x_8,.int .i64 x_9,.int .i64 x_10,.int .i64 x_11,.int .i64 x_12,.int .i64 x_13]),.int .i64 depth] [.agg [.str,.int .u8,.int .u8,.bool,.bool,.int .i64,.int .i64,.int .i64,.int .i64,.int .i64,.int .i64,.int .i64,.int .i64,.int .i64]] st K:=
 Ae (cfg:=⟨[2,4],[],[]⟩) (h:= .none) mixed (fun _ _=>Tryz.call131 _ _) Tryz.func131 (by kernel_rfl) (by kernel_rfl) h
theorem Hr (x_0:B8) (x_1:Int) (x_2:Int) (x_3:Bool) (x_4:Bool) (x_5:Int) (x_6:Int) (x_7:Int) (x_8:Int) (x_9:Int) (x_10:Int) (x_11:Int) (x_12:Int) (x_13:Int) (many:Int) (header:Bool) (st:St) (K:B8->Int->Int->Bool->Bool->Int->Int->Int->Int->Int->Int->Int->Int->Int->Int->B8->B8->TV->B8->Int->St->Prop) (h:∃(C1:Int->Bool->TV->B8->Int->Int->Bool->Bool->Int->Int->Int->Int->Int->Int->Int->Int->Int->Int->B8->B8->TV->B8->St->Prop),(BIf (!header) (CallT PR AN [(.agg [.str x_0,.int .u8 x_1,.int .u8 x_2,.bool x_3,.bool x_4,.int .i64 x_5,.int .i64 x_6,.int .i64 x_7,.int .i64 x_8,.int .i64 x_9,.int .i64 x_10,.int .i64 x_11,.int .i64 x_12,.int .i64 x_13]),.int .i64 2] [.agg [.str,.int .u8,.int .u8,.bool,.bool,.int .i64,.int .i64,.int .i64,.int .i64,.int .i64,.int .i64,.int .i64,.int .i64,.int .i64]] st (fun (s1:B8) (n1 n2:Int) (b1 b2:Bool) (n3 n4 n5 n6 n7 n8 n9 n10 n11:Int) st1=>C1 many header .nilSlice s1 n1 n2 b1 b2 n3 n4 n5 n6 n7 n8 n9 n10 n11 8 [] [] .nilSlice [] st1)) (C1 many header .nilSlice x_0 x_1 x_2 x_3 x_4 x_5 x_6 x_7 x_8 x_9 x_10 x_11 x_12 x_13 8 [] [] .nilSlice [] st))/\∀t4 o4 p7 s2 n12 n13 b3 b4 n14 n15 n16 n17 n18 n19 n20 n21 n22 n23 s3 s4 v1 s5 st2,C1 t4 o4 p7 s2 n12 n13 b3 b4 n14 n15 n16 n17 n18 n19 n20 n21 n22 n23 s3 s4 v1 s5 st2->(∃(I1:TV->Int->Int->Bool->B8->Int->Int->Bool->Bool->Int->Int->Int->Int->Int->Int->Int->Int->Int->Int->B8->B8->TV->B8->St->Prop) (M1:TV->Int->Int->Bool->B8->Int->Int->Bool->Bool->Int->Int->Int->Int->Int->Int->Int->Int->Int->Int->B8->B8->TV->B8->St->Nat),(I1 p7 0 t4 o4 s2 n12 n13 b3 b4 n14 n15 n16 n17 n18 n19 n20 n21 n22 n23 s3 s4 v1 s5 st2)/\∀w h2 v l s6 d1 e9 b5 b6 e5 e6 f6 d7 g7 b0 d4 g3 c9 c5 s7 s8 v2 s9 d3,I1 w h2 v l s6 d1 e9 b5 b6 e5 e6 f6 d7 g7 b0 d4 g3 c9 c5 s7 s8 v2 s9 d3->(BId (c9=0) (BId ((0:Int)<v) (BId (h2=v) (CallT PR Ai [(.agg [.str s6,.int .u8 d1,.int .u8 e9,.bool b5,.bool b6,.int .i64 e5,.int .i64 e6,.int .i64 f6,.int .i64 d7,.int .i64 g7,.int .i64 b0,.int .i64 d4,.int .i64 g3,.int .i64 c9]),.int .i64 b0,.int .i64 10] [.agg [.str,.int .u8,.int .u8,.bool,.bool,.int .i64,.int .i64,.int .i64,.int .i64,.int .i64,.int .i64,.int .i64,.int .i64,.int .i64]] d3 (fun (s10:B8) (n36 n37:Int) (b7 b8:Bool) (n38 n39 n40 n41 n42 n43 n44 n45 n46:Int) st4=>need (List.all [.int .i64 c5,.str s7,.str s8,v2,.str s9] Ap) (K s10 n36 n37 b7 b8 n38 n39 n40 n41 n42 n43 n44 n45 n46 c5 s7 s8 v2 s9 0 st4))) (∃(C2:Int->Bool->TV->Int->Int->B8->Int->Int->Bool->Bool->Int->Int->Int->Int->Int->Int->Int->Int->Int->Int->B8->B8->TV->B8->St->Prop),(BIf (!l) (CallT PR AN [(.agg [.str s6,.int .u8 d1,.int .u8 e9,.bool b5,.bool b6,.int .i64 e5,.int .i64 e6,.int .i64 f6,.int .i64 d7,.int .i64 g7,.int .i64 b0,.int .i64 d4,.int .i64 g3,.int .i64 c9]),.int .i64 3] [.agg [.str,.int .u8,.int .u8,.bool,.bool,.int .i64,.int .i64,.int .i64,.int .i64,.int .i64,.int .i64,.int .i64,.int .i64,.int .i64]] d3 (fun (s11:B8) (n47 n48:Int) (b9 b10:Bool) (n49 n50 n51 n52 n53 n54 n55 n56 n57:Int) st5=>C2 v l w h2 b0 s11 n47 n48 b9 b10 n49 n50 n51 n52 n53 n54 n55 n56 n57 c5 s7 s8 v2 s9 st5)) (C2 v l w h2 b0 s6 d1 e9 b5 b6 e5 e6 f6 d7 g7 b0 d4 g3 c9 c5 s7 s8 v2 s9 d3))/\∀c3 y c1 p9 a6 s12 n58 n59 b11 b12 n60 n61 n62 n63 n64 n65 n66 n67 n68 q1 q4 p8 v3 r1 st6,C2 c3 y c1 p9 a6 s12 n58 n59 b11 b12 n60 n61 n62 n63 n64 n65 n66 n67 n68 q1 q4 p8 v3 r1 st6->(CallT PR B1 [(.agg [.str s12,.int .u8 n58,.int .u8 n59,.bool b11,.bool b12,.int .i64 n60,.int .i64 n61,.int .i64 n62,.int .i64 n63,.int .i64 n64,.int .i64 n65,.int .i64 n66,.int .i64 n67,.int .i64 n68])] [.agg [.str,.int .u8,.int .u8,.bool,.bool,.int .i64,.int .i64,.int .i64,.int .i64,.int .i64,.int .i64,.int .i64,.int .i64,.int .i64],.one .str] st6 (fun (t7:B8) (r3 q3:Int) (q8 r5:Bool) (t6 u7 w2 w1 u2 u4 u9 t9 u6:Int) (r4:B8) st7=>CallT PR A3 [.str r4,(.agg [.int .u8 r3,.int .u8 q3,.bool q8,.bool r5])] [.one .str] st7 (fun (l5:B8) u5=>∃(C3:Int->Bool->TV->Int->Int->B8->B8->B8->Int->Int->Bool->Bool->Int->Int->Int->Int->Int->Int->Int->Int->Int->Int->B8->B8->TV->B8->St->Prop),(BIf y (BId ((1024:Int)<(l5.length:Int)) (CallT PR Ai [(.agg [.str t7,.int .u8 r3,.int .u8 q3,.bool q8,.bool r5,.int .i64 t6,.int .i64 u7,.int .i64 w2,.int .i64 w1,.int .i64 u2,.int .i64 u4,.int .i64 u9,.int .i64 t9,.int .i64 u6]),.int .i64 a6,.int .i64 10] [.agg [.str,.int .u8,.int .u8,.bool,.bool,.int .i64,.int .i64,.int .i64,.int .i64,.int .i64,.int .i64,.int .i64,.int .i64,.int .i64]] u5 (fun (s19:B8) (n81 n82:Int) (b15 b16:Bool) (n83 n84 n85 n86 n87 n88 n89 n90 n91:Int) st9=>C3 c3 y c1 p9 a6 r4 l5 s19 n81 n82 b15 b16 n83 n84 n85 n86 n87 n88 n89 n90 n91 q1 q4 p8 v3 r1 st9)) (BId ((65536:Int)<(l5.length:Int)) (CallT PR Ai [(.agg [.str t7,.int .u8 r3,.int .u8 q3,.bool q8,.bool r5,.int .i64 t6,.int .i64 u7,.int .i64 w2,.int .i64 w1,.int .i64 u2,.int .i64 u4,.int .i64 u9,.int .i64 t9,.int .i64 u6]),.int .i64 a6,.int .i64 10] [.agg [.str,.int .u8,.int .u8,.bool,.bool,.int .i64,.int .i64,.int .i64,.int .i64,.int .i64,.int .i64,.int .i64,.int .i64,.int .i64]] u5 (fun (s20:B8) (n92 n93:Int) (b17 b18:Bool) (n94 n95 n96 n97 n98 n99 n100 n101 n102:Int) st10=>C3 c3 y c1 p9 a6 r4 l5 s20 n92 n93 b17 b18 n94 n95 n96 n97 n98 n99 n100 n101 n102 q1 q4 p8 v3 r1 st10)) (C3 c3 y c1 p9 a6 r4 l5 t7 r3 q3 q8 r5 t6 u7 w2 w1 u2 u4 u9 t9 u6 q1 q4 p8 v3 r1 u5))) (BId ((65536:Int)<(l5.length:Int)) (CallT PR Ai [(.agg [.str t7,.int .u8 r3,.int .u8 q3,.bool q8,.bool r5,.int .i64 t6,.int .i64 u7,.int .i64 w2,.int .i64 w1,.int .i64 u2,.int .i64 u4,.int .i64 u9,.int .i64 t9,.int .i64 u6]),.int .i64 a6,.int .i64 10] [.agg [.str,.int .u8,.int .u8,.bool,.bool,.int .i64,.int .i64,.int .i64,.int .i64,.int .i64,.int .i64,.int .i64,.int .i64,.int .i64]] u5 (fun (s21:B8) (n103 n104:Int) (b19 b20:Bool) (n105 n106 n107 n108 n109 n110 n111 n112 n113:Int) st11=>C3 c3 y c1 p9 a6 r4 l5 s21 n103 n104 b19 b20 n105 n106 n107 n108 n109 n110 n111 n112 n113 q1 q4 p8 v3 r1 st11)) (C3 c3 y c1 p9 a6 r4 l5 t7 r3 q3 q8 r5 t6 u7 w2 w1 u2 u4 u9 t9 u6 q1 q4 p8 v3 r1 u5)))/\∀t3 m8 q2 k_3 w3 s_1 t_1 s22 n114 x3 b21 b22 n116 n117 x7 n119 n120 n121 z9 n123 n124 w7 s23 s24 v4 s25 st12,C3 t3 m8 q2 k_3 w3 s_1 t_1 s22 n114 x3 b21 b22 n116 n117 x7 n119 n120 n121 z9 n123 n124 w7 s23 s24 v4 s25 st12->(∃(I2:Int->Int->Bool->TV->Int->Int->B8->B8->B8->Int->Int->Bool->Bool->Int->Int->Int->Int->Int->Int->Int->Int->Int->Int->B8->B8->TV->B8->St->Prop) (M2:Int->Int->Bool->TV->Int->Int->B8->B8->B8->Int->Int->Bool->Bool->Int->Int->Int->Int->Int->Int->Int->Int->Int->Int->B8->B8->TV->B8->St->Nat),(I2 0 t3 m8 q2 k_3 w3 s_1 t_1 s22 n114 x3 b21 b22 n116 n117 x7 n119 n120 n121 z9 n123 n124 w7 s23 s24 v4 s25 st12)/\∀e3 q g j a5 a7 c2 h4 l0 g5 f2 l3 l4 d8 g1 e7 g9 g4 e1 e0 f4 f5 f p r v5 u c7,I2 e3 q g j a5 a7 c2 h4 l0 g5 f2 l3 l4 d8 g1 e7 g9 g4 e1 e0 f4 f5 f p r v5 u c7->(BIf g (need (isSl j) (BId (e3<(lenS j:Int)) (((0<=e3/\e3<(lenZ 1 j:Int))/\Ag (Ac c7 [] (.t (ixT 1 j e3.toNat)) 0) (fun (x1:TV)=>Af .str x1 (fun (s30:B8)=>BId (s30=h4) (CallT PR Ai [(.agg [.str l0,.int .u8 g5,.int .u8 f2,.bool l3,.bool l4,.int .i64 d8,.int .i64 g1,.int .i64 e7,.int .i64 g9,.int .i64 g4,.int .i64 e1,.int .i64 e0,.int .i64 f4,.int .i64 f5]),.int .i64 a7,.int .i64 8] [.agg [.str,.int .u8,.int .u8,.bool,.bool,.int .i64,.int .i64,.int .i64,.int .i64,.int .i64,.int .i64,.int .i64,.int .i64,.int .i64]] c7 (fun (s31:B8) (n138 y2:Int) (b25 b26:Bool) (n140 x8 n142 n143 n144 y8 y6 n147 n148:Int) st14=>(I2 ((i64.wrap (e3+(1:Int)))) q g j a5 a7 c2 h4 s31 n138 y2 b25 b26 n140 x8 n142 n143 n144 y8 y6 n147 n148 f p r v5 u st14/\M2 ((i64.wrap (e3+(1:Int)))) q g j a5 a7 c2 h4 s31 n138 y2 b25 b26 n140 x8 n142 n143 n144 y8 y6 n147 n148 f p r v5 u st14<M2 e3 q g j a5 a7 c2 h4 l0 g5 f2 l3 l4 d8 g1 e7 g9 g4 e1 e0 f4 f5 f p r v5 u c7))) ((I2 ((i64.wrap (e3+(1:Int)))) q g j a5 a7 c2 h4 l0 g5 f2 l3 l4 d8 g1 e7 g9 g4 e1 e0 f4 f5 f p r v5 u c7/\M2 ((i64.wrap (e3+(1:Int)))) q g j a5 a7 c2 h4 l0 g5 f2 l3 l4 d8 g1 e7 g9 g4 e1 e0 f4 f5 f p r v5 u c7<M2 e3 q g j a5 a7 c2 h4 l0 g5 f2 l3 l4 d8 g1 e7 g9 g4 e1 e0 f4 f5 f p r v5 u c7)))))) (AU 9 1 16 j 1 [.str h4] c7 (fun (v6:TV) st15=>CallT PR AV [(.agg [.str l0,.int .u8 g5,.int .u8 f2,.bool l3,.bool l4,.int .i64 d8,.int .i64 g1,.int .i64 e7,.int .i64 g9,.int .i64 g4,.int .i64 e1,.int .i64 e0,.int .i64 f4,.int .i64 f5])] [.agg [.str,.int .u8,.int .u8,.bool,.bool,.int .i64,.int .i64,.int .i64,.int .i64,.int .i64,.int .i64,.int .i64,.int .i64,.int .i64]] st15 (fun (z:B8) (f7 i3:Int) (o5 l8:Bool) (k6 i4 j5 i8 j3 d h7 i0 f9:Int) r8=>BId (f9≠0) (need (List.all [.int .i64 f,.str p,.str r,v5,.str u] Ap) (K z f7 i3 o5 l8 k6 i4 j5 i8 j3 d h7 i0 f9 f p r v5 u 0 r8)) (BId (d<(z.length:Int)) (((0<=d/\d<(z.length:Int))/\BId (((List.getD z d.toNat 0).toNat:Int)=f7) (((0<=d/\d<=(i64.wrap (d+(1:Int)))/\(i64.wrap (d+(1:Int)))<=(z.length:Int))/\AU 79 5 80 (.list 5 .full 1 [.int .i64 2,(.str []),.str c2,.nilSlice,(.str [])]) 1 [.int .i64 11,(.str []),(.str (List.drop d.toNat (List.take (Int.toNat (i64.wrap (d+(1:Int)))) z))),.nilSlice,(.str [])] r8 (fun (v7:TV) st17=>need (List.all [v7] Ap) (need (List.all [.int .i64 5,(.str []),(.str []),v7,(.str [])] Ap) (AU 79 5 80 v5 1 [.int .i64 5,(.str []),(.str []),v7,(.str [])] st17 (fun (v8:TV) st18=>need (List.all [v8] Ap) ((I1 v6 ((i64.wrap (a5+(1:Int)))) q g z f7 i3 o5 l8 k6 i4 j5 i8 j3 ((i64.wrap (d+(1:Int)))) h7 i0 f9 f p r v8 u st18/\M1 v6 ((i64.wrap (a5+(1:Int)))) q g z f7 i3 o5 l8 k6 i4 j5 i8 j3 ((i64.wrap (d+(1:Int)))) h7 i0 f9 f p r v8 u st18<M1 w h2 v l s6 d1 e9 b5 b6 e5 e6 f6 d7 g7 b0 d4 g3 c9 c5 s7 s8 v2 s9 d3)))))))) (AU 79 5 80 v5 1 [.int .i64 5,(.str []),(.str []),(.list 5 .full 1 [.int .i64 2,(.str []),.str c2,.nilSlice,(.str [])]),(.str [])] r8 (fun (v9:TV) st19=>need (List.all [v9] Ap) (BId ((i64.wrap (a5+(1:Int)))<q) (CallT PR Ai [(.agg [.str z,.int .u8 f7,.int .u8 i3,.bool o5,.bool l8,.int .i64 k6,.int .i64 i4,.int .i64 j5,.int .i64 i8,.int .i64 j3,.int .i64 d,.int .i64 h7,.int .i64 i0,.int .i64 f9]),.int .i64 d,.int .i64 10] [.agg [.str,.int .u8,.int .u8,.bool,.bool,.int .i64,.int .i64,.int .i64,.int .i64,.int .i64,.int .i64,.int .i64,.int .i64,.int .i64]] st19 (fun (s33:B8) (n160 n161:Int) (b29 b30:Bool) (n162 n163 n164 n165 n166 n167 n168 n169 n170:Int) st20=>need (List.all [.int .i64 f,.str p,.str r,v9,.str u] Ap) (K s33 n160 n161 b29 b30 n162 n163 n164 n165 n166 n167 n168 n169 n170 f p r v9 u 0 st20))) (CallT PR AD [.str z,.int .i64 d] [.one (.int .i64)] st19 (fun (n0:Int) st21=>((0<=d/\d<=(i64.wrap (d+n0))/\(i64.wrap (d+n0))<=(z.length:Int))/\need (List.all [.int .i64 f,.str p,.str r,v9,(.str (List.drop d.toNat (List.take (Int.toNat (i64.wrap (d+n0))) z)))] Ap) (K z f7 i3 o5 l8 k6 i4 j5 i8 j3 ((i64.wrap (d+n0))) h7 i0 f9 f p r v9 ((List.drop d.toNat (List.take (Int.toNat (i64.wrap (d+n0))) z))) ((i64.wrap (a5+(1:Int)))) st21))))))))) (AU 79 5 80 v5 1 [.int .i64 5,(.str []),(.str []),(.list 5 .full 1 [.int .i64 2,(.str []),.str c2,.nilSlice,(.str [])]),(.str [])] r8 (fun (u0:TV) y1=>need (List.all [u0] Ap) (BId ((i64.wrap (a5+(1:Int)))<q) (CallT PR Ai [(.agg [.str z,.int .u8 f7,.int .u8 i3,.bool o5,.bool l8,.int .i64 k6,.int .i64 i4,.int .i64 j5,.int .i64 i8,.int .i64 j3,.int .i64 d,.int .i64 h7,.int .i64 i0,.int .i64 f9]),.int .i64 d,.int .i64 10] [.agg [.str,.int .u8,.int .u8,.bool,.bool,.int .i64,.int .i64,.int .i64,.int .i64,.int .i64,.int .i64,.int .i64,.int .i64,.int .i64]] y1 (fun (s34:B8) (n172 n173:Int) (b31 b32:Bool) (n174 n175 n176 n177 n178 n179 n180 n181 n182:Int) st23=>need (List.all [.int .i64 f,.str p,.str r,u0,.str u] Ap) (K s34 n172 n173 b31 b32 n174 n175 n176 n177 n178 n179 n180 n181 n182 f p r u0 u 0 st23))) (CallT PR AD [.str z,.int .i64 d] [.one (.int .i64)] y1 (fun (m7:Int) st24=>((0<=d/\d<=(i64.wrap (d+m7))/\(i64.wrap (d+m7))<=(z.length:Int))/\need (List.all [.int .i64 f,.str p,.str r,u0,(.str (List.drop d.toNat (List.take (Int.toNat (i64.wrap (d+m7))) z)))] Ap) (K z f7 i3 o5 l8 k6 i4 j5 i8 j3 ((i64.wrap (d+m7))) h7 i0 f9 f p r u0 ((List.drop d.toNat (List.take (Int.toNat (i64.wrap (d+m7))) z))) ((i64.wrap (a5+(1:Int)))) st24))))))))))))) (AU 9 1 16 j 1 [.str h4] c7 (fun (v11:TV) st25=>CallT PR AV [(.agg [.str l0,.int .u8 g5,.int .u8 f2,.bool l3,.bool l4,.int .i64 d8,.int .i64 g1,.int .i64 e7,.int .i64 g9,.int .i64 g4,.int .i64 e1,.int .i64 e0,.int .i64 f4,.int .i64 f5])] [.agg [.str,.int .u8,.int .u8,.bool,.bool,.int .i64,.int .i64,.int .i64,.int .i64,.int .i64,.int .i64,.int .i64,.int .i64,.int .i64]] st25 (fun (a2:B8) (d5 j1:Int) (m6 o6:Bool) (h9 k5 k0 i2 j9 c j7 k1 g8:Int) s0=>BId (g8≠0) (need (List.all [.int .i64 f,.str p,.str r,v5,.str u] Ap) (K a2 d5 j1 m6 o6 h9 k5 k0 i2 j9 c j7 k1 g8 f p r v5 u 0 s0)) (BId (c<(a2.length:Int)) (((0<=c/\c<(a2.length:Int))/\BId (((List.getD a2 c.toNat 0).toNat:Int)=d5) (((0<=c/\c<=(i64.wrap (c+(1:Int)))/\(i64.wrap (c+(1:Int)))<=(a2.length:Int))/\AU 79 5 80 (.list 5 .full 1 [.int .i64 2,(.str []),.str c2,.nilSlice,(.str [])]) 1 [.int .i64 11,(.str []),(.str (List.drop c.toNat (List.take (Int.toNat (i64.wrap (c+(1:Int)))) a2))),.nilSlice,(.str [])] s0 (fun (v12:TV) st27=>need (List.all [v12] Ap) (need (List.all [.int .i64 5,(.str []),(.str []),v12,(.str [])] Ap) (AU 79 5 80 v5 1 [.int .i64 5,(.str []),(.str []),v12,(.str [])] st27 (fun (w4:TV) z8=>need (List.all [w4] Ap) ((I1 v11 ((i64.wrap (a5+(1:Int)))) q g a2 d5 j1 m6 o6 h9 k5 k0 i2 j9 ((i64.wrap (c+(1:Int)))) j7 k1 g8 f p r w4 u z8/\M1 v11 ((i64.wrap (a5+(1:Int)))) q g a2 d5 j1 m6 o6 h9 k5 k0 i2 j9 ((i64.wrap (c+(1:Int)))) j7 k1 g8 f p r w4 u z8<M1 w h2 v l s6 d1 e9 b5 b6 e5 e6 f6 d7 g7 b0 d4 g3 c9 c5 s7 s8 v2 s9 d3)))))))) (AU 79 5 80 v5 1 [.int .i64 5,(.str []),(.str []),(.list 5 .full 1 [.int .i64 2,(.str []),.str c2,.nilSlice,(.str [])]),(.str [])] s0 (fun (w0:TV) w6=>need (List.all [w0] Ap) (BId ((i64.wrap (a5+(1:Int)))<q) (CallT PR Ai [(.agg [.str a2,.int .u8 d5,.int .u8 j1,.bool m6,.bool o6,.int .i64 h9,.int .i64 k5,.int .i64 k0,.int .i64 i2,.int .i64 j9,.int .i64 c,.int .i64 j7,.int .i64 k1,.int .i64 g8]),.int .i64 c,.int .i64 10] [.agg [.str,.int .u8,.int .u8,.bool,.bool,.int .i64,.int .i64,.int .i64,.int .i64,.int .i64,.int .i64,.int .i64,.int .i64,.int .i64]] w6 (fun (s36:B8) (n195 n196:Int) (b35 b36:Bool) (n197 n198 n199 n200 n201 n202 n203 n204 n205:Int) st30=>need (List.all [.int .i64 f,.str p,.str r,w0,.str u] Ap) (K s36 n195 n196 b35 b36 n197 n198 n199 n200 n201 n202 n203 n204 n205 f p r w0 u 0 st30))) (CallT PR AD [.str a2,.int .i64 c] [.one (.int .i64)] w6 (fun (l9:Int) st31=>((0<=c/\c<=(i64.wrap (c+l9))/\(i64.wrap (c+l9))<=(a2.length:Int))/\need (List.all [.int .i64 f,.str p,.str r,w0,(.str (List.drop c.toNat (List.take (Int.toNat (i64.wrap (c+l9))) a2)))] Ap) (K a2 d5 j1 m6 o6 h9 k5 k0 i2 j9 ((i64.wrap (c+l9))) j7 k1 g8 f p r w0 ((List.drop c.toNat (List.take (Int.toNat (i64.wrap (c+l9))) a2))) ((i64.wrap (a5+(1:Int)))) st31))))))))) (AU 79 5 80 v5 1 [.int .i64 5,(.str []),(.str []),(.list 5 .full 1 [.int .i64 2,(.str []),.str c2,.nilSlice,(.str [])]),(.str [])] s0 (fun (u3:TV) w9=>need (List.all [u3] Ap) (BId ((i64.wrap (a5+(1:Int)))<q) (CallT PR Ai [(.agg [.str a2,.int .u8 d5,.int .u8 j1,.bool m6,.bool o6,.int .i64 h9,.int .i64 k5,.int .i64 k0,.int .i64 i2,.int .i64 j9,.int .i64 c,.int .i64 j7,.int .i64 k1,.int .i64 g8]),.int .i64 c,.int .i64 10] [.agg [.str,.int .u8,.int .u8,.bool,.bool,.int .i64,.int .i64,.int .i64,.int .i64,.int .i64,.int .i64,.int .i64,.int .i64,.int .i64]] w9 (fun (s37:B8) (n207 n208:Int) (b37 b38:Bool) (n209 n210 n211 n212 n213 n214 n215 n216 n217:Int) st33=>need (List.all [.int .i64 f,.str p,.str r,u3,.str u] Ap) (K s37 n207 n208 b37 b38 n209 n210 n211 n212 n213 n214 n215 n216 n217 f p r u3 u 0 st33))) (CallT PR AD [.str a2,.int .i64 c] [.one (.int .i64)] w9 (fun (o9:Int) st34=>((0<=c/\c<=(i64.wrap (c+o9))/\(i64.wrap (c+o9))<=(a2.length:Int))/\need (List.all [.int .i64 f,.str p,.str r,u3,(.str (List.drop c.toNat (List.take (Int.toNat (i64.wrap (c+o9))) a2)))] Ap) (K a2 d5 j1 m6 o6 h9 k5 k0 i2 j9 ((i64.wrap (c+o9))) j7 k1 g8 f p r u3 ((List.drop c.toNat (List.take (Int.toNat (i64.wrap (c+o9))) a2))) ((i64.wrap (a5+(1:Int)))) st34)))))))))))))))))) (∃(C4:Int->Bool->TV->Int->Int->B8->Int->Int->Bool->Bool->Int->Int->Int->Int->Int->Int->Int->Int->Int->Int->B8->B8->TV->B8->St->Prop),(BIf (!l) (CallT PR AN [(.agg [.str s6,.int .u8 d1,.int .u8 e9,.bool b5,.bool b6,.int .i64 e5,.int .i64 e6,.int .i64 f6,.int .i64 d7,.int .i64 g7,.int .i64 b0,.int .i64 d4,.int .i64 g3,.int .i64 c9]),.int .i64 3] [.agg [.str,.int .u8,.int .u8,.bool,.bool,.int .i64,.int .i64,.int .i64,.int .i64,.int .i64,.int .i64,.int .i64,.int .i64,.int .i64]] d3 (fun (s38:B8) (n219 n220:Int) (b39 b40:Bool) (n221 n222 n223 n224 n225 n226 n227 n228 n229:Int) st35=>C4 v l w h2 b0 s38 n219 n220 b39 b40 n221 n222 n223 n224 n225 n226 n227 n228 n229 c5 s7 s8 v2 s9 st35)) (C4 v l w h2 b0 s6 d1 e9 b5 b6 e5 e6 f6 d7 g7 b0 d4 g3 c9 c5 s7 s8 v2 s9 d3))/\∀c6 x c0 q0 a4 s39 n230 z3 b41 b42 y4 n233 z5 n235 w8 x5 n238 n239 n240 k9 q6 r2 r6 q5 x6,C4 c6 x c0 q0 a4 s39 n230 z3 b41 b42 y4 n233 z5 n235 w8 x5 n238 n239 n240 k9 q6 r2 r6 q5 x6->(CallT PR B1 [(.agg [.str s39,.int .u8 n230,.int .u8 z3,.bool b41,.bool b42,.int .i64 y4,.int .i64 n233,.int .i64 z5,.int .i64 n235,.int .i64 w8,.int .i64 x5,.int .i64 n238,.int .i64 n239,.int .i64 n240])] [.agg [.str,.int .u8,.int .u8,.bool,.bool,.int .i64,.int .i64,.int .i64,.int .i64,.int .i64,.int .i64,.int .i64,.int .i64,.int .i64],.one .str] x6 (fun (v0:B8) (k7 k8:Int) (r0 q7:Bool) (p3 m4 p1 p4 o0 m2 m9 m1 p2:Int) (p6:B8) st37=>CallT PR A3 [.str p6,(.agg [.int .u8 k7,.int .u8 k8,.bool r0,.bool q7])] [.one .str] st37 (fun (l7:B8) p5=>∃(C5:Int->Bool->TV->Int->Int->B8->B8->B8->Int->Int->Bool->Bool->Int->Int->Int->Int->Int->Int->Int->Int->Int->Int->B8->B8->TV->B8->St->Prop),(BIf x (BId ((1024:Int)<(l7.length:Int)) (CallT PR Ai [(.agg [.str v0,.int .u8 k7,.int .u8 k8,.bool r0,.bool q7,.int .i64 p3,.int .i64 m4,.int .i64 p1,.int .i64 p4,.int .i64 o0,.int .i64 m2,.int .i64 m9,.int .i64 m1,.int .i64 p2]),.int .i64 a4,.int .i64 10] [.agg [.str,.int .u8,.int .u8,.bool,.bool,.int .i64,.int .i64,.int .i64,.int .i64,.int .i64,.int .i64,.int .i64,.int .i64,.int .i64]] p5 (fun (s46:B8) (n253 n254:Int) (b45 b46:Bool) (n255 n256 n257 n258 n259 n260 n261 n262 n263:Int) st39=>C5 c6 x c0 q0 a4 p6 l7 s46 n253 n254 b45 b46 n255 n256 n257 n258 n259 n260 n261 n262 n263 k9 q6 r2 r6 q5 st39)) (BId ((65536:Int)<(l7.length:Int)) (CallT PR Ai [(.agg [.str v0,.int .u8 k7,.int .u8 k8,.bool r0,.bool q7,.int .i64 p3,.int .i64 m4,.int .i64 p1,.int .i64 p4,.int .i64 o0,.int .i64 m2,.int .i64 m9,.int .i64 m1,.int .i64 p2]),.int .i64 a4,.int .i64 10] [.agg [.str,.int .u8,.int .u8,.bool,.bool,.int .i64,.int .i64,.int .i64,.int .i64,.int .i64,.int .i64,.int .i64,.int .i64,.int .i64]] p5 (fun (s47:B8) (n264 n265:Int) (b47 b48:Bool) (n266 n267 n268 n269 n270 n271 n272 n273 n274:Int) st40=>C5 c6 x c0 q0 a4 p6 l7 s47 n264 n265 b47 b48 n266 n267 n268 n269 n270 n271 n272 n273 n274 k9 q6 r2 r6 q5 st40)) (C5 c6 x c0 q0 a4 p6 l7 v0 k7 k8 r0 q7 p3 m4 p1 p4 o0 m2 m9 m1 p2 k9 q6 r2 r6 q5 p5))) (BId ((65536:Int)<(l7.length:Int)) (CallT PR Ai [(.agg [.str v0,.int .u8 k7,.int .u8 k8,.bool r0,.bool q7,.int .i64 p3,.int .i64 m4,.int .i64 p1,.int .i64 p4,.int .i64 o0,.int .i64 m2,.int .i64 m9,.int .i64 m1,.int .i64 p2]),.int .i64 a4,.int .i64 10] [.agg [.str,.int .u8,.int .u8,.bool,.bool,.int .i64,.int .i64,.int .i64,.int .i64,.int .i64,.int .i64,.int .i64,.int .i64,.int .i64]] p5 (fun (s48:B8) (n275 n276:Int) (b49 b50:Bool) (n277 n278 n279 n280 n281 n282 n283 n284 n285:Int) st41=>C5 c6 x c0 q0 a4 p6 l7 s48 n275 n276 b49 b50 n277 n278 n279 n280 n281 n282 n283 n284 n285 k9 q6 r2 r6 q5 st41)) (C5 c6 x c0 q0 a4 p6 l7 v0 k7 k8 r0 q7 p3 m4 p1 p4 o0 m2 m9 m1 p2 k9 q6 r2 r6 q5 p5)))/\∀t1 o1 q9 k_6 t0 s_3 t_3 s49 n286 n287 b51 b52 w5 n289 z7 n291 n292 x4 y9 y3 n296 n297 s50 s51 v17 s52 y7,C5 t1 o1 q9 k_6 t0 s_3 t_3 s49 n286 n287 b51 b52 w5 n289 z7 n291 n292 x4 y9 y3 n296 n297 s50 s51 v17 s52 y7->(∃(I3:Int->Int->Bool->TV->Int->Int->B8->B8->B8->Int->Int->Bool->Bool->Int->Int->Int->Int->Int->Int->Int->Int->Int->Int->B8->B8->TV->B8->St->Prop) (M3:Int->Int->Bool->TV->Int->Int->B8->B8->B8->Int->Int->Bool->Bool->Int->Int->Int->Int->Int->Int->Int->Int->Int->Int->B8->B8->TV->B8->St->Nat),(I3 0 t1 o1 q9 k_6 t0 s_3 t_3 s49 n286 n287 b51 b52 w5 n289 z7 n291 n292 x4 y9 y3 n296 n297 s50 s51 v17 s52 y7)/\∀d9 m i k a3 a9 c4 h3 l6 g0 e4 l2 l1 g6 e2 f8 h1 f1 g2 d0 d2 e8 e o n a8 s c8,I3 d9 m i k a3 a9 c4 h3 l6 g0 e4 l2 l1 g6 e2 f8 h1 f1 g2 d0 d2 e8 e o n a8 s c8->(BIf i (need (isSl k) (BId (d9<(lenS k:Int)) (((0<=d9/\d9<(lenZ 1 k:Int))/\Ag (Ac c8 [] (.t (ixT 1 k d9.toNat)) 0) (fun (x2:TV)=>Af .str x2 (fun (s57:B8)=>BId (s57=h3) (CallT PR Ai [(.agg [.str l6,.int .u8 g0,.int .u8 e4,.bool l2,.bool l1,.int .i64 g6,.int .i64 e2,.int .i64 f8,.int .i64 h1,.int .i64 f1,.int .i64 g2,.int .i64 d0,.int .i64 d2,.int .i64 e8]),.int .i64 a9,.int .i64 8] [.agg [.str,.int .u8,.int .u8,.bool,.bool,.int .i64,.int .i64,.int .i64,.int .i64,.int .i64,.int .i64,.int .i64,.int .i64,.int .i64]] c8 (fun (s58:B8) (z2 n311:Int) (b55 b56:Bool) (n312 y5 n314 n315 n316 z6 x0 z4 n320:Int) st44=>(I3 ((i64.wrap (d9+(1:Int)))) m i k a3 a9 c4 h3 s58 z2 n311 b55 b56 n312 y5 n314 n315 n316 z6 x0 z4 n320 e o n a8 s st44/\M3 ((i64.wrap (d9+(1:Int)))) m i k a3 a9 c4 h3 s58 z2 n311 b55 b56 n312 y5 n314 n315 n316 z6 x0 z4 n320 e o n a8 s st44<M3 d9 m i k a3 a9 c4 h3 l6 g0 e4 l2 l1 g6 e2 f8 h1 f1 g2 d0 d2 e8 e o n a8 s c8))) ((I3 ((i64.wrap (d9+(1:Int)))) m i k a3 a9 c4 h3 l6 g0 e4 l2 l1 g6 e2 f8 h1 f1 g2 d0 d2 e8 e o n a8 s c8/\M3 ((i64.wrap (d9+(1:Int)))) m i k a3 a9 c4 h3 l6 g0 e4 l2 l1 g6 e2 f8 h1 f1 g2 d0 d2 e8 e o n a8 s c8<M3 d9 m i k a3 a9 c4 h3 l6 g0 e4 l2 l1 g6 e2 f8 h1 f1 g2 d0 d2 e8 e o n a8 s c8)))))) (AU 9 1 16 k 1 [.str h3] c8 (fun (v19:TV) st45=>CallT PR AV [(.agg [.str l6,.int .u8 g0,.int .u8 e4,.bool l2,.bool l1,.int .i64 g6,.int .i64 e2,.int .i64 f8,.int .i64 h1,.int .i64 f1,.int .i64 g2,.int .i64 d0,.int .i64 d2,.int .i64 e8])] [.agg [.str,.int .u8,.int .u8,.bool,.bool,.int .i64,.int .i64,.int .i64,.int .i64,.int .i64,.int .i64,.int .i64,.int .i64,.int .i64]] st45 (fun (a0:B8) (f0 k3:Int) (p0 m5:Bool) (j8 i6 j2 k4 h8 b i7 j0 h0:Int) r7=>BId (h0≠0) (need (List.all [.int .i64 e,.str o,.str n,a8,.str s] Ap) (K a0 f0 k3 p0 m5 j8 i6 j2 k4 h8 b i7 j0 h0 e o n a8 s 0 r7)) (BId (b<(a0.length:Int)) (((0<=b/\b<(a0.length:Int))/\BId (((List.getD a0 b.toNat 0).toNat:Int)=f0) (((0<=b/\b<=(i64.wrap (b+(1:Int)))/\(i64.wrap (b+(1:Int)))<=(a0.length:Int))/\AU 79 5 80 (.list 5 .full 1 [.int .i64 2,(.str []),.str c4,.nilSlice,(.str [])]) 1 [.int .i64 11,(.str []),(.str (List.drop b.toNat (List.take (Int.toNat (i64.wrap (b+(1:Int)))) a0))),.nilSlice,(.str [])] r7 (fun (v20:TV) st47=>need (List.all [v20] Ap) (need (List.all [.int .i64 5,(.str []),(.str []),v20,(.str [])] Ap) (AU 79 5 80 a8 1 [.int .i64 5,(.str []),(.str []),v20,(.str [])] st47 (fun (v21:TV) x9=>need (List.all [v21] Ap) ((I1 v19 ((i64.wrap (a3+(1:Int)))) m i a0 f0 k3 p0 m5 j8 i6 j2 k4 h8 ((i64.wrap (b+(1:Int)))) i7 j0 h0 e o n v21 s x9/\M1 v19 ((i64.wrap (a3+(1:Int)))) m i a0 f0 k3 p0 m5 j8 i6 j2 k4 h8 ((i64.wrap (b+(1:Int)))) i7 j0 h0 e o n v21 s x9<M1 w h2 v l s6 d1 e9 b5 b6 e5 e6 f6 d7 g7 b0 d4 g3 c9 c5 s7 s8 v2 s9 d3)))))))) (AU 79 5 80 a8 1 [.int .i64 5,(.str []),(.str []),(.list 5 .full 1 [.int .i64 2,(.str []),.str c4,.nilSlice,(.str [])]),(.str [])] r7 (fun (u1:TV) z1=>need (List.all [u1] Ap) (BId ((i64.wrap (a3+(1:Int)))<m) (CallT PR Ai [(.agg [.str a0,.int .u8 f0,.int .u8 k3,.bool p0,.bool m5,.int .i64 j8,.int .i64 i6,.int .i64 j2,.int .i64 k4,.int .i64 h8,.int .i64 b,.int .i64 i7,.int .i64 j0,.int .i64 h0]),.int .i64 b,.int .i64 10] [.agg [.str,.int .u8,.int .u8,.bool,.bool,.int .i64,.int .i64,.int .i64,.int .i64,.int .i64,.int .i64,.int .i64,.int .i64,.int .i64]] z1 (fun (s60:B8) (n332 n333:Int) (b59 b60:Bool) (n334 n335 n336 n337 n338 n339 n340 n341 n342:Int) st50=>need (List.all [.int .i64 e,.str o,.str n,u1,.str s] Ap) (K s60 n332 n333 b59 b60 n334 n335 n336 n337 n338 n339 n340 n341 n342 e o n u1 s 0 st50))) (CallT PR AD [.str a0,.int .i64 b] [.one (.int .i64)] z1 (fun (o2:Int) st51=>((0<=b/\b<=(i64.wrap (b+o2))/\(i64.wrap (b+o2))<=(a0.length:Int))/\need (List.all [.int .i64 e,.str o,.str n,u1,(.str (List.drop b.toNat (List.take (Int.toNat (i64.wrap (b+o2))) a0)))] Ap) (K a0 f0 k3 p0 m5 j8 i6 j2 k4 h8 ((i64.wrap (b+o2))) i7 j0 h0 e o n u1 ((List.drop b.toNat (List.take (Int.toNat (i64.wrap (b+o2))) a0))) ((i64.wrap (a3+(1:Int)))) st51))))))))) (AU 79 5 80 a8 1 [.int .i64 5,(.str []),(.str []),(.list 5 .full 1 [.int .i64 2,(.str []),.str c4,.nilSlice,(.str [])]),(.str [])] r7 (fun (t8:TV) st52=>need (List.all [t8] Ap) (BId ((i64.wrap (a3+(1:Int)))<m) (CallT PR Ai [(.agg [.str a0,.int .u8 f0,.int .u8 k3,.bool p0,.bool m5,.int .i64 j8,.int .i64 i6,.int .i64 j2,.int .i64 k4,.int .i64 h8,.int .i64 b,.int .i64 i7,.int .i64 j0,.int .i64 h0]),.int .i64 b,.int .i64 10] [.agg [.str,.int .u8,.int .u8,.bool,.bool,.int .i64,.int .i64,.int .i64,.int .i64,.int .i64,.int .i64,.int .i64,.int .i64,.int .i64]] st52 (fun (s61:B8) (n344 n345:Int) (b61 b62:Bool) (n346 n347 n348 n349 n350 n351 n352 n353 n354:Int) st53=>need (List.all [.int .i64 e,.str o,.str n,t8,.str s] Ap) (K s61 n344 n345 b61 b62 n346 n347 n348 n349 n350 n351 n352 n353 n354 e o n t8 s 0 st53))) (CallT PR AD [.str a0,.int .i64 b] [.one (.int .i64)] st52 (fun (m3:Int) st54=>((0<=b/\b<=(i64.wrap (b+m3))/\(i64.wrap (b+m3))<=(a0.length:Int))/\need (List.all [.int .i64 e,.str o,.str n,t8,(.str (List.drop b.toNat (List.take (Int.toNat (i64.wrap (b+m3))) a0)))] Ap) (K a0 f0 k3 p0 m5 j8 i6 j2 k4 h8 ((i64.wrap (b+m3))) i7 j0 h0 e o n t8 ((List.drop b.toNat (List.take (Int.toNat (i64.wrap (b+m3))) a0))) ((i64.wrap (a3+(1:Int)))) st54))))))))))))) (AU 9 1 16 k 1 [.str h3] c8 (fun (v24:TV) st55=>CallT PR AV [(.agg [.str l6,.int .u8 g0,.int .u8 e4,.bool l2,.bool l1,.int .i64 g6,.int .i64 e2,.int .i64 f8,.int .i64 h1,.int .i64 f1,.int .i64 g2,.int .i64 d0,.int .i64 d2,.int .i64 e8])] [.agg [.str,.int .u8,.int .u8,.bool,.bool,.int .i64,.int .i64,.int .i64,.int .i64,.int .i64,.int .i64,.int .i64,.int .i64,.int .i64]] st55 (fun (a1:B8) (f3 h6:Int) (o3 m0:Bool) (i5 i9 j6 j4 h5 a k2 i1 d6:Int) r9=>BId (d6≠0) (need (List.all [.int .i64 e,.str o,.str n,a8,.str s] Ap) (K a1 f3 h6 o3 m0 i5 i9 j6 j4 h5 a k2 i1 d6 e o n a8 s 0 r9)) (BId (a<(a1.length:Int)) (((0<=a/\a<(a1.length:Int))/\BId (((List.getD a1 a.toNat 0).toNat:Int)=f3) (((0<=a/\a<=(i64.wrap (a+(1:Int)))/\(i64.wrap (a+(1:Int)))<=(a1.length:Int))/\AU 79 5 80 (.list 5 .full 1 [.int .i64 2,(.str []),.str c4,.nilSlice,(.str [])]) 1 [.int .i64 11,(.str []),(.str (List.drop a.toNat (List.take (Int.toNat (i64.wrap (a+(1:Int)))) a1))),.nilSlice,(.str [])] r9 (fun (v25:TV) st57=>need (List.all [v25] Ap) (need (List.all [.int .i64 5,(.str []),(.str []),v25,(.str [])] Ap) (AU 79 5 80 a8 1 [.int .i64 5,(.str []),(.str []),v25,(.str [])] st57 (fun (v26:TV) y0=>need (List.all [v26] Ap) ((I1 v24 ((i64.wrap (a3+(1:Int)))) m i a1 f3 h6 o3 m0 i5 i9 j6 j4 h5 ((i64.wrap (a+(1:Int)))) k2 i1 d6 e o n v26 s y0/\M1 v24 ((i64.wrap (a3+(1:Int)))) m i a1 f3 h6 o3 m0 i5 i9 j6 j4 h5 ((i64.wrap (a+(1:Int)))) k2 i1 d6 e o n v26 s y0<M1 w h2 v l s6 d1 e9 b5 b6 e5 e6 f6 d7 g7 b0 d4 g3 c9 c5 s7 s8 v2 s9 d3)))))))) (AU 79 5 80 a8 1 [.int .i64 5,(.str []),(.str []),(.list 5 .full 1 [.int .i64 2,(.str []),.str c4,.nilSlice,(.str [])]),(.str [])] r9 (fun (t5:TV) z0=>need (List.all [t5] Ap) (BId ((i64.wrap (a3+(1:Int)))<m) (CallT PR Ai [(.agg [.str a1,.int .u8 f3,.int .u8 h6,.bool o3,.bool m0,.int .i64 i5,.int .i64 i9,.int .i64 j6,.int .i64 j4,.int .i64 h5,.int .i64 a,.int .i64 k2,.int .i64 i1,.int .i64 d6]),.int .i64 a,.int .i64 10] [.agg [.str,.int .u8,.int .u8,.bool,.bool,.int .i64,.int .i64,.int .i64,.int .i64,.int .i64,.int .i64,.int .i64,.int .i64,.int .i64]] z0 (fun (s63:B8) (n367 n368:Int) (b65 b66:Bool) (n369 n370 n371 n372 n373 n374 n375 n376 n377:Int) st60=>need (List.all [.int .i64 e,.str o,.str n,t5,.str s] Ap) (K s63 n367 n368 b65 b66 n369 n370 n371 n372 n373 n374 n375 n376 n377 e o n t5 s 0 st60))) (CallT PR AD [.str a1,.int .i64 a] [.one (.int .i64)] z0 (fun (o7:Int) st61=>((0<=a/\a<=(i64.wrap (a+o7))/\(i64.wrap (a+o7))<=(a1.length:Int))/\need (List.all [.int .i64 e,.str o,.str n,t5,(.str (List.drop a.toNat (List.take (Int.toNat (i64.wrap (a+o7))) a1)))] Ap) (K a1 f3 h6 o3 m0 i5 i9 j6 j4 h5 ((i64.wrap (a+o7))) k2 i1 d6 e o n t5 ((List.drop a.toNat (List.take (Int.toNat (i64.wrap (a+o7))) a1))) ((i64.wrap (a3+(1:Int)))) st61))))))))) (AU 79 5 80 a8 1 [.int .i64 5,(.str []),(.str []),(.list 5 .full 1 [.int .i64 2,(.str []),.str c4,.nilSlice,(.str [])]),(.str [])] r9 (fun (t2:TV) st62=>need (List.all [t2] Ap) (BId ((i64.wrap (a3+(1:Int)))<m) (CallT PR Ai [(.agg [.str a1,.int .u8 f3,.int .u8 h6,.bool o3,.bool m0,.int .i64 i5,.int .i64 i9,.int .i64 j6,.int .i64 j4,.int .i64 h5,.int .i64 a,.int .i64 k2,.int .i64 i1,.int .i64 d6]),.int .i64 a,.int .i64 10] [.agg [.str,.int .u8,.int .u8,.bool,.bool,.int .i64,.int .i64,.int .i64,.int .i64,.int .i64,.int .i64,.int .i64,.int .i64,.int .i64]] st62 (fun (s64:B8) (n379 n380:Int) (b67 b68:Bool) (n381 n382 n383 n384 n385 n386 n387 n388 n389:Int) st63=>need (List.all [.int .i64 e,.str o,.str n,t2,.str s] Ap) (K s64 n379 n380 b67 b68 n381 n382 n383 n384 n385 n386 n387 n388 n389 e o n t2 s 0 st63))) (CallT PR AD [.str a1,.int .i64 a] [.one (.int .i64)] st62 (fun (o8:Int) st64=>((0<=a/\a<=(i64.wrap (a+o8))/\(i64.wrap (a+o8))<=(a1.length:Int))/\need (List.all [.int .i64 e,.str o,.str n,t2,(.str (List.drop a.toNat (List.take (Int.toNat (i64.wrap (a+o8))) a1)))] Ap) (K a1 f3 h6 o3 m0 i5 i9 j6 j4 h5 ((i64.wrap (a+o8))) k2 i1 d6 e o n t2 ((List.drop a.toNat (List.take (Int.toNat (i64.wrap (a+o8))) a1))) ((i64.wrap (a3+(1:Int)))) st64)))))))))))))))))) (need (List.all [.int .i64 c5,.str s7,.str s8,v2,.str s9] Ap) (K s6 d1 e9 b5 b6 e5 e6 f6 d7 g7 b0 d4 g3 c9 c5 s7 s8 v2 s9 0 d3))))):CallT PR BA [(.agg [.str x_0,.int .u8 x_1,.int .u8 x_2,.bool x_3,.bool x_4,.int .i64 x_5,.int .i64 x_6,.int .i64 x_7,.int .i64 x_8,.int .i64 x_9,.int .i64 x_10,.int .i64 x_11,.int .i64 x_12,.int .i64 x_13]),.int .i64 many,.bool header] [.agg [.str,.int .u8,.int .u8,.bool,.bool,.int .i64,.int .i64,.int .i64,.int .i64,.int .i64,.int .i64,.int .i64,.int .i64,.int .i64],.agg [.int .i64,.str,.str,.tv,.str],.one (.int .i64)] st K:=
 Ae (cfg:=⟨[3,6,7,9,16],[],[]⟩) (h:=(.seq .none (.seq .none (.seq .none (.cut ⟨[(1,.int .i64),(2,.bool),(10,.tv)],[(3,0,0),(6,1,0),(7,2,0),(9,3,0)],[(0,14),(1,14),(2,5),(3,5)],[(0,0,.str),(0,1,.int .u8),(0,2,.int .u8),(0,3,.bool),(0,4,.bool),(0,5,.int .i64),(0,6,.int .i64),(0,7,.int .i64),(0,8,.int .i64),(0,9,.int .i64),(0,10,.int .i64),(0,11,.int .i64),(0,12,.int .i64),(0,13,.int .i64),(3,0,.int .i64),(3,1,.str),(3,2,.str),(3,3,.tv),(3,4,.str)]⟩ .none (.seq (.seq .none (.block (.loop ⟨[(10,.tv),(11,.int .i64),(1,.int .i64),(2,.bool)],[(3,0,0),(6,1,0),(7,2,0),(9,3,0)],[(0,14),(1,14),(2,5),(3,5)],[(0,0,.str),(0,1,.int .u8),(0,2,.int .u8),(0,3,.bool),(0,4,.bool),(0,5,.int .i64),(0,6,.int .i64),(0,7,.int .i64),(0,8,.int .i64),(0,9,.int .i64),(0,10,.int .i64),(0,11,.int .i64),(0,12,.int .i64),(0,13,.int .i64),(3,0,.int .i64),(3,1,.str),(3,2,.str),(3,3,.tv),(3,4,.str)]⟩ (.seq .none (.seq (.block (.seq .none (.seq .none (.cut ⟨[(1,.int .i64),(2,.bool),(10,.tv),(11,.int .i64),(12,.int .i64)],[(3,0,0),(6,1,0),(7,2,0),(9,3,0)],[(0,14),(1,14),(2,5),(3,5)],[(0,0,.str),(0,1,.int .u8),(0,2,.int .u8),(0,3,.bool),(0,4,.bool),(0,5,.int .i64),(0,6,.int .i64),(0,7,.int .i64),(0,8,.int .i64),(0,9,.int .i64),(0,10,.int .i64),(0,11,.int .i64),(0,12,.int .i64),(0,13,.int .i64),(3,0,.int .i64),(3,1,.str),(3,2,.str),(3,3,.tv),(3,4,.str)]⟩ .none (.seq .none (.seq .none (.seq .none (.cut ⟨[(1,.int .i64),(2,.bool),(10,.tv),(11,.int .i64),(12,.int .i64),(13,.str),(14,.str)],[(3,0,0),(6,1,0),(7,2,0),(9,3,0)],[(0,14),(1,14),(2,5),(3,5)],[(0,0,.str),(0,1,.int .u8),(0,2,.int .u8),(0,3,.bool),(0,4,.bool),(0,5,.int .i64),(0,6,.int .i64),(0,7,.int .i64),(0,8,.int .i64),(0,9,.int .i64),(0,10,.int .i64),(0,11,.int .i64),(0,12,.int .i64),(0,13,.int .i64),(3,0,.int .i64),(3,1,.str),(3,2,.str),(3,3,.tv),(3,4,.str)]⟩ .none (.seq (.seq .none (.block (.loop ⟨[(15,.int .i64),(1,.int .i64),(2,.bool),(10,.tv),(11,.int .i64),(12,.int .i64),(13,.str),(14,.str)],[(3,0,0),(6,1,0),(7,2,0),(9,3,0)],[(0,14),(1,14),(2,5),(3,5)],[(0,0,.str),(0,1,.int .u8),(0,2,.int .u8),(0,3,.bool),(0,4,.bool),(0,5,.int .i64),(0,6,.int .i64),(0,7,.int .i64),(0,8,.int .i64),(0,9,.int .i64),(0,10,.int .i64),(0,11,.int .i64),(0,12,.int .i64),(0,13,.int .i64),(3,0,.int .i64),(3,1,.str),(3,2,.str),(3,3,.tv),(3,4,.str)]⟩ .none))) .none))))))))) .none))))) .none)))))) mixed (fun _ _=>Tryz.call132 _ _) Tryz.func132 (by kernel_rfl) (by kernel_rfl) h
theorem NH (s:B8) (d_0:Int) (d_1:Int) (d_2:Bool) (d_3:Bool) (st:St) (K:B8->Int->St->Prop) (h:CallT PR Dj [(.agg [.int .u8 d_0,.int .u8 d_1,.bool d_2,.bool d_3])] [.one .bool] st (fun (b1:Bool) f=>BIf (!b1) (K [] 1 f) (CallT PR Ef [.str s] [.one .bool] f (fun (b2:Bool) e=>BIf (!b2) (K [] 5 e) (Ag ((toBytes e (.list 1 .full 1 [.int .u8 d_1])).map TV.str) (fun (x1:TV)=>Af .str x1 (fun (s1:B8)=>∃(I1:Int->B8->B8->Int->Int->Bool->Bool->St->Prop) (M1:Int->B8->B8->Int->Int->Bool->Bool->St->Nat),(I1 0 s s1 d_0 d_1 d_2 d_3 e)/\∀c b a n1 n2 b3 b4 d,I1 c b a n1 n2 b3 b4 d->(BId (c<(b.length:Int)) (((0<=c/\c<(b.length:Int))/\BId (((List.getD b c.toNat 0).toNat:Int)=n1) ((a.length+a.length<=9223372036854775807/\CallT PR AE [.str b,.str a,(.str (a++a))] [.one .str] d (fun (s2:B8) k=>(a.length+s2.length<=9223372036854775807/\(((a++s2)).length+a.length<=9223372036854775807/\K (((a++s2)++a)) 0 k))))) (BId (((List.getD b c.toNat 0).toNat:Int)=n2) ((a.length+a.length<=9223372036854775807/\CallT PR AE [.str b,.str a,(.str (a++a))] [.one .str] d (fun (s3:B8) i=>(a.length+s3.length<=9223372036854775807/\(((a++s3)).length+a.length<=9223372036854775807/\K (((a++s3)++a)) 0 i))))) (BId (((List.getD b c.toNat 0).toNat:Int)=(10:Int)) ((a.length+a.length<=9223372036854775807/\CallT PR AE [.str b,.str a,(.str (a++a))] [.one .str] d (fun (s4:B8) g=>(a.length+s4.length<=9223372036854775807/\(((a++s4)).length+a.length<=9223372036854775807/\K (((a++s4)++a)) 0 g))))) (BId (((List.getD b c.toNat 0).toNat:Int)=(13:Int)) ((a.length+a.length<=9223372036854775807/\CallT PR AE [.str b,.str a,(.str (a++a))] [.one .str] d (fun (s5:B8) j=>(a.length+s5.length<=9223372036854775807/\(((a++s5)).length+a.length<=9223372036854775807/\K (((a++s5)++a)) 0 j))))) ((I1 ((i64.wrap (c+(1:Int)))) b a n1 n2 b3 b4 d/\M1 ((i64.wrap (c+(1:Int)))) b a n1 n2 b3 b4 d<M1 c b a n1 n2 b3 b4 d))))))) (K b 0 d))))))))):CallT PR Ek [.str s,(.agg [.int .u8 d_0,.int .u8 d_1,.bool d_2,.bool d_3])] [.one .str,.one (.int .i64)] st K:=
 Ae (cfg:=⟨[3],[],[]⟩) (h:=(.seq .none (.seq .none (.seq .none (.seq .none (.seq (.seq .none (.block (.loop ⟨[(7,.int .i64),(0,.str),(6,.str)],[(3,0,0)],[(0,4)],[(0,0,.int .u8),(0,1,.int .u8),(0,2,.bool),(0,3,.bool)]⟩ .none))) .none)))))) mixed (fun _ _=>Tryz.call145 _ _) Tryz.func145 (by kernel_rfl) (by kernel_rfl) h
theorem Ij (s:B8) (d_0:Int) (d_1:Int) (d_2:Bool) (d_3:Bool) (st:St) (K:B8->St->Prop) (h:BId (s=([]:B8)) (K s st) (((0<=(0:Int)/\(0:Int)<(s.length:Int))/\BId (((List.getD s (Int.toNat (0:Int)) 0).toNat:Int)≠d_1) (K s st) (∃(I1:B8->Int->B8->Int->Int->Bool->Bool->St->Prop) (M1:B8->Int->B8->Int->Int->Bool->Bool->St->Nat),(I1 [] 1 s d_0 d_1 d_2 d_3 st)/\∀c a b n1 n2 b1 b2 d,I1 c a b n1 n2 b1 b2 d->(BId ((i64.wrap (a+(1:Int)))<(b.length:Int)) (((0<=a/\a<=(i64.wrap (a+(1:Int)))/\(i64.wrap (a+(1:Int)))<=(b.length:Int))/\(c.length+((List.drop a.toNat (List.take (Int.toNat (i64.wrap (a+(1:Int)))) b))).length<=9223372036854775807/\((0<=a/\a<(b.length:Int))/\BId (((List.getD b a.toNat 0).toNat:Int)=n2) ((I1 ((c++(List.drop a.toNat (List.take (Int.toNat (i64.wrap (a+(1:Int)))) b)))) ((i64.wrap ((i64.wrap (a+(1:Int)))+(1:Int)))) b n1 n2 b1 b2 d/\M1 ((c++(List.drop a.toNat (List.take (Int.toNat (i64.wrap (a+(1:Int)))) b)))) ((i64.wrap ((i64.wrap (a+(1:Int)))+(1:Int)))) b n1 n2 b1 b2 d<M1 c a b n1 n2 b1 b2 d)) ((I1 ((c++(List.drop a.toNat (List.take (Int.toNat (i64.wrap (a+(1:Int)))) b)))) ((i64.wrap (a+(1:Int)))) b n1 n2 b1 b2 d/\M1 ((c++(List.drop a.toNat (List.take (Int.toNat (i64.wrap (a+(1:Int)))) b)))) ((i64.wrap (a+(1:Int)))) b n1 n2 b1 b2 d<M1 c a b n1 n2 b1 b2 d)))))) (K c d)))))):CallT PR A3 [.str s,(.agg [.int .u8 d_0,.int .u8 d_1,.bool d_2,.bool d_3])] [.one .str] st K:=
 Ae (cfg:=⟨[3],[],[]⟩) (h:=(.seq .none (.seq .none (.seq .none (.seq (.seq .none (.block (.loop ⟨[(5,.str),(6,.int .i64),(0,.str)],[(3,0,0)],[(0,4)],[(0,0,.int .u8),(0,1,.int .u8),(0,2,.bool),(0,3,.bool)]⟩ .none))) .none))))) mixed (fun _ _=>Tryz.call172 _ _) Tryz.func172 (by kernel_rfl) (by kernel_rfl) h
theorem O6 (n_0:Int) (n_1:B8) (n_2:B8) (n_3:TV) (n_4:B8) (d_0:Int) (d_1:Int) (d_2:Bool) (d_3:Bool) (st:St) (K:Bool->St->Prop) (h:CallT PR GP [(.agg [.int .i64 n_0,.str n_1,.str n_2,n_3,.str n_4])] [.one (.int .i64)] st (fun (n1:Int) a=>BId (n1≠0) (K false a) (CallT PR GO [(.agg [.int .i64 n_0,.str n_1,.str n_2,n_3,.str n_4])] [.one .str] a (fun (s1:B8) d=>CallT PR F6 [] [.agg [.int .i64,.int .i64,.int .i64,.int .i64,.int .i64]] d (fun (n2 n3 n4 n5 n6:Int) e=>CallT PR El [.str s1,(.agg [.int .u8 d_0,.int .u8 d_1,.bool d_2,.bool d_3]),(.agg [.int .i64 n2,.int .i64 n3,.int .i64 n4,.int .i64 n5,.int .i64 n6])] [.agg [.int .i64,.str,.str,.tv,.str],.one (.int .i64),.one (.int .i64)] e (fun (n7:Int) (s2 s3:B8) (v1:TV) (s4:B8) (n8 n9:Int) b=>need (List.all [.int .i64 n7,.str s2,.str s3,v1,.str s4] Ap) (BId (n9=0) (CallT PR FF [(.agg [.int .i64 n7,.str s2,.str s3,v1,.str s4]),(.agg [.int .i64 n_0,.str n_1,.str n_2,n_3,.str n_4])] [.one .bool] b (fun (b1:Bool) c=>K b1 c)) (K false b)))))))):CallT PR ES [(.agg [.int .i64 n_0,.str n_1,.str n_2,n_3,.str n_4]),(.agg [.int .u8 d_0,.int .u8 d_1,.bool d_2,.bool d_3])] [.one .bool] st K:=
 Ae (cfg:=⟨[2,3,5],[],[]⟩) (h:= .none) mixed (fun _ _=>Tryz.call173 _ _) Tryz.func173 (by kernel_rfl) (by kernel_rfl) h
theorem O5 (cell:B8) (d_0:Int) (d_1:Int) (d_2:Bool) (d_3:Bool) (st:St) (K:B8->Bool->St->Prop) (h:BId (cell=([]:B8)) (K cell false st) (((0<=(0:Int)/\(0:Int)<(cell.length:Int))/\BId (((List.getD cell (Int.toNat (0:Int)) 0).toNat:Int)≠d_1) (K cell false st) (Ag ((toBytes st (.list 1 .full 1 [.int .u8 d_1])).map TV.str) (fun (x1:TV)=>Af .str x1 (fun (s1:B8)=>((0<=(1:Int)/\(1:Int)<=(i64.wrap ((cell.length:Int)-(1:Int)))/\(i64.wrap ((cell.length:Int)-(1:Int)))<=(cell.length:Int))/\(s1.length+s1.length<=9223372036854775807/\CallT PR AE [(.str (List.drop (Int.toNat (1:Int)) (List.take (Int.toNat (i64.wrap ((cell.length:Int)-(1:Int)))) cell))),(.str (s1++s1)),.str s1] [.one .str] st (fun (s2:B8) a=>K s2 true a))))))))):CallT PR CJ [.str cell,(.agg [.int .u8 d_0,.int .u8 d_1,.bool d_2,.bool d_3])] [.one .str,.one .bool] st K:=
 Ae (cfg:=⟨[3],[],[]⟩) (h:= .none) mixed (fun _ _=>Tryz.call174 _ _) Tryz.func174 (by kernel_rfl) (by kernel_rfl) h
theorem Ip (n_0:Int) (n_1:B8) (n_2:B8) (n_3:TV) (n_4:B8) (st:St) (K:Int->St->Prop) (h:CallT PR Bo [(.agg [.int .i64 n_0,.str n_1,.str n_2,n_3,.str n_4]),.int .i64 1,.int .i64 0] [.one (.int .i64),.one (.int .i64)] st (fun (n1 n2:Int) a=>BId (n2=0) (CallT PR Cc [(.agg [.int .i64 n_0,.str n_1,.str n_2,n_3,.str n_4])] [.one (.int .i64)] a (fun (n3:Int) b=>BId ((1048576:Int)<n3) (K 10 b) (K n2 b))) (K n2 a))):CallT PR CR [(.agg [.int .i64 n_0,.str n_1,.str n_2,n_3,.str n_4])] [.one (.int .i64)] st K:=
 Ae (cfg:=⟨[1],[],[]⟩) (h:= .none) mixed (fun _ _=>Tryz.call175 _ _) Tryz.func175 (by kernel_rfl) (by kernel_rfl) h
theorem Io (n_0:Int) (n_1:B8) (n_2:B8) (n_3:TV) (n_4:B8) (st:St) (K:B8->St->Prop) (h:(n_1.length+n_2.length<=9223372036854775807/\∃(I1:B8->Int->Int->B8->B8->TV->B8->St->Prop) (M1:B8->Int->Int->B8->B8->TV->B8->St->Nat),(I1 ((n_1++n_2)) 0 n_0 n_1 n_2 n_3 n_4 st)/\∀b a n1 s1 s2 v1 s3 c,I1 b a n1 s1 s2 v1 s3 c->(need (isSl v1) (BId (a<(lenS v1:Int)) (((0<=a/\a<(lenZ 5 v1:Int))/\Ag ((Aj c [] (.t (ixT 5 v1 a.toNat)) 0 5).map TV.agg) (fun (x1:TV)=>AW [.int .i64,.str,.str,.tv,.str] x1 (fun (n2:Int) (s4 s5:B8) (v2:TV) (s6:B8)=>CallT PR BO [(.agg [.int .i64 n2,.str s4,.str s5,v2,.str s6])] [.one .str] c (fun (s7:B8) d=>(b.length+s7.length<=9223372036854775807/\(I1 ((b++s7)) ((i64.wrap (a+(1:Int)))) n1 s1 s2 v1 s3 d/\M1 ((b++s7)) ((i64.wrap (a+(1:Int)))) n1 s1 s2 v1 s3 d<M1 b a n1 s1 s2 v1 s3 c))))))) ((b.length+s3.length<=9223372036854775807/\K ((b++s3)) c)))))):CallT PR BO [(.agg [.int .i64 n_0,.str n_1,.str n_2,n_3,.str n_4])] [.one .str] st K:=
 Ae (cfg:=⟨[1],[],[]⟩) (h:=(.seq .none (.seq .none (.seq (.seq .none (.block (.loop ⟨[(3,.str),(4,.int .i64)],[(1,0,0)],[(0,5)],[(0,0,.int .i64),(0,1,.str),(0,2,.str),(0,3,.tv),(0,4,.str)]⟩ .none))) .none)))) mixed (fun _ _=>Tryz.call176 _ _) Tryz.func176 (by kernel_rfl) (by kernel_rfl) h
theorem IT (a_0:Int) (a_1:B8) (a_2:B8) (a_3:TV) (a_4:B8) (b_0:Int) (b_1:B8) (b_2:B8) (b_3:TV) (b_4:B8) (st:St) (K:Bool->St->Prop) (h:BId (a_0≠b_0) (K false st) (BId (a_1≠b_1) (K false st) (BId (a_2≠b_2) (K false st) (BId (a_4≠b_4) (K false st) (need (isSl a_3) (need (isSl b_3) (BId ((lenS a_3:Int)≠(lenS b_3:Int)) (K false st) (∃(I1:Int->Int->B8->B8->TV->B8->Int->B8->B8->TV->B8->St->Prop) (M1:Int->Int->B8->B8->TV->B8->Int->B8->B8->TV->B8->St->Nat),(I1 0 a_0 a_1 a_2 a_3 a_4 b_0 b_1 b_2 b_3 b_4 st)/\∀a n1 s1 s2 v1 s3 n2 s4 s5 v2 s6 b,I1 a n1 s1 s2 v1 s3 n2 s4 s5 v2 s6 b->(need (isSl v1) (BId (a<(lenS v1:Int)) (((0<=a/\a<(lenZ 5 v1:Int))/\Ag ((Aj CA [] (.t (ixT 5 v1 a.toNat)) 0 5).map TV.agg) (fun (x1:TV)=>AW [.int .i64,.str,.str,.tv,.str] x1 (fun (n3:Int) (s7 s8:B8) (v3:TV) (s9:B8)=>((0<=a/\a<(lenZ 5 v2:Int))/\Ag ((Aj CA [] (.t (ixT 5 v2 a.toNat)) 0 5).map TV.agg) (fun (x2:TV)=>AW [.int .i64,.str,.str,.tv,.str] x2 (fun (n4:Int) (f e:B8) (v4:TV) (d:B8)=>CallT PR B3 [(.agg [.int .i64 n3,.str s7,.str s8,v3,.str s9]),(.agg [.int .i64 n4,.str f,.str e,v4,.str d])] [.one .bool] b (fun (b1:Bool) c=>BIf (!b1) (K false c) ((I1 ((i64.wrap (a+(1:Int)))) n1 s1 s2 v1 s3 n2 s4 s5 v2 s6 c/\M1 ((i64.wrap (a+(1:Int)))) n1 s1 s2 v1 s3 n2 s4 s5 v2 s6 c<M1 a n1 s1 s2 v1 s3 n2 s4 s5 v2 s6 b)))))))))) (K true b))))))))))):CallT PR B3 [(.agg [.int .i64 a_0,.str a_1,.str a_2,a_3,.str a_4]),(.agg [.int .i64 b_0,.str b_1,.str b_2,b_3,.str b_4])] [.one .bool] st K:=
 Ae (cfg:=⟨[2,3],[],[]⟩) (h:=(.seq .none (.seq .none (.seq (.seq .none (.block (.loop ⟨[(5,.int .i64)],[(2,0,0),(3,1,0)],[(0,5),(1,5)],[(0,0,.int .i64),(0,1,.str),(0,2,.str),(0,3,.tv),(0,4,.str),(1,0,.int .i64),(1,1,.str),(1,2,.str),(1,3,.tv),(1,4,.str)]⟩ .none))) .none)))) mixed (fun _ _=>Tryz.call177 _ _) Tryz.func177 (by kernel_rfl) (by kernel_rfl) h
theorem Ie (p:Nat) (depth:Int) (st:St) (K:Bool->St->Prop) (h:Ag (Ac st [] (.t (.box p 5)) 0) (fun (x1:TV)=>Af (.int .i64) x1 (fun (n1:Int)=>BId (n1<depth) (Ag (Ac st [] (.t (.box p 10)) 0) (fun (x2:TV)=>Af (.int .i64) x2 (fun (n2:Int)=>CallT PR Al [(.box p 0),.int .i64 n2,.int .i64 9] [.one .bool] st (fun (b1:Bool) b=>K b1 b)))) (Ag (Ac st [] (.t (.box p 11)) 0) (fun (x3:TV)=>Af (.int .i64) x3 (fun (n3:Int)=>Ag (Ac st [] (.t (.box p 6)) 0) (fun (x4:TV)=>Af (.int .i64) x4 (fun (n4:Int)=>BId (n4<=n3) (Ag (Ac st [] (.t (.box p 10)) 0) (fun (x5:TV)=>Af (.int .i64) x5 (fun (n5:Int)=>CallT PR Al [(.box p 0),.int .i64 n5,.int .i64 10] [.one .bool] st (fun (b2:Bool) c=>K b2 c)))) (Ag (Ac st [] (.t (.box p 11)) 0) (fun (x6:TV)=>Af (.int .i64) x6 (fun (n6:Int)=>stB st (.box p 11) [(.int .i64 (i64.wrap (n6+(1:Int))))] (fun a=>K true a)))))))))))):CallT PR Bd [(.box p 0),.int .i64 depth] [.one .bool] st K:=
 Ae (cfg:=⟨[],[],[]⟩) (h:= .none) mixed (fun _ _=>Tryz.call191 _ _) Tryz.func191 (by kernel_rfl) (by kernel_rfl) h
theorem IK (p:Nat) (atx:Int) (e:Int) (st:St) (K:Bool->St->Prop) (h:stB st (.box p 14) [.int .i64 atx] (fun a=>stB a (.box p 15) [.int .i64 e] (fun b=>K false b))):CallT PR Al [(.box p 0),.int .i64 atx,.int .i64 e] [.one .bool] st K:=
 Ae (cfg:=⟨[],[],[]⟩) (h:= .none) mixed (fun _ _=>Tryz.call192 _ _) Tryz.func192 (by kernel_rfl) (by kernel_rfl) h
theorem If (p:Nat) (header:Bool) (st:St) (K:Int->B8->B8->TV->B8->Bool->St->Prop) (h:BIf (!header) (CallT PR Bd [(.box p 0),.int .i64 3] [.one .bool] st (fun (b1:Bool) c1=>BIf (!b1) (K 5 [] [] .nilSlice [] false c1) (Ag (Ac c1 [] (.t (.box p 10)) 0) (fun (x1:TV)=>Af (.int .i64) x1 (fun (n1:Int)=>CallT PR BZ [(.box p 0)] [.one .bool] c1 (fun (b2:Bool) a0=>BIf (!b2) (K 5 [] [] .nilSlice [] false a0) (Ag (Ac a0 [] (.t (.box p 0)) 0) (fun (x2:TV)=>Af .str x2 (fun (s1:B8)=>Ag (Ac a0 [] (.t (.box p 10)) 0) (fun (x3:TV)=>Af (.int .i64) x3 (fun (n2:Int)=>((0<=n1/\n1<=n2/\n2<=(s1.length:Int))/\Ag ((Aj a0 [] (.t (.box p 1)) 0 4).map TV.agg) (fun (x4:TV)=>AW [.int .u8,.int .u8,.bool,.bool] x4 (fun (n3 n4:Int) (b3 b4:Bool)=>CallT PR CJ [(.str (List.drop n1.toNat (List.take n2.toNat s1))),(.agg [.int .u8 n3,.int .u8 n4,.bool b3,.bool b4])] [.one .str,.one .bool] a0 (fun (s2:B8) (b5:Bool) c8=>∃(C1:Int->TV->Bool->Int->B8->B8->Int->B8->B8->TV->B8->St->Prop),(BIf header (C1 1024 ((.box p 0)) header n1 ((List.drop n1.toNat (List.take n2.toNat s1))) s2 5 [] [] .nilSlice [] c8) (C1 65536 ((.box p 0)) header n1 ((List.drop n1.toNat (List.take n2.toNat s1))) s2 5 [] [] .nilSlice [] c8))/\∀a1 a q n w a6 n5 s3 s4 v1 s5 m,C1 a1 a q n w a6 n5 s3 s4 v1 s5 m->(BId (a1<(a6.length:Int)) (CallT PR Al [a,.int .i64 n,.int .i64 10] [.one .bool] m (fun (b6:Bool) h9=>need (List.all [.int .i64 n5,.str s3,.str s4,v1,.str s5] Ap) (K n5 s3 s4 v1 s5 b6 h9))) (BIf q (need (isPtr a) (need (isPtr a) (Ag (Ac m [] (.t (Ao a 13)) 0) (fun (v2:TV)=>Ag (Je m v2) (fun (es1:List (B8×TV))=>Af .bool (L8 (.bool false) (Dm a6 es1)) (fun (b7:Bool)=>BIf b7 (CallT PR Al [a,.int .i64 n,.int .i64 8] [.one .bool] m (fun (b8:Bool) e6=>need (List.all [.int .i64 n5,.str s3,.str s4,v1,.str s5] Ap) (K n5 s3 s4 v1 s5 b8 e6))) (need (isPtr a) (need (isPtr a) (Ag (Ac m [] (.t (Ao a 13)) 0) (fun (v3:TV)=>muK v3 a6 (.bool true) m (fun f5=>AU 79 5 80 v1 1 [.int .i64 2,(.str []),.str w,.nilSlice,(.str [])] f5 (fun (v4:TV) l=>need (List.all [v4] Ap) (need (isPtr a) (need (isPtr a) (Ag (Ac l [] (.t (Ao a 10)) 0) (fun (x7:TV)=>Af (.int .i64) x7 (fun (n6:Int)=>need (isPtr a) (need (isPtr a) (Ag (Ac l [] (.t (Ao a 0)) 0) (fun (x8:TV)=>Af .str x8 (fun (s6:B8)=>BId (n6<(s6.length:Int)) (need (isPtr a) (need (isPtr a) (Ag (Ac l [] (.t (Ao a 0)) 0) (fun (x9:TV)=>Af .str x9 (fun (s7:B8)=>need (isPtr a) (need (isPtr a) (Ag (Ac l [] (.t (Ao a 10)) 0) (fun (g2:TV)=>Af (.int .i64) g2 (fun (n7:Int)=>((0<=n7/\n7<(s7.length:Int))/\need (isPtr a) (need (isPtr a) (need (isPtr (Ao a 1)) (Ag (Ac l [] (.t (Ao (Ao a 1) 0)) 0) (fun (f9:TV)=>Af (.int .u8) f9 (fun (n8:Int)=>BId (((List.getD s7 n7.toNat 0).toNat:Int)=n8) (need (isPtr a) (need (isPtr a) (Ag (Ac l [] (.t (Ao a 10)) 0) (fun (i2:TV)=>Af (.int .i64) i2 (fun (n9:Int)=>need (isPtr a) (need (isPtr a) (stB l (Ao a 10) [(.int .i64 (i64.wrap (n9+(1:Int))))] (fun c4=>need (isPtr a) (need (isPtr a) (need (isPtr (Ao a 1)) (Ag (Ac c4 [] (.t (Ao (Ao a 1) 0)) 0) (fun (g8:TV)=>Af (.int .u8) g8 (fun (e1:Int)=>Ag ((toBytes c4 (.list 1 .full 1 [.int .u8 e1])).map TV.str) (fun (h3:TV)=>Af .str h3 (fun (s8:B8)=>AU 79 5 80 v4 1 [.int .i64 11,(.str []),.str s8,.nilSlice,(.str [])] c4 (fun (v5:TV) d5=>need (List.all [v5] Ap) (need (List.all [.int .i64 n5,.str s3,.str s4,v5,.str s5] Ap) (K n5 s3 s4 v5 s5 true d5)))))))))))))))))) (need (List.all [.int .i64 n5,.str s3,.str s4,v4,.str s5] Ap) (K n5 s3 s4 v4 s5 true l))))))))))))))))) (need (List.all [.int .i64 n5,.str s3,.str s4,v4,.str s5] Ap) (K n5 s3 s4 v4 s5 true l))))))))))))))))))))))) (AU 79 5 80 v1 1 [.int .i64 2,(.str []),.str w,.nilSlice,(.str [])] m (fun (v6:TV) g=>need (List.all [v6] Ap) (need (isPtr a) (need (isPtr a) (Ag (Ac g [] (.t (Ao a 10)) 0) (fun (f7:TV)=>Af (.int .i64) f7 (fun (i8:Int)=>need (isPtr a) (need (isPtr a) (Ag (Ac g [] (.t (Ao a 0)) 0) (fun (f4:TV)=>Af .str f4 (fun (s9:B8)=>BId (i8<(s9.length:Int)) (need (isPtr a) (need (isPtr a) (Ag (Ac g [] (.t (Ao a 0)) 0) (fun (j3:TV)=>Af .str j3 (fun (c9:B8)=>need (isPtr a) (need (isPtr a) (Ag (Ac g [] (.t (Ao a 10)) 0) (fun (d8:TV)=>Af (.int .i64) d8 (fun (a9:Int)=>((0<=a9/\a9<(c9.length:Int))/\need (isPtr a) (need (isPtr a) (need (isPtr (Ao a 1)) (Ag (Ac g [] (.t (Ao (Ao a 1) 0)) 0) (fun (i9:TV)=>Af (.int .u8) i9 (fun (f2:Int)=>BId (((List.getD c9 a9.toNat 0).toNat:Int)=f2) (need (isPtr a) (need (isPtr a) (Ag (Ac g [] (.t (Ao a 10)) 0) (fun (h7:TV)=>Af (.int .i64) h7 (fun (g0:Int)=>need (isPtr a) (need (isPtr a) (stB g (Ao a 10) [(.int .i64 (i64.wrap (g0+(1:Int))))] (fun a3=>need (isPtr a) (need (isPtr a) (need (isPtr (Ao a 1)) (Ag (Ac a3 [] (.t (Ao (Ao a 1) 0)) 0) (fun (e3:TV)=>Af (.int .u8) e3 (fun (h5:Int)=>Ag ((toBytes a3 (.list 1 .full 1 [.int .u8 h5])).map TV.str) (fun (f1:TV)=>Af .str f1 (fun (g4:B8)=>AU 79 5 80 v6 1 [.int .i64 11,(.str []),.str g4,.nilSlice,(.str [])] a3 (fun (v7:TV) d6=>need (List.all [v7] Ap) (need (List.all [.int .i64 n5,.str s3,.str s4,v7,.str s5] Ap) (K n5 s3 s4 v7 s5 true d6)))))))))))))))))) (need (List.all [.int .i64 n5,.str s3,.str s4,v6,.str s5] Ap) (K n5 s3 s4 v6 s5 true g))))))))))))))))) (need (List.all [.int .i64 n5,.str s3,.str s4,v6,.str s5] Ap) (K n5 s3 s4 v6 s5 true g)))))))))))))))))))))))))))))) (Ag (Ac st [] (.t (.box p 10)) 0) (fun (j0:TV)=>Af (.int .i64) j0 (fun (u:Int)=>CallT PR BZ [(.box p 0)] [.one .bool] st (fun (b9:Bool) o=>BIf (!b9) (K 5 [] [] .nilSlice [] false o) (Ag (Ac o [] (.t (.box p 0)) 0) (fun (h2:TV)=>Af .str h2 (fun (a8:B8)=>Ag (Ac o [] (.t (.box p 10)) 0) (fun (j1:TV)=>Af (.int .i64) j1 (fun (a2:Int)=>((0<=u/\u<=a2/\a2<=(a8.length:Int))/\Ag ((Aj o [] (.t (.box p 1)) 0 4).map TV.agg) (fun (g7:TV)=>AW [.int .u8,.int .u8,.bool,.bool] g7 (fun (i5 i3:Int) (g9 d9:Bool)=>CallT PR CJ [(.str (List.drop u.toNat (List.take a2.toNat a8))),(.agg [.int .u8 i5,.int .u8 i3,.bool g9,.bool d9])] [.one .str,.one .bool] o (fun (c7:B8) (k0:Bool) c0=>∃(C2:Int->TV->Bool->Int->B8->B8->Int->B8->B8->TV->B8->St->Prop),(BIf header (C2 1024 ((.box p 0)) header u ((List.drop u.toNat (List.take a2.toNat a8))) c7 5 [] [] .nilSlice [] c0) (C2 65536 ((.box p 0)) header u ((List.drop u.toNat (List.take a2.toNat a8))) c7 5 [] [] .nilSlice [] c0))/\∀z b r v s a7 f e d v8 c k,C2 z b r v s a7 f e d v8 c k->(BId (z<(a7.length:Int)) (CallT PR Al [b,.int .i64 v,.int .i64 10] [.one .bool] k (fun (e2:Bool) d7=>need (List.all [.int .i64 f,.str e,.str d,v8,.str c] Ap) (K f e d v8 c e2 d7))) (BIf r (need (isPtr b) (need (isPtr b) (Ag (Ac k [] (.t (Ao b 13)) 0) (fun (v9:TV)=>Ag (Je k v9) (fun (es2:List (B8×TV))=>Af .bool (L8 (.bool false) (Dm a7 es2)) (fun (f3:Bool)=>BIf f3 (CallT PR Al [b,.int .i64 v,.int .i64 8] [.one .bool] k (fun (e4:Bool) d1=>need (List.all [.int .i64 f,.str e,.str d,v8,.str c] Ap) (K f e d v8 c e4 d1))) (need (isPtr b) (need (isPtr b) (Ag (Ac k [] (.t (Ao b 13)) 0) (fun (h1:TV)=>muK h1 a7 (.bool true) k (fun d2=>AU 79 5 80 v8 1 [.int .i64 2,(.str []),.str s,.nilSlice,(.str [])] d2 (fun (y:TV) i=>need (List.all [y] Ap) (need (isPtr b) (need (isPtr b) (Ag (Ac i [] (.t (Ao b 10)) 0) (fun (j5:TV)=>Af (.int .i64) j5 (fun (e8:Int)=>need (isPtr b) (need (isPtr b) (Ag (Ac i [] (.t (Ao b 0)) 0) (fun (j7:TV)=>Af .str j7 (fun (j8:B8)=>BId (e8<(j8.length:Int)) (need (isPtr b) (need (isPtr b) (Ag (Ac i [] (.t (Ao b 0)) 0) (fun (g3:TV)=>Af .str g3 (fun (d0:B8)=>need (isPtr b) (need (isPtr b) (Ag (Ac i [] (.t (Ao b 10)) 0) (fun (i4:TV)=>Af (.int .i64) i4 (fun (c5:Int)=>((0<=c5/\c5<(d0.length:Int))/\need (isPtr b) (need (isPtr b) (need (isPtr (Ao b 1)) (Ag (Ac i [] (.t (Ao (Ao b 1) 0)) 0) (fun (f8:TV)=>Af (.int .u8) f8 (fun (e0:Int)=>BId (((List.getD d0 c5.toNat 0).toNat:Int)=e0) (need (isPtr b) (need (isPtr b) (Ag (Ac i [] (.t (Ao b 10)) 0) (fun (h8:TV)=>Af (.int .i64) h8 (fun (e5:Int)=>need (isPtr b) (need (isPtr b) (stB i (Ao b 10) [(.int .i64 (i64.wrap (e5+(1:Int))))] (fun a4=>need (isPtr b) (need (isPtr b) (need (isPtr (Ao b 1)) (Ag (Ac a4 [] (.t (Ao (Ao b 1) 0)) 0) (fun (i6:TV)=>Af (.int .u8) i6 (fun (i1:Int)=>Ag ((toBytes a4 (.list 1 .full 1 [.int .u8 i1])).map TV.str) (fun (i7:TV)=>Af .str i7 (fun (g5:B8)=>AU 79 5 80 y 1 [.int .i64 11,(.str []),.str g5,.nilSlice,(.str [])] a4 (fun (b0:TV) d3=>need (List.all [b0] Ap) (need (List.all [.int .i64 f,.str e,.str d,b0,.str c] Ap) (K f e d b0 c true d3)))))))))))))))))) (need (List.all [.int .i64 f,.str e,.str d,y,.str c] Ap) (K f e d y c true i))))))))))))))))) (need (List.all [.int .i64 f,.str e,.str d,y,.str c] Ap) (K f e d y c true i))))))))))))))))))))))) (AU 79 5 80 v8 1 [.int .i64 2,(.str []),.str s,.nilSlice,(.str [])] k (fun (x:TV) j=>need (List.all [x] Ap) (need (isPtr b) (need (isPtr b) (Ag (Ac j [] (.t (Ao b 10)) 0) (fun (f0:TV)=>Af (.int .i64) f0 (fun (h0:Int)=>need (isPtr b) (need (isPtr b) (Ag (Ac j [] (.t (Ao b 0)) 0) (fun (j9:TV)=>Af .str j9 (fun (h6:B8)=>BId (h0<(h6.length:Int)) (need (isPtr b) (need (isPtr b) (Ag (Ac j [] (.t (Ao b 0)) 0) (fun (e7:TV)=>Af .str e7 (fun (c6:B8)=>need (isPtr b) (need (isPtr b) (Ag (Ac j [] (.t (Ao b 10)) 0) (fun (e9:TV)=>Af (.int .i64) e9 (fun (c3:Int)=>((0<=c3/\c3<(c6.length:Int))/\need (isPtr b) (need (isPtr b) (need (isPtr (Ao b 1)) (Ag (Ac j [] (.t (Ao (Ao b 1) 0)) 0) (fun (j4:TV)=>Af (.int .u8) j4 (fun (g1:Int)=>BId (((List.getD c6 c3.toNat 0).toNat:Int)=g1) (need (isPtr b) (need (isPtr b) (Ag (Ac j [] (.t (Ao b 10)) 0) (fun (h4:TV)=>Af (.int .i64) h4 (fun (j2:Int)=>need (isPtr b) (need (isPtr b) (stB j (Ao b 10) [(.int .i64 (i64.wrap (j2+(1:Int))))] (fun a5=>need (isPtr b) (need (isPtr b) (need (isPtr (Ao b 1)) (Ag (Ac a5 [] (.t (Ao (Ao b 1) 0)) 0) (fun (j6:TV)=>Af (.int .u8) j6 (fun (g6:Int)=>Ag ((toBytes a5 (.list 1 .full 1 [.int .u8 g6])).map TV.str) (fun (i0:TV)=>Af .str i0 (fun (f6:B8)=>AU 79 5 80 x 1 [.int .i64 11,(.str []),.str f6,.nilSlice,(.str [])] a5 (fun (c2:TV) d4=>need (List.all [c2] Ap) (need (List.all [.int .i64 f,.str e,.str d,c2,.str c] Ap) (K f e d c2 c true d4)))))))))))))))))) (need (List.all [.int .i64 f,.str e,.str d,x,.str c] Ap) (K f e d x c true j))))))))))))))))) (need (List.all [.int .i64 f,.str e,.str d,x,.str c] Ap) (K f e d x c true j))))))))))))))))))))))))))))):CallT PR AO [(.box p 0),.bool header] [.agg [.int .i64,.str,.str,.tv,.str],.one .bool] st K:=
 Ae (cfg:=⟨[4,6],[],[]⟩) (h:=(.seq .none (.seq .none (.seq .none (.seq .none (.seq .none (.seq .none (.seq .none (.seq .none (.cut ⟨[(11,.int .i64),(0,.tv),(1,.bool),(7,.int .i64),(8,.str),(9,.str)],[(4,0,0),(6,1,0)],[(0,5),(1,5)],[(1,0,.int .i64),(1,1,.str),(1,2,.str),(1,3,.tv),(1,4,.str)]⟩ .none .none)))))))))) mixed (fun _ _=>Tryz.call193 _ _) Tryz.func193 (by kernel_rfl) (by kernel_rfl) h
end Go.TVF
