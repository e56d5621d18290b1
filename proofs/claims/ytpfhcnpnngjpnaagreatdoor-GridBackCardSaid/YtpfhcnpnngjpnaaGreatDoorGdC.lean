/- What the laws below rest on: a framework for Go programs, and contracts of the functions that they reach. -/
import Derived.Test.YtpfhcnpnngjpnaaGreatDoorGdB
import Derived.Deep.Slices
import Derived.WideShapes
import Derived.ChangeArms
import Derived.OpenShut
import Derived.Test.YtpfhcnpnngjpnaaGreatDoorProg
import Derived.KernelRfl
set_option maxRecDepth 20000
set_option linter.unusedVariables false
set_option linter.unusedSimpArgs false
section
namespace Go.TVF
open Go.IntKind(i64 u8)
open Go.RowKit (Below)
theorem QI {P:Program} {Q:Exit->Act->World->Prop} {a:Act} {w:World} {c:Code} (I:Nat->Act->World->Prop) (h₀:∃m,I m a w)
  (round:∀m a w,I m a w->c.wp P (Exit.then (fun a' w'=>∃m',m'<m/\I m' a' w') Q) a w):(Code.loop c).wp P Q a w:=by
 intro b k cs
 have key:∀m a w,I m a w->∃e a' w',Q e a' w'/\Arrives P (lone (b.at a (.code c:: .inLoop c::k)) cs w) b k cs e a' w':=by
  intro m
  induction m using Nat.strongRecOn with
  | _ m ih=>
   intro a w hI
   obtain⟨e,a₁,w₁,hq,harr⟩:=round m a w hI b (.inLoop c::k) cs
   cases e with
   | normal=>
    obtain⟨m',hlt,hI₁⟩:=hq
    obtain⟨e₂,a₂,w₂,hq₂,harr₂⟩:=ih m' hlt a₁ w₁ hI₁
    exact⟨e₂,a₂,w₂,hq₂,.of_steps (Steps.trans harr (.one step_inLoop)) harr₂⟩
   | exit id=>exact⟨_,a₁,w₁,hq,.pass (x:= .inLoop c) rfl (fun _ _=> .inl (by simp)) harr⟩
   | goto l=>exact⟨_,a₁,w₁,hq,.pass (x:= .inLoop c) rfl (fun _ _=> .inl (by simp)) harr⟩
   | ret=>exact⟨_,a₁,w₁,hq,.pass (x:= .inLoop c) rfl (fun _ _=> .inl (by simp)) harr⟩
   | panic ch=>exact⟨_,a₁,w₁,hq,.pass (x:= .inLoop c) rfl (fun _ _=> .inl (by simp)) harr⟩
   | outgrown=>exact⟨_,a₁,w₁,hq,.pass (x:= .inLoop c) rfl (fun _ _=> .inl (by simp)) harr⟩
 obtain⟨m,hm⟩:=h₀
 obtain⟨e,a',w',hq,harr⟩:=key m a w hm
 exact⟨e,a',w',hq,.of_steps (.one step_loop) harr⟩
theorem NQ:∀{cs:List CTy} {vs:List TV} {I:Fun cs (St->Prop)} {M:Fun cs (St->Nat)} {B:List TV->Nat->St->Prop} {st:St},AllC cs I M B->IS cs vs I (fun p=>p st)->∃m,B vs m st
 | [],[],I,M,B,st,h,hd=>⟨_,h st hd⟩
 | [],_::_,I,M,B,st,h,hd=>hd.elim
 | _::_,[],I,M,B,st,h,hd=>hd.elim
 | c::cs,v::vs,I,M,B,st,h,hd=>by
  obtain⟨y,rfl,hd2⟩:=Dp hd
  exact NQ (B:=fun l=>B (enc c y::l)) (h y) hd2
theorem Pq:∀{cs:List CTy} {vs:List TV} {I:Fun cs (St->Prop)} {M:Fun cs (St->Nat)} {B:List TV->Nat->St->Prop} {st:St} {m:Nat},AllC cs I M B->R6 cs vs I M (fun p q=>p st/\q st<m)->∃m',m'<m/\B vs m' st
 | [],[],I,M,B,st,m,h,hd=>⟨_,hd.2,h st hd.1⟩
 | [],_::_,I,M,B,st,m,h,hd=>hd.elim
 | _::_,[],I,M,B,st,m,h,hd=>hd.elim
 | c::cs,v::vs,I,M,B,st,m,h,hd=>by
  obtain⟨y,rfl,hd2⟩:=Dp hd
  exact Pq (B:=fun l=>B (enc c y::l)) (h y) hd2
theorem LI:∀{cs:List CTy} {vs:List TV} {I:Fun cs (St->Prop)} {B:List TV->St->Prop} {st:St},X1 cs I B->IS cs vs I (fun p=>p st)->B vs st
 | [],[],I,B,st,h,hd=>h st hd
 | [],_::_,I,B,st,h,hd=>hd.elim
 | _::_,[],I,B,st,h,hd=>hd.elim
 | c::cs,v::vs,I,B,st,h,hd=>by
  obtain⟨y,rfl,hd2⟩:=Dp hd
  exact LI (B:=fun l=>B (enc c y::l)) (h y) hd2
def QPost (g:Ghost) (w:World) (a0:Act) (Q:Exit->Fr->St->Prop) (e:Exit) (a:Act) (w':World):Prop:=IW g w a0 (Q e) a w'
section
variable {P:Program} {cfg:Cfg} {ns nl:Nat}
theorem VU (hm:P.follows .mixedOrders=true):∀(c:Code) (h:If) (Q:Exit->Fr->St->Prop) (fr:Fr) (st:St) (g:Ghost) (w:World) (a:Act),cwp cfg P ns nl c h Q fr st->Sim g st fr.loc w->FA g w fr a.tmps->a.tmps.size=ns->
  c.wp P (QPost g w a Q) a w:=by
 intro c
 induction c with
 | skip=>intro h Q fr st g w a hc s hf hn;exact wp_skip ⟨fr,st,g,hc,s,hf,Ext.refl _ _,rfl,rfl⟩
 | region id ops draw=>
  intro h Q fr st g w a hc s hf hn
  cases draw with
  | false=>exact wp_region_list (Ls ops.toList fr st g w a hc s hf fun a' w' hp=>hp)
  | true=>exact Qe hm hc s hf fun a' w' hp=>hp
 | seq x y ihx ihy=>
  intro h Q fr st g w a hc s hf hn
  have key:∀(hx hy:If),cwp cfg P ns nl x hx (Q2 (cwp cfg P ns nl y hy Q) Q) fr st->(Code.seq x y).wp P (QPost g w a Q) a w:=by
   intro hx hy hcx
   refine wp_seq (wp_mono (ihx hx _ fr st g w a hcx s hf hn) fun e a' w' hq=>?_)
   obtain⟨fr',st',g',h1,h2,h3,h4,h5⟩:=hq
   cases e with
   | normal=>
    refine wp_mono (ihy hy Q fr' st' g' w' a' h1 h2 h3 (h5.2.trans hn)) fun e a'' w'' hq2=>?_
    exact hq2.ext h4 h5
   | _=>exact⟨fr',st',g',h1,h2,h3,h4,h5⟩
  cases h with
  | cut k hx hy=>
   obtain⟨R,h1,h2⟩:=hc
   refine wp_seq (wp_mono (ihx hx _ fr st g w a h1 s hf hn) fun e a' w' hq=>?_)
   obtain⟨fr',st',g',q1,q2,q3,q4,q5⟩:=hq
   cases e with
   | normal=>
    have q1':need (k.ok nl fr') (IS k.tys (k.vals fr') R fun p=>p st'):=q1
    rw[As]at q1'
    obtain⟨w1,w2⟩:=Ep.weak (ns:=ns) q1'.1 q2 q3 (q5.2.trans hn)
    have hb:=LI h2 q1'.2
    exact wp_mono (ihy hy Q _ st' g' w' a' hb w1 w2 (q5.2.trans hn)) fun e a'' w'' hq2=>hq2.ext q4 q5
   | _=>exact⟨fr',st',g',q1,q2,q3,q4,q5⟩
  | none=>exact key _ _ hc
  | seq p q=>exact key _ _ hc
  | cond p q=>exact key _ _ hc
  | block p=>exact key _ _ hc
  | loop k p=>exact key _ _ hc
 | cond c x y ihx ihy=>
  intro h Q fr st g w a hc s hf hn
  simp only[cwp]at hc
  split at hc
  ·rename_i b hb
   have hr:=PU hf c
   rw[hb]at hr
   have hr':Rel g w (.bool b) (a.eval c):=hr
   have hev:a.eval c= .bool b:=by generalize a.eval c=q at hr';cases hr';rfl
   cases b with
   | true=>exact wp_cond_true hev (ihx h.l Q fr st g w a hc s hf hn)
   | false=>exact wp_cond_false hev (ihy h.r Q fr st g w a hc s hf hn)
  ·exact hc.elim
 | block id x ih=>
  intro h Q fr st g w a hc s hf hn
  refine wp_block (wp_mono (ih h.l (TU id Q) fr st g w a hc s hf hn) fun e a' w' hq=>?_)
  obtain⟨fr',st',g',h1,h2,h3,h4,h5⟩:=hq
  cases e with
  | exit id'=>
   simp only[TU]at h1
   by_cases hid:id'=id
   ·subst hid
    have hbe:(id'.beq id')=true:=Nat.beq_refl id'
    simp only[hbe]at h1
    simp only[Exit.inBlock,if_true]
    exact⟨fr',st',g',h1,h2,h3,h4,h5⟩
   ·have hbe:(id'.beq id)=false:=by
     cases hq:id'.beq id with
     | false=>rfl
     | true=>exact absurd (Nat.eq_of_beq_eq_true hq) hid
    simp only[hbe]at h1
    simp only[Exit.inBlock,hid,if_false]
    exact⟨fr',st',g',h1,h2,h3,h4,h5⟩
  | _=>exact⟨fr',st',g',h1,h2,h3,h4,h5⟩
 | loop x ih=>
  intro h Q fr st g w a hc s hf hn
  cases h with
  | loop k hx=>
   obtain⟨I,M,h1,h2⟩:=hc
   rw[As]at h1
   refine QI (fun m a' w'=>∃vals st' g',cwp cfg P ns nl x hx (Q2 (fun fr st=>need (k.ok nl fr) (R6 k.tys (k.vals fr) I M fun p q=>p st/\q st<m)) Q) (k.frame ns nl vals) st'/\
    Sim g' st' (k.frame ns nl vals).loc w'/\FA g' w' (k.frame ns nl vals) a'.tmps/\Ext g w g' w'/\a'.defers=a.defers/\a'.tmps.size=a.tmps.size) ?_ ?_
   ·obtain⟨m,hm⟩:=NQ h2 h1.2
    obtain⟨w1,w2⟩:=Ep.weak (ns:=ns) h1.1 s hf hn
    exact⟨m,_,st,g,hm,w1,w2,Ext.refl _ _,rfl,rfl⟩
   ·rintro m a' w' ⟨vals,st',g',q1,q2,q3,q4,q5⟩
    refine wp_mono (ih hx _ _ st' g' w' a' q1 q2 q3 (q5.2.trans hn)) fun e a'' w'' hq=>?_
    obtain⟨fr2,st2,g2,r1,r2,r3,r4,r5⟩:=hq
    cases e with
    | normal=>
     have r1':need (k.ok nl fr2) (R6 k.tys (k.vals fr2) I M fun p q=>p st2/\q st2<m):=r1
     rw[As]at r1'
     obtain⟨m',hlt,hB⟩:=Pq h2 r1'.2
     obtain⟨w1,w2⟩:=Ep.weak (ns:=ns) r1'.1 r2 r3 (r5.2.trans (q5.2.trans hn))
     exact⟨m',hlt,_,st2,g2,hB,w1,w2,q4.trans r4,r5.1.trans q5.1,r5.2.trans q5.2⟩
    | _=>exact⟨fr2,st2,g2,r1,r2,r3,q4.trans r4,r5.1.trans q5.1,r5.2.trans q5.2⟩
  | _=>exact hc.elim
 | exit id=>intro h Q fr st g w a hc s hf hn;exact wp_exit ⟨fr,st,g,hc,s,hf,Ext.refl _ _,rfl,rfl⟩
 | ret=>intro h Q fr st g w a hc s hf hn;exact wp_ret ⟨fr,st,g,hc,s,hf,Ext.refl _ _,rfl,rfl⟩
 | _=>intro h Q fr st g w a hc s hf hn;exact hc.elim
def KP (P:Program) (fr:Fr) (st:St):ResultVar->Option TV
 | .tmp t=>some (KL fr t)
 | .cell a t=>match Jt P t with
  | some true=>match P.cellsOf t with
   | 0=>none
   | n=>(Ah st fr.loc (fr.slots.f a) 0 n).map .agg
  | some false=>Ac st fr.loc (fr.slots.f a) 0
  | none=>none
def HY (P:Program) (fr:Fr) (st:St):List ResultVar->Option (List TV)
 | []=>some []
 | r::rs=>match KP P fr st r with
  | some v=>(HY P fr st rs).map (v::·)
  | none=>none
def SE:List TV->TV
 | [v]=>v
 | vs=> .tuple vs
def resT (P:Program) (fn:Func) (fr:Fr) (st:St):Option TV:=(HY P fr st fn.results.toList).map SE
def PW (P:Program) (fr:Fr) (st:St) (r:ResultVar) (k:TV->Prop):Prop:=
 match r with
 | .tmp t=>k (KL fr t)
 | .cell a t=>match Jt P t with
  | some true=>match P.cellsOf t with
   | 0=>False
   | n=>Ae ((Ah st fr.loc (fr.slots.f a) 0 n).map .agg) k
  | some false=>Ae (Ac st fr.loc (fr.slots.f a) 0) k
  | none=>False
def JU (P:Program) (fr:Fr) (st:St):List ResultVar->(List TV->Prop)->Prop
 | [],k=>k []
 | r::rs,k=>PW P fr st r fun v=>JU P fr st rs fun vs=>k (v::vs)
theorem Oe {P:Program} {fr:Fr} {st:St} {r:ResultVar} {k:TV->Prop} (h:PW P fr st r k):∃v,KP P fr st r=some v/\k v:=by
 cases r with
 | tmp t=>exact⟨_,rfl,h⟩
 | cell a t=>
  unfold PW at h
  unfold KP
  simp only at h⊢
  cases ha:Jt P t with
  | none=>rw[ha]at h;exact h.elim
  | some b=>
   rw[ha]at h
   cases b with
   | true=>
    simp only at h⊢
    cases hn:P.cellsOf t with
    | zero=>rw[hn]at h;exact h.elim
    | succ n=>
     rw[hn]at h
     exact C9.1 h
   | false=>exact C9.1 h
theorem IG {P:Program} {fr:Fr} {st:St}:∀{rs:List ResultVar} {k:List TV->Prop},JU P fr st rs k->∃vs,HY P fr st rs=some vs/\k vs
 | [],k,h=>⟨[],rfl,h⟩
 | r::rs,k,h=>by
  obtain⟨v,h1,h2⟩:=Oe h
  obtain⟨vs,h3,h4⟩:=IG h2
  exact⟨v::vs,by simp[HY,h1,h3],h4⟩
def retQ (P:Program) (fn:Func) (R:TV->St->Prop):Exit->Fr->St->Prop
 | .normal,fr,st=>JU P fr st fn.results.toList fun vs=>R (SE vs) st
 | .ret,fr,st=>JU P fr st fn.results.toList fun vs=>R (SE vs) st
 | _,_,_=>False
def G3 (cfg:Cfg) (fn:Func) (args:List TV):Fr:=⟨⟨fn.ntmps,fun i=>match args[i]? with | some v=> .t v | none=> .t .undef⟩,cfg.loc.map fun _=>none⟩
theorem PV {g:Ghost} {st:St} {w:World} {fr:Fr} {tmps:Array Value} (s:Sim g st fr.loc w) (hf:FA g w fr tmps) {r:ResultVar} {v:TV} (h:KP P fr st r=some v):
  ∃u,(match r with | .tmp t=>pure (tmps.getD t Go.undef) | .cell a t=>do loadVar t (<-asAddr (tmps.getD a Go.undef)):Sem Value).run P w= .ok u w/\Rel g w v u:=by
 cases r with
 | tmp t=>
  simp only[KP,Option.some.injEq]at h
  subst h
  exact⟨_,rfl,(hf.2 t).tv⟩
 | cell a t=>
  simp only[KP]at h
  have hld:∀p,Bi g w fr.loc p (tmps.getD a Go.undef)->(DC P st fr.loc t p).Is (.t v)->∃u,(do loadVar t (<-asAddr (tmps.getD a Go.undef)):Sem Value).run P w= .ok u w/\Rel g w v u:=by
   intro p hp hl
   have hl':=hl
   obtain⟨u,hu,hr⟩:=Nh (P:=P) s hp hl'
   have hsa:(Instr.loadAt t (tmps.getD a Go.undef)).run P w=(do loadVar t (<-asAddr (tmps.getD a Go.undef)):Sem Value).run P w:=by
    generalize hq:tmps.getD a Go.undef=q at hp hu
    simp only[Instr.loadAt,Sem.run_bind]
    cases q with
    | pointer o=>cases o with
     | none=>simp[Instr.loadAt,Instr.sureAddr]at hu
     | some ad=>simp[Instr.sureAddr,asAddr]
    | _=>simp[Instr.loadAt,Instr.sureAddr]at hu
   exact⟨u,by rw[<-hsa];exact hu,hr⟩
  split at h
  ·rename_i ha
   split at h
   ·cases h
   ·rename_i n hn
    refine hld _ (hf.2 a) ?_
    unfold DC
    rw[ha]
    exact⟨v,by
     split
     ·rename_i h0;exact absurd h0 hn
     ·exact h,rfl⟩
  ·rename_i ha
   refine hld _ (hf.2 a) ?_
   unfold DC
   rw[ha]
   exact⟨v,h,rfl⟩
  ·cases h
theorem JT {g:Ghost} {st:St} {w:World} {fr:Fr} {tmps:Array Value} (s:Sim g st fr.loc w) (hf:FA g w fr tmps):∀{rs:List ResultVar} {vs:List TV},HY P fr st rs=some vs->
  ∃us:List Value,(rs.mapM (fun r=>match r with | .tmp t=>pure (tmps.getD t Go.undef) | .cell a t=>do loadVar t (<-asAddr (tmps.getD a Go.undef))):Sem (List Value)).run P w= .ok us w/\AN g w vs us
 | [],vs,h=>by simp only[HY,Option.some.injEq]at h;subst h;exact⟨[],rfl,.nil _ _⟩
 | r::rs,vs,h=>by
  simp only[HY]at h
  split at h
  ·rename_i v hv
   obtain⟨vs',hvs',rfl⟩:=Option.map_eq_some_iff.1 h
   obtain⟨u,hu,hr⟩:=PV s hf hv
   obtain⟨us,hus,hrs⟩:=JT s hf hvs'
   refine⟨u::us,?_,.cons hr hrs⟩
   rw[List.mapM_cons]
   simp only[Sem.run_bind,hu,Result.andThen_ok,hus,Sem.run_pure]
  ·cases h
theorem SX {g:Ghost} {st:St} {w:World} {fr:Fr} {tmps:Array Value} (s:Sim g st fr.loc w) (hf:FA g w fr tmps) {fn:Func} {v:TV} (h:resT P fn fr st=some v):∃u,(results fn tmps).run P w= .ok u w/\Rel g w v u:=by
 unfold resT at h
 cases hr:HY P fr st fn.results.toList with
 | none=>rw[hr]at h;cases h
 | some vs=>
  rw[hr]at h
  obtain⟨us,hus,hrel⟩:=JT s hf hr
  have hrun:(fn.results.mapM (fun r=>match r with | .tmp t=>pure (tmps.getD t Go.undef) | .cell a t=>do loadVar t (<-asAddr (tmps.getD a Go.undef))):Sem (Array Value)).run P w= .ok us.toArray w:=by
   rw[<-Array.toArray_toList (xs:=fn.results),List.mapM_toArray]
   simp only[Sem.run_map,hus,Result.andThen_ok]
  refine⟨if h:us.toArray.size=1 then us.toArray[0]else .tuple us.toArray,?_,?_⟩
  ·have hres:results fn tmps=(do
     let vs<-(fn.results.mapM (fun r=>match r with | .tmp t=>pure (tmps.getD t Go.undef) | .cell a t=>do loadVar t (<-asAddr (tmps.getD a Go.undef))):Sem (Array Value))
     pure (if h:vs.size=1 then vs[0]else .tuple vs)):=rfl
   rw[hres,Sem.run_bind,hrun]
   rfl
  ·cases vs with
   | nil=>
    simp only[Option.map_some,Option.some.injEq,SE]at h;subst h
    have:us=[]:=List.eq_nil_of_length_eq_zero hrel.1.symm
    subst this
    exact Rel.tuple [] [] rfl (fun i hi=>absurd hi (Nat.not_lt_zero _))
   | cons v1 vs1=>cases vs1 with
    | nil=>
     simp only[Option.map_some,Option.some.injEq,SE]at h;subst h
     cases us with
     | nil=>have:=hrel.1;simp at this
     | cons u1 us1=>
      have:us1=[]:=List.eq_nil_of_length_eq_zero (by have:=hrel.1;simpa using this.symm)
      subst this
      simpa using hrel.2 0 (by simp)
    | cons v2 vs2=>
     simp only[Option.map_some,Option.some.injEq,SE]at h;subst h
     have hl:us.toArray.size≠1:=by have:=hrel.1;simp at this⊢;omega
     rw[dif_neg hl]
     exact Rel.tuple _ us hrel.1 hrel.2
theorem Va (hm:P.follows .mixedOrders=true) {f:FuncId} {fn:Func} {c:Code} (hcall:∀(vs:Array Value) (w:World),(callFunc f vs).run P w= .ok (.enter f vs) w) (hf:P.funcs[f]? =some fn) (hb:fn.body=some c)
  (cfg:Cfg) (h:If) {args:List TV} {st:St} {R:TV->St->Prop} (hn:args.length<=fn.ntmps)
  (hc:cwp cfg P fn.ntmps cfg.loc.length c h (retQ P fn R) (G3 cfg fn args) st):EH P f args st R:=by
 refine B4 hcall fun g w vargs s hr=>?_
 refine calls_of_wp hf hb ?_
 have hlen:vargs.length=args.length:=hr.1.symm
 have hsize:(vargs.toArray++Array.replicate (fn.ntmps-vargs.toArray.size) Go.undef).size=fn.ntmps:=by simp;omega
 have hsim:Sim g st (G3 cfg fn args).loc w:=s.weakLoc fun j x' hx'=>by
  simp only[G3,List.getElem?_map]at hx'
  cases hq:cfg.loc[j]? with
  | none=>rw[hq]at hx';cases hx'
  | some q=>rw[hq]at hx';simp at hx'
 have hfr:FA g w (G3 cfg fn args) (vargs.toArray++Array.replicate (fn.ntmps-vargs.toArray.size) Go.undef):=by
  refine⟨by rw[hsize];rfl,fun i=>?_⟩
  by_cases hia:i<args.length
  ·have h1:(G3 cfg fn args).slots.f i= .t args[i]:=by simp[G3,hia]
   have h2:(vargs.toArray++Array.replicate (fn.ntmps-vargs.toArray.size) Go.undef).getD i Go.undef=vargs.getD i Go.undef:=by
    have:i<vargs.length:=by omega
    have hin:i<fn.ntmps:=by omega
    simp[Array.getD,Array.getElem_append,this,hin,List.getD_eq_getElem?_getD]
    omega
   rw[h1,h2]
   exact hr.2 i hia
  ·have h1:(G3 cfg fn args).slots.f i= .t .undef:=by simp[G3,hia]
   have h2:(vargs.toArray++Array.replicate (fn.ntmps-vargs.toArray.size) Go.undef).getD i Go.undef=Go.undef:=by
    have:¬i<vargs.length:=by omega
    simp[Array.getD,Array.getElem_append,this]
   rw[h1,h2]
   exact Rel.undef
 refine wp_mono (VU hm c h _ _ st g w {tmps:=vargs.toArray++Array.replicate (fn.ntmps-vargs.toArray.size) Go.undef,defers:=[]} hc hsim hfr hsize) fun e a' w' hq=>?_
 obtain⟨fr',st',g',h1,h2,h3,h4,h5,h6⟩:=hq
 have fin:JU P fr' st' fn.results.toList (fun vs=>R (SE vs) st')->a'.defers=[]/\∃v,(results fn a'.tmps).run P w'= .ok v w'/\∃v',Ending.returned v= .returned v'/\∃r st' g',R r st'/\Sim g' st' [] w'/\Rel g' w' r v'/\Ext g w g' w':=by
  intro ho
  obtain⟨vs,hvs,hR⟩:=IG ho
  obtain⟨u,hu,hrel⟩:=SX (fn:=fn) h2 h3 (by unfold resT;rw[hvs];rfl)
  exact⟨h5,u,hu,u,rfl,_,st',g',hR,h2.dropLoc (fun j x hx=>by simp at hx),hrel,h4⟩
 cases e with
 | normal=>exact fin h1
 | ret=>exact fin h1
 | _=>exact h1.elim
def St.zero:St:={nb:=0,box:=fun _=> .dead,nt:=0,live:=fun _=>false,ty:=fun _=>none,bt:=fun _=>none}
def Ghost.start (w:World):Ghost:={base:=w.heap.size,w0:=w,nb:=0,bk:=fun _=>0,lam:=fun _=>0,nt:=0,sp:=fun _=>none,S:=fun a=>a.spot=none/\∃v,w.cell? a=some v,prot:=fun _=>False}
theorem Sim.start (w:World) (hG:∀w',Below w.heap.size w w'->GlobOK w'):Sim (Ghost.start w) St.zero [] w:=by
 have hd:∀k,¬Dom St.zero [] k:=by
  intro k d
  cases k with
  | box i=>exact absurd d (Nat.not_lt_zero _)
  | loc i=>obtain⟨x,hx⟩:=d;simp at hx
 exact⟨rfl,rfl,Below.refl _ _,Nat.le_refl _,fun k d=>absurd d (hd k),fun k k' d=>absurd d (hd k),fun k d=>absurd d (hd k),fun id h=>absurd h (Nat.not_lt_zero _),
  fun id b l h hh=>(by cases hh),fun i j b l h l' h' _ hh=>(by cases hh),fun id _=>rfl,fun a ha=>⟨ha.1,ha.2,fun k d=>absurd d (hd k),fun id l h hh=>(by cases hh)⟩,fun b hb=>hb.elim,fun id b l h hh=>(by cases hh),fun id b l h T hh=>(by cases hh),fun b T hb=>absurd hb (Nat.not_lt_zero _),hG⟩
theorem TO {f:FuncId} {args:List TV} (hcall:∀(vs:Array Value) (w:World),(callFunc f vs).run P w= .ok (.enter f vs) w) (h:EH P f args St.zero fun r _=>r= .bool true) (w:World) (hG:∀w',Below w.heap.size w w'->GlobOK w') (vargs:List Value) (hr:AN (Ghost.start w) w args vargs):
  Calls P f vargs.toArray w fun e w'=>e= .returned (.bool true)/\Below w.heap.size w w':=by
 have h1:=h.run (Ghost.start w) w vargs (Sim.start w hG) hr
 unfold Cs at h1
 rw[hcall]at h1
 refine Calls.mono h1 ?_
 rintro e w' ⟨v,rfl,r,st',g',rfl,s',hrel,e'⟩
 have hb:=s'.below
 rw[e'.base,e'.w0]at hb
 cases hrel
 exact⟨rfl,hb⟩
end
def TT (fn:Func):Code:=match fn.body with | some c=>c | none=> .skip
def Fw (cfg:Cfg) (P:Program) (h:If) (fn:Func) (args:List TV) (st:St) (R:TV->St->Prop):Prop:=
 cwp cfg P fn.ntmps cfg.loc.length (TT fn) h (retQ P fn R) (G3 cfg fn args) st
def fits (fn:Func) (args:List TV):Bool:=(fn.body.isSome).and (args.length.ble fn.ntmps)
theorem Ag {P:Program} (hm:P.follows .mixedOrders=true) {f:FuncId} {fn:Func} (hcall:∀(vs:Array Value) (w:World),(callFunc f vs).run P w= .ok (.enter f vs) w) (hf:P.funcs[f]? =some fn)
  {cfg:Cfg} {h:If} {args:List TV} {st:St} {R:TV->St->Prop} (hn:fits fn args=true) {V:Prop} (he:Fw cfg P h fn args st R=V) (hV:V):EH P f args st R:=by
 simp only[fits,Bool.and_eq_true]at hn
 obtain⟨c,hc⟩:=Option.isSome_iff_exists.1 hn.1
 have hb:fn.body=some (TT fn):=by rw[TT,hc]
 rw[<-he]at hV
 exact Va hm hcall hf hb cfg h (Nat.le_of_ble_eq_true hn.2) hV
def AK (cs:List CTy) (v:TV) (f:Fun cs Prop):Prop:=
 match v with
 | .agg l=>decL cs l f
 | _=>False
def stB (st:St) (p:TV) (xs:List TV) (k:St->Prop):Prop:=
 match p with
 | .box b off=>∃l,st.box b= .cells l/\off+xs.length<=l.length/\k (st.put b (.cells (setAll l off xs)))
 | _=>False
theorem Aa {p:Prop} [Decidable p] {x y:Prop} (h1:p->x) (h2:¬p->y):BIf (decide p) x y:=by
 by_cases h:p
 ·simp only[h,decide_true,BIf];exact h1 h
 ·simp only[h,decide_false,BIf];exact h2 h
theorem Ar {b:Bool} {x y:Prop} (h1:b=true->x) (h2:b=false->y):BIf b x y:=by
 cases b
 ·exact h2 rfl
 ·exact h1 rfl
end Go.TVF
end
section
namespace Go.TVF
open Go.IntKind(i64 u8)
structure Ap (a b:St):Prop where
 nb:a.nb<=b.nb
 box:∀i,i<a.nb->b.box i=a.box i
 nt:a.nt<=b.nt
 live:∀i,i<a.nt->b.live i=a.live i
 ty:∀i,i<a.nt->b.ty i=a.ty i
 bt:∀i,i<a.nb->b.bt i=a.bt i
theorem Ap.refl (a:St):Ap a a:=⟨Nat.le_refl _,fun _ _=>rfl,Nat.le_refl _,fun _ _=>rfl,fun _ _=>rfl,fun _ _=>rfl⟩
theorem Ap.trans {a b c:St} (h:Ap a b) (k:Ap b c):Ap a c:=
 ⟨Nat.le_trans h.nb k.nb,fun i hi=>(k.box i (Nat.lt_of_lt_of_le hi h.nb)).trans (h.box i hi),Nat.le_trans h.nt k.nt,fun i hi=>(k.live i (Nat.lt_of_lt_of_le hi h.nt)).trans (h.live i hi),fun i hi=>(k.ty i (Nat.lt_of_lt_of_le hi h.nt)).trans (h.ty i hi),fun i hi=>(k.bt i (Nat.lt_of_lt_of_le hi h.nb)).trans (h.bt i hi)⟩
theorem Ap.fresh {a b:St} (h:Ap a b) (T:Option Nat):Ap a (b.fresh T):=
 h.trans ⟨Nat.le_refl _,fun _ _=>rfl,Nat.le_succ _,fun i hi=>by simp only[St.fresh];rw[if_neg (by omega)],fun i hi=>by simp only[St.fresh];rw[if_neg (by omega)],fun _ _=>rfl⟩
theorem Ap.push {a b:St} (h:Ap a b) (o:Iz) (T:Option Nat):Ap a (b.push o T):=
 h.trans ⟨Nat.le_succ _,fun i hi=>by simp only[St.push];rw[if_neg (by omega)],Nat.le_refl _,fun _ _=>rfl,fun _ _=>rfl,fun i hi=>by simp only[St.push];rw[if_neg (by omega)]⟩
theorem Ap.retire {a b:St} (h:Ap a b) {id:Nat} (hid:a.nt<=id):Ap a (b.retire id):=
 ⟨h.nb,h.box,h.nt,fun i hi=>by simp only[St.retire];rw[if_neg (by omega)];exact h.live i hi,h.ty,h.bt⟩
theorem Ap.put {a b:St} (h:Ap a b) {i:Nat} (hi:a.nb<=i) (o:Iz):Ap a (b.put i o):=
 ⟨h.nb,fun j hj=>by simp only[St.put];rw[if_neg (by omega)];exact h.box j hj,h.nt,h.live,h.ty,h.bt⟩
theorem Dc (l:B8):(AJ l).length=l.length:=by simp[AJ]
theorem DR:∀l:B8,E5 (AJ l)=some l
 | []=>rfl
 | c::l=>by
  have:=DR l
  simp only[AJ]at this
  simp[AJ,E5,Ie,TW,this]
theorem S7 (l:B8):(AJ l).all At=true:=by simp[AJ,Ie,At]
theorem IU (a b:B8):AJ a++AJ b=AJ (a++b):=by simp[AJ]
def Rd (sz:Nat) (v:TV) (n:Nat) (xs:List TV):Prop:=
 (v= .nilSlice/\n=0/\xs=[])∨∃tip,v= .list sz tip n xs
def Own (b sz:Nat) (st:St) (v:TV) (n:Nat) (xs:List TV):Prop:=
 (v= .nilSlice/\n=0/\xs=[])∨∃tip,v= .list sz tip n xs/\(tip= .full∨∃id,tip= .own id/\b<=id/\id<st.nt/\st.live id=true)
theorem Own.rd {b sz:Nat} {st:St} {v:TV} {n:Nat} {xs:List TV} (h:Own b sz st v n xs):Rd sz v n xs:=by
 rcases h with h | ⟨tip,h,_⟩
 ·exact .inl h
 ·exact .inr ⟨tip,h⟩
theorem Own.ext {b sz:Nat} {st st':St} {v:TV} {n:Nat} {xs:List TV} (h:Own b sz st v n xs) (e:Ap st st'):Own b sz st' v n xs:=by
 rcases h with h | ⟨tip,h,ht | ⟨id,h1,h2,h3,h4⟩⟩
 ·exact .inl h
 ·exact .inr ⟨tip,h,.inl ht⟩
 ·exact .inr ⟨tip,h,.inr ⟨id,h1,h2,Nat.lt_of_lt_of_le h3 e.nt,(e.live id h3).trans h4⟩⟩
theorem Own.nil (b sz:Nat) (st:St):Own b sz st .nilSlice 0 []:= .inl ⟨rfl,rfl,rfl⟩
theorem Own.full (b sz:Nat) (st:St) (n:Nat) (xs:List TV):Own b sz st (.list sz .full n xs) n xs:= .inr ⟨_,rfl,.inl rfl⟩
theorem Own.fresh {b sz:Nat} {st:St} {T:Option Nat} (n:Nat) (xs:List TV) (hb:b<=st.nt):Own b sz (st.fresh T) (.list sz (.own st.nt) n xs) n xs:=
 .inr ⟨_,rfl,.inr ⟨st.nt,rfl,hb,Nat.lt_succ_self _,by simp[St.fresh]⟩⟩
theorem Rd.isSl {sz:Nat} {v:TV} {n:Nat} {xs:List TV} (h:Rd sz v n xs):TVF.isSl v=true:=by
 rcases h with⟨rfl,_⟩ | ⟨tip,rfl⟩<;>rfl
theorem Rd.lenS {sz:Nat} {v:TV} {n:Nat} {xs:List TV} (h:Rd sz v n xs):TVF.lenS v=n:=by
 rcases h with⟨rfl,rfl,_⟩ | ⟨tip,rfl⟩<;>rfl
theorem Rd.lenZ {sz:Nat} {v:TV} {n:Nat} {xs:List TV} (h:Rd sz v n xs):TVF.lenZ sz v=n:=by
 rcases h with⟨rfl,rfl,_⟩ | ⟨tip,rfl⟩
 ·rfl
 ·simp[TVF.lenZ]
theorem Rd.one {sz:Nat} {v:TV} {n:Nat} {xs:List TV} (h:Rd sz v n xs):At v=true:=by
 rcases h with⟨rfl,rfl,_⟩ | ⟨tip,rfl⟩<;>rfl
theorem Rd.ld {sz:Nat} {v:TV} {n:Nat} {xs:List TV} (h:Rd sz v n xs) (st:St) (i j:Nat) (hi:i*sz+j<xs.length):Ac st [] (.t (ixT sz v i)) j=some xs[i*sz+j]:=by
 rcases h with⟨rfl,rfl,rfl⟩ | ⟨tip,rfl⟩
 ·simp at hi
 ·simp[Ac,ixT,hi]
theorem Rd.ldf {sz:Nat} {v:TV} {n:Nat} {xs:List TV} (h:Rd sz v n xs) (st:St) (i f:Nat) (hi:i*sz+f<xs.length):Ac st [] (.t (Am (ixT sz v i) f)) 0=some xs[i*sz+f]:=by
 rcases h with⟨rfl,rfl,rfl⟩ | ⟨tip,rfl⟩
 ·simp at hi
 ·simp[Ac,ixT,Am,hi]
theorem src_str (st:St) (l:B8):EG st 1 (.str l)=some (l.length,AJ l):=rfl
theorem Fy {T b sz bytes:Nat} {st0 st:St} {v:TV} {n k:Nat} {xs ys:List TV} {K:TV->St->Prop} (e:Ap st0 st) (hb:b=st0.nt) (h:Own b sz st v n xs) (hby:(n+k)*bytes<=140737488355328) (hys:k=0->ys=[])
  (hK:∀v' st',Ap st0 st'->st'.box=st.box->Own b sz st' v' (n+k) (xs++ys)->K v' st'):BM T sz bytes v k ys st K:=by
 subst hb
 rcases h with⟨rfl,rfl,rfl⟩ | ⟨tip,rfl,ht⟩
 ·simp only[BM]
  cases k with
  | zero=>rw[hys rfl]at hK;exact hK _ _ e rfl (.nil _ _ _)
  | succ m=>
   simp only[As]
   refine⟨by simpa using hby,hK _ _ (e.fresh _) rfl ?_⟩
   simp only[List.nil_append,Nat.zero_add]
   exact Own.fresh _ _ e.nt
 ·simp only[BM,Nat.beq_refl]
  refine⟨hby,?_⟩
  rcases ht with rfl | ⟨id,rfl,h1,h2,h3⟩
  ·cases k with
   | zero=>rw[hys rfl]at hK;simp only[List.append_nil]at hK;exact hK _ _ e rfl (Own.full _ _ _ _ _)
   | succ m=>exact hK _ _ (e.fresh _) rfl (Own.fresh _ _ e.nt)
  ·exact⟨h3,hK _ _ ((e.retire h1).fresh _) rfl (Own.fresh (st:=st.retire id) _ _ e.nt)⟩
theorem Ab {b:Bool} {k:Prop} (h:b=true) (hk:k):need b k:=As.2 ⟨h,hk⟩
theorem Ad {α:Type} {o:Option α} {x:α} {k:α->Prop} (h:o=some x) (hk:k x):Ae o k:=by rw[h];exact hk
theorem Ai (x:Int) (h1: -9223372036854775808<=x) (h2:x<=9223372036854775807):IntKind.wrap .i64 x=x:=by
 unfold IntKind.wrap
 simp only[IntKind.signed,IntKind.bits]
 simp
 omega
theorem Mg (x:Int) (h1:0<=x) (h2:x<=255):IntKind.wrap .u8 x=x:=by
 unfold IntKind.wrap
 simp only[IntKind.signed,IntKind.bits]
 simp
 omega
end Go.TVF
end
section
namespace Go.TVF
open Go.IntKind(i64 u8)
open Go.RowKit (Below)
theorem XN {r:TV} {st':St} (h:Gk [.one .bool] r (fun (b:Bool) (_:St)=>b=true) (fun p=>p st')):r= .bool true:=by
 cases r<;>simp only[Gk,Ft,Af]at h<;>first | exact h.elim | skip
 subst h;rfl
theorem calls_law {P:Program} {f:FuncId} {args:List TV} (hcall:∀(vs:Array Value) (w:World),(callFunc f vs).run P w= .ok (.enter f vs) w) (h:CallT P f args [.one .bool] St.zero (fun r _=>r=true)) (w:World) (hG:∀w',Below w.heap.size w w'->GlobOK w') (vargs:List Value) (hr:AN (Ghost.start w) w args vargs):
  Calls P f vargs.toArray w fun e w'=>e= .returned (.bool true)/\Below w.heap.size w w':=
 TO hcall (EH.mono h fun r st' hd=>XN hd) w hG vargs hr
theorem MR (g:Ghost) (w:World) (s:ByteArray):Rel g w (.str s.data.toList) (.string s):=by
 have:=Rel.str (g:=g) (w:=w) s.data.toList
 simpa using this
def flatIs:List CTy->List TV->Prop
 | [],xs=>xs=[]
 | .int k::cs,xs=>∃n ys,xs= .int k n::ys/\(Lit.int k n).wf=true/\flatIs cs ys
 | .str::cs,xs=>∃l ys,xs= .str l::ys/\l.length<=maxLen/\flatIs cs ys
 | .bool::cs,xs=>∃b ys,xs= .bool b::ys/\flatIs cs ys
 | .tv::_,_=>False
def Uf (P:Program):CTy->TypeId->Prop
 | .int k,t=>P.underlying t=some (.int k)
 | .bool,t=>P.underlying t=some .bool
 | .str,t=>P.underlying t=some .string
 | .tv,_=>False
def FieldsTy (P:Program):List CTy->List Field->Nat->Prop
 | [],[],_=>True
 | c::cs,f::fs,o=>f.offset=o/\P.cellsOf f.type=1/\Uf P c f.type/\FieldsTy P cs fs (o+1)
 | _,_,_=>False
section
variable {H:Type} {enc:TypeId×Value->H} {P:Program} {w:World} {base:Nat} {sp:Nat->Bool} {held:Bool}
theorem ON {c:CTy} {t:TypeId} {fuel:Nat} {cs:List Value} {x:DataW H×List MemPlace} (g:Ghost) (hc:Uf P c t) (h:DataW.trod enc P w base sp held fuel t cs=some x):
  ∃v u,cs=[u]/\Rel g w v u/\flatIs [c] [v]:=by
 cases c with
 | int k=>
  obtain⟨n,rfl,_,hw⟩:=DataW.trod_int hc h
  exact⟨_,_,rfl,.int k n,n,[],rfl,hw,rfl⟩
 | bool=>
  obtain⟨b,rfl,_⟩:=DataW.trod_bool hc h
  exact⟨_,_,rfl,.bool b,b,[],rfl,rfl⟩
 | str=>
  obtain⟨s,rfl,_,hs⟩:=DataW.trod_string hc h
  exact⟨_,_,rfl,MR g w s,_,[],rfl,by rw[Array.length_toList];exact hs,rfl⟩
 | tv=>exact hc.elim
theorem flatIs.cons {c:CTy} {cs:List CTy} {v:TV} {xs:List TV} (h:flatIs [c] [v]) (k:flatIs cs xs):flatIs (c::cs) (v::xs):=by
 cases c with
 | int _=>
  obtain⟨n,ys,h1,h2,_⟩:=h
  simp only[List.cons.injEq]at h1
  exact⟨n,xs,by rw[h1.1],h2,k⟩
 | bool=>
  obtain⟨b,ys,h1,_⟩:=h
  simp only[List.cons.injEq]at h1
  exact⟨b,xs,by rw[h1.1],k⟩
 | str=>
  obtain⟨l,ys,h1,h2,_⟩:=h
  simp only[List.cons.injEq]at h1
  exact⟨l,xs,by rw[h1.1],h2,k⟩
 | tv=>exact h.elim
theorem Lt {n:Nat} {vs:List Value} (g:Ghost):∀(cs:List CTy) (fs:List Field) (o:Nat) (xs:List (DataW H×List MemPlace)),FieldsTy P cs fs o->xs.length=fs.length->vs.length=o+cs.length->
  (∀(i:Nat) (f:Field),fs[i]? =some f->DataW.trod enc P w base sp held n f.type ((vs.drop f.offset).take (P.cellsOf f.type))=xs[i]?)->∃tv,AN g w tv (vs.drop o)/\flatIs cs tv
 | [],[],o,xs,_,_,hl,_=>⟨[],by rw[List.drop_of_length_le (by simp at hl;omega)];exact .nil _ _,rfl⟩
 | c::cs,f::fs,o,[],_,hx,_,_=>by simp at hx
 | c::cs,f::fs,o,x::xs,ht,hx,hl,hd=>by
  obtain⟨h1,h2,h3,h4⟩:=ht
  have hd0:=hd 0 f rfl
  rw[h1,h2]at hd0
  obtain⟨v,u,hu,hr,hf⟩:=ON g h3 hd0
  obtain⟨tv,hr',hf'⟩:=Lt (n:=n) (vs:=vs) g cs fs (o+1) xs h4 (by simpa using hx) (by simp at hl;omega) (fun i f' hi=>by simpa using hd (i+1) f' (by simpa using hi))
  refine⟨v::tv,?_,hf.cons hf'⟩
  have hlt:o<vs.length:=by simp at hl;omega
  rw[List.drop_eq_getElem_cons hlt]
  rw[List.drop_eq_getElem_cons hlt]at hu
  simp only[List.take_succ_cons,List.take_zero,List.cons.injEq]at hu
  rw[hu.1]
  exact .cons hr hr'
 | [],f::fs,o,xs,ht,_,_,_=>ht.elim
 | c::cs,[],o,xs,ht,_,_,_=>ht.elim
theorem T8 (b off i:Nat):(⟨b,off,none⟩:Addr).add i=⟨b,off+i,none⟩:=by
 unfold Addr.add;split
 ·rename_i h;subst h;rfl
 ·rfl
def Opens (enc:TypeId×Value->H) (P:Program) (w:World) (base:Nat) (sp:Nat->Bool) (held:Bool) (cs:List CTy) (e:TypeId):Prop:=
 ∀(g:Ghost) n vs x,DataW.trod enc P w base sp held n e vs=some x->∃tv,AN g w tv vs/\flatIs cs tv
theorem opens_struct {cs:List CTy} {e:TypeId} {fs:Array Field} (ht:P.underlying e=some (.struct fs)) (hf:FieldsTy P cs fs.toList 0) (hc:P.cellsOf e=cs.length):Opens enc P w base sp held cs e:=fun g n vs x hd=>by
 obtain⟨xs,m,rfl,_,hl,hx,hi⟩:=DataW.trod_struct ht hd
 have:=Lt (enc:=enc) (P:=P) (w:=w) (base:=base) (sp:=sp) (held:=held) (n:=m) (vs:=vs) g cs fs.toList 0 xs hf (by simpa using hx) (by omega) (fun i f h=>hi i f (by simpa using h))
 simpa using this
end
end Go.TVF
end
namespace Go.TVF
open Go.IntKind(i64 u8)
open Go Go.Proofs
theorem mixed:Tryz.prog.follows .mixedOrders=true:=by kernel_rfl
noncomputable def PR:Program:=Tryz.prog
abbrev V13(X:Type):=Int->Bool->Bool->B8->Int->Int->Int->Int->Int->B8->TV->TV->TV->X
abbrev sV:RTy:=.agg [.int .i64,.bool,.bool,.str,.int .i64,.int .i64,.int .i64,.int .i64,.int .i64,.str,.tv,.tv,.tv]
abbrev cV(a:Int)(b c:Bool)(d:B8)(e f g h i:Int)(j:B8)(k l m:TV):List TV:=[.int .i64 a,.bool b,.bool c,.str d,.int .i64 e,.int .i64 f,.int .i64 g,.int .i64 h,.int .i64 i,.str j,k,l,m]
abbrev BId(p:Prop)[Decidable p](a b:Prop):Prop:=BIf (decide p) a b
def fn_datakitlaw28_GridBack:Nat:=12
def Co:Nat:=32
def Bf:Nat:=33
def EW:Nat:=34
def B7:Nat:=37
def EX:Nat:=39
def Gf:Nat:=42
def DG:Nat:=53
def Ga:Nat:=54
def DK:Nat:=55
def Ge:Nat:=56
def Gd:Nat:=57
def Fn:Nat:=58
def BE:Nat:=62
def Cp:Nat:=63
def CC:Nat:=69
def Fp:Nat:=70
def A2:Nat:=84
def A7:Nat:=85
def Cn:Nat:=86
def G8:Nat:=87
def Cj:Nat:=93
def IN:Nat:=94
def Gb:Nat:=95
def BW:Nat:=96
def EU:Nat:=97
def Cf:Nat:=98
def Ee:Nat:=99
def D7:Nat:=105
def EC:Nat:=106
def Ed:Nat:=117
def D6:Nat:=118
def B9:Nat:=119
def De:Nat:=120
def FM:Nat:=121
def Ef:Nat:=122
def BF:Nat:=123
def Cz:Nat:=124
def Bw:Nat:=128
def Dd:Nat:=133
def Dl:Nat:=143
def DF:Nat:=144
def DJ:Nat:=145
def AE:Nat:=146
def AT:Nat:=156
def CD:Nat:=157
def D8:Nat:=158
def CY:Nat:=159
def Cg:Nat:=160
def Cm:Nat:=161
def EE:Nat:=162
def Eg:Nat:=173
def Cl:Nat:=174
def DD:Nat:=179
def Bs:Nat:=185
def Cd:Nat:=186
def BI:Nat:=187
def Au:Nat:=188
def Av:Nat:=189
def Dj:Nat:=190
def Be:Nat:=191
def Ak:Nat:=192
def AO:Nat:=193
def AI:Nat:=194
def G7:Nat:=195
def AP:Nat:=196
def Fm:Nat:=197
def CN:Nat:=198
def Ce:Nat:=199
def F9:Nat:=200
def EB:Nat:=203
def H8:Nat:=210
def Gc:Nat:=211
def G6:Nat:=212
def DE:Nat:=221
def CM:Nat:=222
def Bg:Nat:=223
def A9:Nat:=224
def CB:Nat:=225
def Df:Nat:=235
def EA:Nat:=236
def ED:Nat:=241
def A6:Nat:=242
def BD:Nat:=243
def AB:Nat:=244
def Bp:Nat:=245
def AQ:Nat:=246
def Bq:Nat:=247
def EV:Nat:=252
def Jn:Nat:=256
def Bl:Nat:=261
def AA:Nat:=262
def Cq:Nat:=263
def Fo:Nat:=264
def BL:Nat:=265
def Br:Nat:=266
def Dk:Nat:=267
def Ez:Nat:=268
def G5:Nat:=269
def DI:Nat:=277
def Ea:Nat:=278
def AG:Nat:=279
def CA:Nat:=289
def Ax:Nat:=290
def BG:Nat:=291
def Cr:Nat:=292
def D9:Nat:=293
def AR:Nat:=297
def Ca:Nat:=299
def Hp:Nat:=300
def Gg:Nat:=301
def DH:Nat:=306
def FN:Nat:=307
def AH:Nat:=317
def Aj:Nat:=318
def A0:Nat:=329
def AD:Nat:=333
def Vf:B8:=[10]
def Ve:B8:=[97,44,98,10,49,44,120,10,34,49,34,44,10]
def str10:B8:=[49]
def str11:B8:=[34,49,34]
def OB:B8:=[116,114,117,101]
def Wp:B8:=[102,97,108,115,101]
def JL:B8:=[48]
def Ei:B8:=[45]
def IC:B8:=[46]
def Um:B8:=[48,46]
def Wo:B8:=[101]
def ME:B8:=[84]
def Q6:B8:=[43]
def Wn:B8:=[101,45]
def CT:B8:=[58]
def str24:B8:=[90]
def str25:B8:=[84,116,32]
def str31:B8:=[90,122,43,45]
theorem Mr (st:St) (K:Int->Int->Int->Int->Int->St->Prop) (h:K 48 65536 1048576 1024 65536 st):CallT PR DG [] [.agg [.int .i64,.int .i64,.int .i64,.int .i64,.int .i64]] st K:=
 Ag (cfg:=⟨[0],[],[]⟩) (h:= .none) mixed (fun _ _=>Tryz.call53 _ _) Tryz.func53 (by kernel_rfl) (by kernel_rfl) h
theorem Mu (src:B8) (d_0:Int) (d_1:Int) (d_2:Bool) (d_3:Bool) (l_0:Int) (l_1:Int) (l_2:Int) (l_3:Int) (l_4:Int) (st:St) (K:Int->B8->B8->TV->B8->Int->Int->St->Prop) (h:CallT PR CC [(.agg [.int .u8 d_0,.int .u8 d_1,.bool d_2,.bool d_3])] [.one .bool] st (fun (b1:Bool) i=>BIf (!b1) (K 0 [] [] .nilSlice [] 0 1 i) (CallT PR Fp [(.agg [.int .i64 l_0,.int .i64 l_1,.int .i64 l_2,.int .i64 l_3,.int .i64 l_4])] [.one .bool] i (fun (b2:Bool) f=>BIf (!b2) (K 0 [] [] .nilSlice [] 0 1 f) (BId (l_2<(src.length:Int)) (K 0 [] [] .nilSlice [] 0 10 f) (CallT PR D6 [.str src] [.one (.int .i64)] f (fun (n1:Int) c=>BId ((0:Int)<=n1) (K 0 [] [] .nilSlice [] n1 5 c) (need (List.all [(.map c.nb)] At) (∃(I1:B8->TV->Int->B8->B8->TV->B8->St->Prop) (M1:B8->TV->Int->B8->B8->TV->B8->St->Nat),(I1 src ((.box (c.push (.map []) none).nb 0)) 1 [] [] .nilSlice [] ((c.push (.map []) none).push (.cells [.str src,.int .u8 d_0,.int .u8 d_1,.bool d_2,.bool d_3,.int .i64 l_0,.int .i64 l_1,.int .i64 l_2,.int .i64 l_3,.int .i64 l_4,.int .i64 0,.int .i64 1,.int .i64 0,(.map c.nb),.int .i64 0,.int .i64 0]) (some 180)))/\∀b a n2 s1 s2 v1 s3 d,I1 b a n2 s1 s2 v1 s3 d->(need (isPtr a) (need (isPtr a) (Ae (Ac d [] (.t (Am a 10)) 0) (fun (x1:TV)=>Af (.int .i64) x1 (fun (n3:Int)=>BId (n3<(b.length:Int)) (need (isSl v1) (CallT PR B9 [a,(.int .i64 (lenS v1:Int))] [.agg [.int .i64,.str,.str,.tv,.str],.one .bool] d (fun (n4:Int) (s4 s5:B8) (v2:TV) (s6:B8) (b3:Bool) e=>need (List.all [.int .i64 n4,.str s4,.str s5,v2,.str s6] At) (BIf (!b3) (need (isPtr a) (need (isPtr a) (Ae (Ac e [] (.t (Am a 14)) 0) (fun (x2:TV)=>Af (.int .i64) x2 (fun (n5:Int)=>need (isPtr a) (need (isPtr a) (Ae (Ac e [] (.t (Am a 15)) 0) (fun (x3:TV)=>Af (.int .i64) x3 (fun (n6:Int)=>K 0 [] [] .nilSlice [] n5 n6 e))))))))) (need (List.all [.int .i64 n4,.str s4,.str s5,v2,.str s6] At) (BM 79 5 80 v1 1 [.int .i64 n4,.str s4,.str s5,v2,.str s6] e (fun (v3:TV) g=>need (List.all [v3] At) ((I1 b a n2 s1 s2 v3 s3 g/\M1 b a n2 s1 s2 v3 s3 g<M1 b a n2 s1 s2 v1 s3 d))))))))) (need (List.all [.int .i64 n2,.str s1,.str s2,v1,.str s3] At) (K n2 s1 s2 v1 s3 0 0 d)))))))))))))))):CallT PR DK [.str src,(.agg [.int .u8 d_0,.int .u8 d_1,.bool d_2,.bool d_3]),(.agg [.int .i64 l_0,.int .i64 l_1,.int .i64 l_2,.int .i64 l_3,.int .i64 l_4])] [.agg [.int .i64,.str,.str,.tv,.str],.one (.int .i64),.one (.int .i64)] st K:=
 Ag (cfg:=⟨[4,5,6,11,12],[],[]⟩) (h:=(.seq .none (.seq .none (.seq .none (.seq .none (.seq .none (.seq .none (.seq (.block (.loop ⟨[(0,.str),(10,.tv)],[(6,2,0),(11,3,0)],[(2,5),(3,5)],[(3,0,.int .i64),(3,1,.str),(3,2,.str),(3,3,.tv),(3,4,.str)]⟩ .none)) .none)))))))) mixed (fun _ _=>Tryz.call55 _ _) Tryz.func55 (by kernel_rfl) (by kernel_rfl) h
theorem N5 (n_0:Int) (n_1:B8) (n_2:B8) (n_3:TV) (n_4:B8) (st:St) (K:Int->St->Prop) (h:stB (st.push (.cells [.int .i64 0]) (some 3)) (.box st.nb 0) [.int .i64 0] (fun c=>CallT PR De [(.agg [.int .i64 n_0,.str n_1,.str n_2,n_3,.str n_4]),.int .i64 1,(.box st.nb 0)] [.one (.int .i64)] c (fun (n1:Int) b=>BId (n1≠0) (K n1 b) (CallT PR FM [(.agg [.int .i64 n_0,.str n_1,.str n_2,n_3,.str n_4])] [.one (.int .i64)] b (fun (n2:Int) a=>BId ((1048576:Int)<n2) (K 10 a) (K 0 a)))))):CallT PR Ge [(.agg [.int .i64 n_0,.str n_1,.str n_2,n_3,.str n_4])] [.one (.int .i64)] st K:=
 Ag (cfg:=⟨[1],[],[]⟩) (h:= .none) mixed (fun _ _=>Tryz.call56 _ _) Tryz.func56 (by kernel_rfl) (by kernel_rfl) h
theorem N4 (n_0:Int) (n_1:B8) (n_2:B8) (n_3:TV) (n_4:B8) (st:St) (K:B8->St->Prop) (h:CallT PR Ef [(.box st.nb 0),(.agg [.int .i64 n_0,.str n_1,.str n_2,n_3,.str n_4])] [] (st.push (.cells [.nilPtr,.nilSlice]) (some 188)) (fun (a:St)=>CallT PR BF [(.box st.nb 0)] [.one .str] a (fun (s1:B8) b=>K s1 b))):CallT PR Gd [(.agg [.int .i64 n_0,.str n_1,.str n_2,n_3,.str n_4])] [.one .str] st K:=
 Ag (cfg:=⟨[1],[],[]⟩) (h:= .none) mixed (fun _ _=>Tryz.call57 _ _) Tryz.func57 (by kernel_rfl) (by kernel_rfl) h
theorem Hw (st:St) (K:Int->Int->Bool->Bool->St->Prop) (h:K 44 34 true true st):CallT PR BE [] [.agg [.int .u8,.int .u8,.bool,.bool]] st K:=
 Ag (cfg:=⟨[0],[],[]⟩) (h:= .none) mixed (fun _ _=>Tryz.call62 _ _) Tryz.func62 (by kernel_rfl) (by kernel_rfl) h
theorem Hz (st:St) (K:Int->Int->Int->Int->Int->St->Prop) (h:K 48 65536 1048576 1024 65536 st):CallT PR Cp [] [.agg [.int .i64,.int .i64,.int .i64,.int .i64,.int .i64]] st K:=
 Ag (cfg:=⟨[0],[],[]⟩) (h:= .none) mixed (fun _ _=>Tryz.call63 _ _) Tryz.func63 (by kernel_rfl) (by kernel_rfl) h
theorem Ms (d_0:Int) (d_1:Int) (d_2:Bool) (d_3:Bool) (st:St) (K:Bool->St->Prop) (h:BId (d_0≠9) (BId (d_0<32) (K false st) (BId ((126:Int)<d_0) (K false st) (BId (d_1<33) (K false st) (BId ((126:Int)<d_1) (K false st) (BId (d_0≠d_1) (CallT PR Bw [.int .u8 d_0] [.one .bool] st (fun (b1:Bool) b=>BIf (!b1) (CallT PR Bw [.int .u8 d_1] [.one .bool] b (fun (b2:Bool) d=>K ((!b2)) d)) (K false b))) (K false st)))))) (BId (d_1<33) (K false st) (BId ((126:Int)<d_1) (K false st) (BId (d_0≠d_1) (CallT PR Bw [.int .u8 d_0] [.one .bool] st (fun (b3:Bool) a=>BIf (!b3) (CallT PR Bw [.int .u8 d_1] [.one .bool] a (fun (b4:Bool) c=>K ((!b4)) c)) (K false a))) (K false st))))):CallT PR CC [(.agg [.int .u8 d_0,.int .u8 d_1,.bool d_2,.bool d_3])] [.one .bool] st K:=
 Ag (cfg:=⟨[1],[],[]⟩) (h:= .none) mixed (fun _ _=>Tryz.call69 _ _) Tryz.func69 (by kernel_rfl) (by kernel_rfl) h
theorem Mq (l_0:Int) (l_1:Int) (l_2:Int) (l_3:Int) (l_4:Int) (st:St) (K:Bool->St->Prop) (h:BId ((1:Int)<=l_0) (BId (l_0<=48) (BId ((1:Int)<=l_1) (BId (l_1<=65536) (BId ((1:Int)<=l_2) (BId (l_2<=1048576) (BId ((0:Int)<=l_3) (BId (l_3<=1024) (BId ((0:Int)<=l_4) (K ((decide (l_4<=65536))) st) (K false st)) (K false st)) (K false st)) (K false st)) (K false st)) (K false st)) (K false st)) (K false st)) (K false st)):CallT PR Fp [(.agg [.int .i64 l_0,.int .i64 l_1,.int .i64 l_2,.int .i64 l_3,.int .i64 l_4])] [.one .bool] st K:=
 Ag (cfg:=⟨[1],[],[]⟩) (h:= .none) mixed (fun _ _=>Tryz.call70 _ _) Tryz.func70 (by kernel_rfl) (by kernel_rfl) h
theorem Hx (st:St) (K:Int->Int->Int->Int->Int->St->Prop) (h:CallT PR Cp [] [.agg [.int .i64,.int .i64,.int .i64,.int .i64,.int .i64]] st (fun (n1 n2 n3 n4 n5:Int) a=>K n1 n2 n3 n4 n5 a)):CallT PR Cn [] [.agg [.int .i64,.int .i64,.int .i64,.int .i64,.int .i64]] st K:=
 Ag (cfg:=⟨[0],[],[]⟩) (h:= .none) mixed (fun _ _=>Tryz.call86 _ _) Tryz.func86 (by kernel_rfl) (by kernel_rfl) h
theorem Ks (n_0:Int) (b:B8) (f:B8) (a:TV) (c:B8) (d_0:Int) (d_1:Int) (d_2:Bool) (d_3:Bool) (st:St) (K:TV->Int->St->Prop) (h:CallT PR Eg [(.agg [.int .i64 n_0,.str b,.str f,a,.str c]),(.agg [.int .u8 d_0,.int .u8 d_1,.bool d_2,.bool d_3])] [.one .bool] st (fun (b1:Bool) q=>BIf (!b1) (K .nilSlice 1 q) (need (isSl a) (∃(I1:TV->Int->TV->Int->Int->Int->Bool->Bool->St->Prop) (M1:TV->Int->TV->Int->Int->Int->Bool->Bool->St->Nat),(I1 .nilSlice 0 a ((lenS a:Int)) d_0 d_1 d_2 d_3 q)/\∀e b n f n1 n2 b2 b3 o,I1 e b n f n1 n2 b2 b3 o->(BId (b<f) (((0<=b/\b<(lenZ 5 n:Int))/\Ae ((Ah o [] (.t (ixT 5 n b.toNat)) 0 5).map TV.agg) (fun (x1:TV)=>AK [.int .i64,.str,.str,.tv,.str] x1 (fun (n3:Int) (s1 s2:B8) (v1:TV) (s3:B8)=>need (List.all [.int .i64 n3,.str s1,.str s2,v1,.str s3] At) (need (isSl v1) (∃(I2:TV->Int->TV->TV->Int->Int->TV->Int->Int->Int->Bool->Bool->St->Prop) (M2:TV->Int->TV->TV->Int->Int->TV->Int->Int->Int->Bool->Bool->St->Nat),(I2 .nilSlice 0 e n f b v1 ((lenS v1:Int)) n1 n2 b2 b3 o)/\∀k a d j c i g m n4 n5 b4 b5 l,I2 k a d j c i g m n4 n5 b4 b5 l->(BId (a<m) (((0<=a/\a<(lenZ 5 g:Int))/\Ae ((Ah l [] (.t (ixT 5 g a.toNat)) 0 5).map TV.agg) (fun (x2:TV)=>AK [.int .i64,.str,.str,.tv,.str] x2 (fun (n6:Int) (s4 s5:B8) (v2:TV) (s6:B8)=>need (List.all [.int .i64 n6,.str s4,.str s5,v2,.str s6] At) (((0<=(0:Int)/\(0:Int)<(lenZ 5 v2:Int))/\need (isPtr (ixT 5 v2 (Int.toNat (0:Int)))) (Ae (Ac FU [] (.t (Am (ixT 5 v2 (Int.toNat (0:Int))) 2)) 0) (fun (x3:TV)=>Af .str x3 (fun (s7:B8)=>CallT PR Cl [.str s7,(.agg [.int .u8 n4,.int .u8 n5,.bool b4,.bool b5])] [.one .str,.one .bool] l (fun (s8:B8) (b6:Bool) s=>BM 9 1 16 k 1 [.str s8] s (fun (v3:TV) r=>(I2 v3 ((i64.wrap (a+(1:Int)))) d j c i g m n4 n5 b4 b5 r/\M2 v3 ((i64.wrap (a+(1:Int)))) d j c i g m n4 n5 b4 b5 r<M2 k a d j c i g m n4 n5 b4 b5 l)))))))))))) (need (List.all [k] At) (need (List.all [k] At) (BM 22 1 24 d 1 [k] l (fun (v4:TV) p=>(I1 v4 ((i64.wrap (i+(1:Int)))) j c n4 n5 b4 b5 p/\M1 v4 ((i64.wrap (i+(1:Int)))) j c n4 n5 b4 b5 p<M1 e b n f n1 n2 b2 b3 o)))))))))))) (K e 0 o)))))):CallT PR D7 [(.agg [.int .i64 n_0,.str b,.str f,a,.str c]),(.agg [.int .u8 d_0,.int .u8 d_1,.bool d_2,.bool d_3])] [.one .tv,.one (.int .i64)] st K:=
 Ag (cfg:=⟨[2,3,8,11],[],[]⟩) (h:=(.seq .none (.seq .none (.seq .none (.seq (.seq .none (.block (.loop ⟨[(6,.tv),(21,.int .i64),(19,.tv),(20,.int .i64)],[(3,1,0)],[(1,4)],[(1,0,.int .u8),(1,1,.int .u8),(1,2,.bool),(1,3,.bool)]⟩ (.seq .none (.seq .none (.seq (.block (.seq .none (.seq .none (.seq (.seq .none (.block (.loop ⟨[(9,.tv),(28,.int .i64),(6,.tv),(19,.tv),(20,.int .i64),(21,.int .i64),(26,.tv),(27,.int .i64)],[(3,1,0)],[(1,4)],[(1,0,.int .u8),(1,1,.int .u8),(1,2,.bool),(1,3,.bool)]⟩ .none))) .none)))) .none)))))) .none))))) mixed (fun _ _=>Tryz.call105 _ _) Tryz.func105 (by kernel_rfl) (by kernel_rfl) h
theorem LU (n_0:Int) (b:B8) (f:B8) (a:TV) (c:B8) (d_0:Int) (d_1:Int) (d_2:Bool) (d_3:Bool) (st:St) (K:TV->Int->St->Prop) (h:CallT PR Eg [(.agg [.int .i64 n_0,.str b,.str f,a,.str c]),(.agg [.int .u8 d_0,.int .u8 d_1,.bool d_2,.bool d_3])] [.one .bool] st (fun (b1:Bool) q=>BIf (!b1) (K .nilSlice 1 q) (need (isSl a) (∃(I1:TV->Int->TV->Int->Int->Int->Bool->Bool->St->Prop) (M1:TV->Int->TV->Int->Int->Int->Bool->Bool->St->Nat),(I1 .nilSlice 0 a ((lenS a:Int)) d_0 d_1 d_2 d_3 q)/\∀e b n f n1 n2 b2 b3 o,I1 e b n f n1 n2 b2 b3 o->(BId (b<f) (((0<=b/\b<(lenZ 5 n:Int))/\Ae ((Ah o [] (.t (ixT 5 n b.toNat)) 0 5).map TV.agg) (fun (x1:TV)=>AK [.int .i64,.str,.str,.tv,.str] x1 (fun (n3:Int) (s1 s2:B8) (v1:TV) (s3:B8)=>need (List.all [.int .i64 n3,.str s1,.str s2,v1,.str s3] At) (need (isSl v1) (∃(I2:TV->Int->TV->TV->Int->Int->TV->Int->Int->Int->Bool->Bool->St->Prop) (M2:TV->Int->TV->TV->Int->Int->TV->Int->Int->Int->Bool->Bool->St->Nat),(I2 .nilSlice 0 e n f b v1 ((lenS v1:Int)) n1 n2 b2 b3 o)/\∀k a d j c i g m n4 n5 b4 b5 l,I2 k a d j c i g m n4 n5 b4 b5 l->(BId (a<m) (((0<=a/\a<(lenZ 5 g:Int))/\Ae ((Ah l [] (.t (ixT 5 g a.toNat)) 0 5).map TV.agg) (fun (x2:TV)=>AK [.int .i64,.str,.str,.tv,.str] x2 (fun (n6:Int) (s4 s5:B8) (v2:TV) (s6:B8)=>need (List.all [.int .i64 n6,.str s4,.str s5,v2,.str s6] At) (((0<=(0:Int)/\(0:Int)<(lenZ 5 v2:Int))/\need (isPtr (ixT 5 v2 (Int.toNat (0:Int)))) (Ae (Ac FU [] (.t (Am (ixT 5 v2 (Int.toNat (0:Int))) 2)) 0) (fun (x3:TV)=>Af .str x3 (fun (s7:B8)=>CallT PR Cl [.str s7,(.agg [.int .u8 n4,.int .u8 n5,.bool b4,.bool b5])] [.one .str,.one .bool] l (fun (s8:B8) (b6:Bool) s=>BM 4 1 1 k 1 [.bool b6] s (fun (v3:TV) r=>(I2 v3 ((i64.wrap (a+(1:Int)))) d j c i g m n4 n5 b4 b5 r/\M2 v3 ((i64.wrap (a+(1:Int)))) d j c i g m n4 n5 b4 b5 r<M2 k a d j c i g m n4 n5 b4 b5 l)))))))))))) (need (List.all [k] At) (need (List.all [k] At) (BM 164 1 24 d 1 [k] l (fun (v4:TV) p=>(I1 v4 ((i64.wrap (i+(1:Int)))) j c n4 n5 b4 b5 p/\M1 v4 ((i64.wrap (i+(1:Int)))) j c n4 n5 b4 b5 p<M1 e b n f n1 n2 b2 b3 o)))))))))))) (K e 0 o)))))):CallT PR EC [(.agg [.int .i64 n_0,.str b,.str f,a,.str c]),(.agg [.int .u8 d_0,.int .u8 d_1,.bool d_2,.bool d_3])] [.one .tv,.one (.int .i64)] st K:=
 Ag (cfg:=⟨[2,3,8,11],[],[]⟩) (h:=(.seq .none (.seq .none (.seq .none (.seq (.seq .none (.block (.loop ⟨[(6,.tv),(21,.int .i64),(19,.tv),(20,.int .i64)],[(3,1,0)],[(1,4)],[(1,0,.int .u8),(1,1,.int .u8),(1,2,.bool),(1,3,.bool)]⟩ (.seq .none (.seq .none (.seq (.block (.seq .none (.seq .none (.seq (.seq .none (.block (.loop ⟨[(9,.tv),(28,.int .i64),(6,.tv),(19,.tv),(20,.int .i64),(21,.int .i64),(26,.tv),(27,.int .i64)],[(3,1,0)],[(1,4)],[(1,0,.int .u8),(1,1,.int .u8),(1,2,.bool),(1,3,.bool)]⟩ .none))) .none)))) .none)))))) .none))))) mixed (fun _ _=>Tryz.call106 _ _) Tryz.func106 (by kernel_rfl) (by kernel_rfl) h
theorem Kr (src:B8) (st:St) (K:Int->St->Prop) (h:∃(I1:Int->B8->St->Prop) (M1:Int->B8->St->Nat),(I1 0 src st)/\∀b a c,I1 b a c->(BId (b<(a.length:Int)) (CallT PR Dd [.str a,.int .i64 b] [.one (.int .i64),.one (.int .i64)] c (fun (n1 n2:Int) d=>BId (n2=0) (K b d) ((I1 ((i64.wrap (b+n2))) a d/\M1 ((i64.wrap (b+n2))) a d<M1 b a c)))) (K (-1) c))):CallT PR D6 [.str src] [.one (.int .i64)] st K:=
 Ag (cfg:=⟨[],[],[]⟩) (h:=(.seq .none (.seq (.seq .none (.block (.loop ⟨[(3,.int .i64),(0,.str)],[],[],[]⟩ .none))) .none))) mixed (fun _ _=>Tryz.call118 _ _) Tryz.func118 (by kernel_rfl) (by kernel_rfl) h
theorem GM (p:Nat) (number:Int) (st:St) (K:Int->B8->B8->TV->B8->Bool->St->Prop) (h:BId (number=0) (Ae (Ac st [] (.t (.box p 3)) 0) (fun (x1:TV)=>Af .bool x1 (fun (b1:Bool)=>stB (st.push (.cells [.int .i64 0,(.str []),(.str []),.nilSlice,(.str [])]) (some 79)) (.box st.nb 0) [.int .i64 8,(.str []),(.str []),.nilSlice,(.str [])] (fun st1=>BIf (!b1) (CallT PR Be [(.box p 0),.int .i64 2] [.one .bool] st1 (fun (b2:Bool) j6=>BIf (!b2) (Ae ((Ah j6 [] (.t (.box st.nb 0)) 0 5).map TV.agg) (fun (x2:TV)=>AK [.int .i64,.str,.str,.tv,.str] x2 (fun (n1:Int) (s1 s2:B8) (v1:TV) (s3:B8)=>need (List.all [.int .i64 n1,.str s1,.str s2,v1,.str s3] At) (K n1 s1 s2 v1 s3 false j6)))) (∃(I1:TV->Int->Bool->TV->St->Prop) (M1:TV->Int->Bool->TV->St->Nat),(I1 ((.box p 0)) number b1 ((.box st.nb 0)) j6)/\∀f i k c w,I1 f i k c w->(BId ((0:Int)<i) (need (isPtr c) (Ae (Ac w [] (.t (Am c 3)) 0) (fun (v2:TV)=>need (isSl v2) (need (isPtr f) (need (isPtr f) (Ae (Ac w [] (.t (Am f 12)) 0) (fun (x4:TV)=>Af (.int .i64) x4 (fun (n2:Int)=>BId (n2<=(lenS v2:Int)) (Ae ((Ah w [] (.t c) 0 5).map TV.agg) (fun (x5:TV)=>AK [.int .i64,.str,.str,.tv,.str] x5 (fun (n3:Int) (s4 s5:B8) (v3:TV) (s6:B8)=>need (isPtr f) (need (isPtr f) (Ae (Ac w [] (.t (Am f 10)) 0) (fun (x6:TV)=>Af (.int .i64) x6 (fun (n4:Int)=>CallT PR Ak [f,.int .i64 n4,.int .i64 10] [.one .bool] w (fun (b3:Bool) st4=>(Ah st4 [] (.t c) 0 5=some [.int .i64 n3,.str s4,.str s5,v3,.str s6]/\need (List.all [.int .i64 n3,.str s4,.str s5,v3,.str s6] At) (K n3 s4 s5 v3 s6 b3 st4)))))))))) (CallT PR AO [f,.bool k] [.agg [.int .i64,.str,.str,.tv,.str],.one .bool] w (fun (n5:Int) (s7 s8:B8) (v4:TV) (s9:B8) (b4:Bool) f2=>need (List.all [.int .i64 n5,.str s7,.str s8,v4,.str s9] At) (BIf (!b4) (Ae ((Ah f2 [] (.t c) 0 5).map TV.agg) (fun (x7:TV)=>AK [.int .i64,.str,.str,.tv,.str] x7 (fun (n6:Int) (s10 s11:B8) (v5:TV) (z0:B8)=>need (List.all [.int .i64 n6,.str s10,.str s11,v5,.str z0] At) (K n6 s10 s11 v5 z0 false f2)))) (need (isPtr c) (Ae (Ac f2 [] (.t (Am c 3)) 0) (fun (v6:TV)=>need (isSl v6) (need (isPtr c) (need (List.all [.int .i64 n5,.str s7,.str s8,v4,.str s9] At) ((((lenS v6:Int)=(lenS v6:Int))/\BM 79 5 80 v6 1 [.int .i64 n5,.str s7,.str s8,v4,.str s9] f2 (fun (v7:TV) st6=>stB st6 (Am c 3) [v7] (fun e7=>need (isSl v4) (BId ((lenS v4:Int)=(1:Int)) (need (isPtr f) (need (isPtr f) (Ae (Ac e7 [] (.t (Am f 10)) 0) (fun (x9:TV)=>Af (.int .i64) x9 (fun (n7:Int)=>CallT PR AI [f,c] [.one .bool] e7 (fun (b5:Bool) x=>BIf (!b5) (Ae ((Ah x [] (.t c) 0 5).map TV.agg) (fun (x10:TV)=>AK [.int .i64,.str,.str,.tv,.str] x10 (fun (n8:Int) (s13 s14:B8) (v8:TV) (w7:B8)=>need (List.all [.int .i64 n8,.str s13,.str s14,v8,.str w7] At) (K n8 s13 s14 v8 w7 false x)))) (BId (i=0) (need (isPtr c) (Ae (Ac x [] (.t (Am c 3)) 0) (fun (v9:TV)=>need (isSl v9) (need (isPtr f) (need (isPtr f) (stB x (Am f 12) [(.int .i64 (lenS v9:Int))] (fun a3=>need (isPtr c) (Ae (Ac a3 [] (.t (Am c 3)) 0) (fun (z2:TV)=>need (isSl z2) (need (isPtr f) (need (isPtr f) (Ae (Ac a3 [] (.t (Am f 12)) 0) (fun (x13:TV)=>Af (.int .i64) x13 (fun (n9:Int)=>BId ((lenS z2:Int)<n9) (Ae ((Ah a3 [] (.t c) 0 5).map TV.agg) (fun (x14:TV)=>AK [.int .i64,.str,.str,.tv,.str] x14 (fun (g8:Int) (o7 l3:B8) (m4:TV) (j2:B8)=>CallT PR Ak [f,.int .i64 n7,.int .i64 10] [.one .bool] a3 (fun (b6:Bool) o0=>(Ah o0 [] (.t c) 0 5=some [.int .i64 g8,.str o7,.str l3,m4,.str j2]/\need (List.all [.int .i64 g8,.str o7,.str l3,m4,.str j2] At) (K g8 o7 l3 m4 j2 b6 o0)))))) (Ae ((Ah a3 [] (.t c) 0 5).map TV.agg) (fun (x15:TV)=>AK [.int .i64,.str,.str,.tv,.str] x15 (fun (n11:Int) (z6 s20:B8) (t9:TV) (s21:B8)=>need (List.all [.int .i64 n11,.str z6,.str s20,t9,.str s21] At) (K n11 z6 s20 t9 s21 true a3)))))))))))))))))) (need (isPtr c) (Ae (Ac x [] (.t (Am c 3)) 0) (fun (v13:TV)=>need (isSl v13) (need (isPtr f) (need (isPtr f) (Ae (Ac x [] (.t (Am f 12)) 0) (fun (x17:TV)=>Af (.int .i64) x17 (fun (n12:Int)=>BId ((lenS v13:Int)<n12) (Ae ((Ah x [] (.t c) 0 5).map TV.agg) (fun (x18:TV)=>AK [.int .i64,.str,.str,.tv,.str] x18 (fun (o6:Int) (l8 l9:B8) (q9:TV) (p6:B8)=>CallT PR Ak [f,.int .i64 n7,.int .i64 10] [.one .bool] x (fun (b7:Bool) m9=>(Ah m9 [] (.t c) 0 5=some [.int .i64 o6,.str l8,.str l9,q9,.str p6]/\need (List.all [.int .i64 o6,.str l8,.str l9,q9,.str p6] At) (K o6 l8 l9 q9 p6 b7 m9)))))) (Ae ((Ah x [] (.t c) 0 5).map TV.agg) (fun (x19:TV)=>AK [.int .i64,.str,.str,.tv,.str] x19 (fun (t0:Int) (z5 t7:B8) (v15:TV) (s27:B8)=>need (List.all [.int .i64 t0,.str z5,.str t7,v15,.str s27] At) (K t0 z5 t7 v15 s27 true x))))))))))))))))))) ((I1 f i k c e7/\M1 f i k c e7<M1 f i k c w))))))))))))))))))))))) (CallT PR AO [f,.bool k] [.agg [.int .i64,.str,.str,.tv,.str],.one .bool] w (fun (p1:Int) (l2 m7:B8) (c6:TV) (j3:B8) (b8:Bool) b0=>need (List.all [.int .i64 p1,.str l2,.str m7,c6,.str j3] At) (BIf (!b8) (Ae ((Ah b0 [] (.t c) 0 5).map TV.agg) (fun (x20:TV)=>AK [.int .i64,.str,.str,.tv,.str] x20 (fun (n16:Int) (r4 s32:B8) (u1:TV) (s33:B8)=>need (List.all [.int .i64 n16,.str r4,.str s32,u1,.str s33] At) (K n16 r4 s32 u1 s33 false b0)))) (need (isPtr c) (Ae (Ac b0 [] (.t (Am c 3)) 0) (fun (e9:TV)=>need (isSl e9) (need (isPtr c) (need (List.all [.int .i64 p1,.str l2,.str m7,c6,.str j3] At) ((((lenS e9:Int)=(lenS e9:Int))/\BM 79 5 80 e9 1 [.int .i64 p1,.str l2,.str m7,c6,.str j3] b0 (fun (v19:TV) st13=>stB st13 (Am c 3) [v19] (fun a9=>need (isSl c6) (BId ((lenS c6:Int)=(1:Int)) (need (isPtr f) (need (isPtr f) (Ae (Ac a9 [] (.t (Am f 10)) 0) (fun (x22:TV)=>Af (.int .i64) x22 (fun (n17:Int)=>CallT PR AI [f,c] [.one .bool] a9 (fun (b9:Bool) n=>BIf (!b9) (Ae ((Ah n [] (.t c) 0 5).map TV.agg) (fun (x23:TV)=>AK [.int .i64,.str,.str,.tv,.str] x23 (fun (n18:Int) (s34 s35:B8) (w3:TV) (v0:B8)=>need (List.all [.int .i64 n18,.str s34,.str s35,w3,.str v0] At) (K n18 s34 s35 w3 v0 false n)))) (BId (i=0) (need (isPtr c) (Ae (Ac n [] (.t (Am c 3)) 0) (fun (v21:TV)=>need (isSl v21) (need (isPtr f) (need (isPtr f) (stB n (Am f 12) [(.int .i64 (lenS v21:Int))] (fun y=>need (isPtr c) (Ae (Ac y [] (.t (Am c 3)) 0) (fun (v22:TV)=>need (isSl v22) (need (isPtr f) (need (isPtr f) (Ae (Ac y [] (.t (Am f 12)) 0) (fun (x26:TV)=>Af (.int .i64) x26 (fun (n19:Int)=>BId ((lenS v22:Int)<n19) (Ae ((Ah y [] (.t c) 0 5).map TV.agg) (fun (x27:TV)=>AK [.int .i64,.str,.str,.tv,.str] x27 (fun (f6:Int) (p2 i1:B8) (i8:TV) (g9:B8)=>CallT PR Ak [f,.int .i64 n17,.int .i64 10] [.one .bool] y (fun (b10:Bool) g6=>(Ah g6 [] (.t c) 0 5=some [.int .i64 f6,.str p2,.str i1,i8,.str g9]/\need (List.all [.int .i64 f6,.str p2,.str i1,i8,.str g9] At) (K f6 p2 i1 i8 g9 b10 g6)))))) (Ae ((Ah y [] (.t c) 0 5).map TV.agg) (fun (x28:TV)=>AK [.int .i64,.str,.str,.tv,.str] x28 (fun (z9:Int) (s40 s41:B8) (v24:TV) (z7:B8)=>need (List.all [.int .i64 z9,.str s40,.str s41,v24,.str z7] At) (K z9 s40 s41 v24 z7 true y)))))))))))))))))) (need (isPtr c) (Ae (Ac n [] (.t (Am c 3)) 0) (fun (v25:TV)=>need (isSl v25) (need (isPtr f) (need (isPtr f) (Ae (Ac n [] (.t (Am f 12)) 0) (fun (x30:TV)=>Af (.int .i64) x30 (fun (n22:Int)=>BId ((lenS v25:Int)<n22) (Ae ((Ah n [] (.t c) 0 5).map TV.agg) (fun (x31:TV)=>AK [.int .i64,.str,.str,.tv,.str] x31 (fun (k1:Int) (f7 r2:B8) (o4:TV) (i6:B8)=>CallT PR Ak [f,.int .i64 n17,.int .i64 10] [.one .bool] n (fun (b11:Bool) h0=>(Ah h0 [] (.t c) 0 5=some [.int .i64 k1,.str f7,.str r2,o4,.str i6]/\need (List.all [.int .i64 k1,.str f7,.str r2,o4,.str i6] At) (K k1 f7 r2 o4 i6 b11 h0)))))) (Ae ((Ah n [] (.t c) 0 5).map TV.agg) (fun (x32:TV)=>AK [.int .i64,.str,.str,.tv,.str] x32 (fun (u6:Int) (t2 y4:B8) (r5:TV) (y9:B8)=>need (List.all [.int .i64 u6,.str t2,.str y4,r5,.str y9] At) (K u6 t2 y4 r5 y9 true n))))))))))))))))))) ((I1 f i k c a9/\M1 f i k c a9<M1 f i k c w))))))))))))))))))) (∃(I2:TV->Int->Bool->TV->St->Prop) (M2:TV->Int->Bool->TV->St->Nat),(I2 ((.box p 0)) number b1 ((.box st.nb 0)) st1)/\∀d g m b o,I2 d g m b o->(BId ((0:Int)<g) (need (isPtr b) (Ae (Ac o [] (.t (Am b 3)) 0) (fun (v28:TV)=>need (isSl v28) (need (isPtr d) (need (isPtr d) (Ae (Ac o [] (.t (Am d 12)) 0) (fun (x34:TV)=>Af (.int .i64) x34 (fun (n25:Int)=>BId (n25<=(lenS v28:Int)) (Ae ((Ah o [] (.t b) 0 5).map TV.agg) (fun (x35:TV)=>AK [.int .i64,.str,.str,.tv,.str] x35 (fun (k0:Int) (h6 l6:B8) (j5:TV) (q1:B8)=>need (isPtr d) (need (isPtr d) (Ae (Ac o [] (.t (Am d 10)) 0) (fun (x36:TV)=>Af (.int .i64) x36 (fun (n27:Int)=>CallT PR Ak [d,.int .i64 n27,.int .i64 10] [.one .bool] o (fun (b12:Bool) h3=>(Ah h3 [] (.t b) 0 5=some [.int .i64 k0,.str h6,.str l6,j5,.str q1]/\need (List.all [.int .i64 k0,.str h6,.str l6,j5,.str q1] At) (K k0 h6 l6 j5 q1 b12 h3)))))))))) (CallT PR AO [d,.bool m] [.agg [.int .i64,.str,.str,.tv,.str],.one .bool] o (fun (g2:Int) (m6 r0:B8) (c3:TV) (p4:B8) (b13:Bool) a5=>need (List.all [.int .i64 g2,.str m6,.str r0,c3,.str p4] At) (BIf (!b13) (Ae ((Ah a5 [] (.t b) 0 5).map TV.agg) (fun (x37:TV)=>AK [.int .i64,.str,.str,.tv,.str] x37 (fun (n29:Int) (s55 r6:B8) (v31:TV) (t5:B8)=>need (List.all [.int .i64 n29,.str s55,.str r6,v31,.str t5] At) (K n29 s55 r6 v31 t5 false a5)))) (need (isPtr b) (Ae (Ac a5 [] (.t (Am b 3)) 0) (fun (f0:TV)=>need (isSl f0) (need (isPtr b) (need (List.all [.int .i64 g2,.str m6,.str r0,c3,.str p4] At) ((((lenS f0:Int)=(lenS f0:Int))/\BM 79 5 80 f0 1 [.int .i64 g2,.str m6,.str r0,c3,.str p4] a5 (fun (v33:TV) st22=>stB st22 (Am b 3) [v33] (fun a6=>need (isSl c3) (BId ((lenS c3:Int)=(1:Int)) (need (isPtr d) (need (isPtr d) (Ae (Ac a6 [] (.t (Am d 10)) 0) (fun (x39:TV)=>Af (.int .i64) x39 (fun (u2:Int)=>CallT PR AI [d,b] [.one .bool] a6 (fun (b14:Bool) u=>BIf (!b14) (Ae ((Ah u [] (.t b) 0 5).map TV.agg) (fun (x40:TV)=>AK [.int .i64,.str,.str,.tv,.str] x40 (fun (n31:Int) (s58 z8:B8) (r7:TV) (u7:B8)=>need (List.all [.int .i64 n31,.str s58,.str z8,r7,.str u7] At) (K n31 s58 z8 r7 u7 false u)))) (BId (g=0) (need (isPtr b) (Ae (Ac u [] (.t (Am b 3)) 0) (fun (v35:TV)=>need (isSl v35) (need (isPtr d) (need (isPtr d) (stB u (Am d 12) [(.int .i64 (lenS v35:Int))] (fun a2=>need (isPtr b) (Ae (Ac a2 [] (.t (Am b 3)) 0) (fun (w0:TV)=>need (isSl w0) (need (isPtr d) (need (isPtr d) (Ae (Ac a2 [] (.t (Am d 12)) 0) (fun (x43:TV)=>Af (.int .i64) x43 (fun (n32:Int)=>BId ((lenS w0:Int)<n32) (Ae ((Ah a2 [] (.t b) 0 5).map TV.agg) (fun (x44:TV)=>AK [.int .i64,.str,.str,.tv,.str] x44 (fun (o9:Int) (o2 k7:B8) (q4:TV) (k2:B8)=>CallT PR Ak [d,.int .i64 u2,.int .i64 10] [.one .bool] a2 (fun (b15:Bool) h8=>(Ah h8 [] (.t b) 0 5=some [.int .i64 o9,.str o2,.str k7,q4,.str k2]/\need (List.all [.int .i64 o9,.str o2,.str k7,q4,.str k2] At) (K o9 o2 k7 q4 k2 b15 h8)))))) (Ae ((Ah a2 [] (.t b) 0 5).map TV.agg) (fun (x45:TV)=>AK [.int .i64,.str,.str,.tv,.str] x45 (fun (n34:Int) (y3 s65:B8) (v38:TV) (s66:B8)=>need (List.all [.int .i64 n34,.str y3,.str s65,v38,.str s66] At) (K n34 y3 s65 v38 s66 true a2)))))))))))))))))) (need (isPtr b) (Ae (Ac u [] (.t (Am b 3)) 0) (fun (x0:TV)=>need (isSl x0) (need (isPtr d) (need (isPtr d) (Ae (Ac u [] (.t (Am d 12)) 0) (fun (x47:TV)=>Af (.int .i64) x47 (fun (n35:Int)=>BId ((lenS x0:Int)<n35) (Ae ((Ah u [] (.t b) 0 5).map TV.agg) (fun (x48:TV)=>AK [.int .i64,.str,.str,.tv,.str] x48 (fun (q7:Int) (i5 i4:B8) (g3:TV) (j8:B8)=>CallT PR Ak [d,.int .i64 u2,.int .i64 10] [.one .bool] u (fun (b16:Bool) f4=>(Ah f4 [] (.t b) 0 5=some [.int .i64 q7,.str i5,.str i4,g3,.str j8]/\need (List.all [.int .i64 q7,.str i5,.str i4,g3,.str j8] At) (K q7 i5 i4 g3 j8 b16 f4)))))) (Ae ((Ah u [] (.t b) 0 5).map TV.agg) (fun (x49:TV)=>AK [.int .i64,.str,.str,.tv,.str] x49 (fun (z1:Int) (s70 t6:B8) (z3:TV) (w1:B8)=>need (List.all [.int .i64 z1,.str s70,.str t6,z3,.str w1] At) (K z1 s70 t6 z3 w1 true u))))))))))))))))))) ((I2 d g m b a6/\M2 d g m b a6<M2 d g m b o))))))))))))))))))))))) (CallT PR AO [d,.bool m] [.agg [.int .i64,.str,.str,.tv,.str],.one .bool] o (fun (r1:Int) (g5 k3:B8) (c5:TV) (m3:B8) (b17:Bool) c2=>need (List.all [.int .i64 r1,.str g5,.str k3,c5,.str m3] At) (BIf (!b17) (Ae ((Ah c2 [] (.t b) 0 5).map TV.agg) (fun (x50:TV)=>AK [.int .i64,.str,.str,.tv,.str] x50 (fun (y6:Int) (w6 s77:B8) (v43:TV) (s78:B8)=>need (List.all [.int .i64 y6,.str w6,.str s77,v43,.str s78] At) (K y6 w6 s77 v43 s78 false c2)))) (need (isPtr b) (Ae (Ac c2 [] (.t (Am b 3)) 0) (fun (f3:TV)=>need (isSl f3) (need (isPtr b) (need (List.all [.int .i64 r1,.str g5,.str k3,c5,.str m3] At) ((((lenS f3:Int)=(lenS f3:Int))/\BM 79 5 80 f3 1 [.int .i64 r1,.str g5,.str k3,c5,.str m3] c2 (fun (v45:TV) st29=>stB st29 (Am b 3) [v45] (fun a8=>need (isSl c5) (BId ((lenS c5:Int)=(1:Int)) (need (isPtr d) (need (isPtr d) (Ae (Ac a8 [] (.t (Am d 10)) 0) (fun (x52:TV)=>Af (.int .i64) x52 (fun (n40:Int)=>CallT PR AI [d,b] [.one .bool] a8 (fun (b18:Bool) r=>BIf (!b18) (Ae ((Ah r [] (.t b) 0 5).map TV.agg) (fun (x53:TV)=>AK [.int .i64,.str,.str,.tv,.str] x53 (fun (w8:Int) (t8 z4:B8) (y2:TV) (s81:B8)=>need (List.all [.int .i64 w8,.str t8,.str z4,y2,.str s81] At) (K w8 t8 z4 y2 s81 false r)))) (BId (g=0) (need (isPtr b) (Ae (Ac r [] (.t (Am b 3)) 0) (fun (u3:TV)=>need (isSl u3) (need (isPtr d) (need (isPtr d) (stB r (Am d 12) [(.int .i64 (lenS u3:Int))] (fun a1=>need (isPtr b) (Ae (Ac a1 [] (.t (Am b 3)) 0) (fun (v48:TV)=>need (isSl v48) (need (isPtr d) (need (isPtr d) (Ae (Ac a1 [] (.t (Am d 12)) 0) (fun (x56:TV)=>Af (.int .i64) x56 (fun (n42:Int)=>BId ((lenS v48:Int)<n42) (Ae ((Ah a1 [] (.t b) 0 5).map TV.agg) (fun (x57:TV)=>AK [.int .i64,.str,.str,.tv,.str] x57 (fun (h1:Int) (o5 p7:B8) (m5:TV) (i7:B8)=>CallT PR Ak [d,.int .i64 n40,.int .i64 10] [.one .bool] a1 (fun (b19:Bool) j1=>(Ah j1 [] (.t b) 0 5=some [.int .i64 h1,.str o5,.str p7,m5,.str i7]/\need (List.all [.int .i64 h1,.str o5,.str p7,m5,.str i7] At) (K h1 o5 p7 m5 i7 b19 j1)))))) (Ae ((Ah a1 [] (.t b) 0 5).map TV.agg) (fun (x58:TV)=>AK [.int .i64,.str,.str,.tv,.str] x58 (fun (n44:Int) (s85 s86:B8) (v50:TV) (y1:B8)=>need (List.all [.int .i64 n44,.str s85,.str s86,v50,.str y1] At) (K n44 s85 s86 v50 y1 true a1)))))))))))))))))) (need (isPtr b) (Ae (Ac r [] (.t (Am b 3)) 0) (fun (r8:TV)=>need (isSl r8) (need (isPtr d) (need (isPtr d) (Ae (Ac r [] (.t (Am d 12)) 0) (fun (x60:TV)=>Af (.int .i64) x60 (fun (n45:Int)=>BId ((lenS r8:Int)<n45) (Ae ((Ah r [] (.t b) 0 5).map TV.agg) (fun (x61:TV)=>AK [.int .i64,.str,.str,.tv,.str] x61 (fun (p8:Int) (m1 q2:B8) (l5:TV) (p9:B8)=>CallT PR Ak [d,.int .i64 n40,.int .i64 10] [.one .bool] r (fun (b20:Bool) k6=>(Ah k6 [] (.t b) 0 5=some [.int .i64 p8,.str m1,.str q2,l5,.str p9]/\need (List.all [.int .i64 p8,.str m1,.str q2,l5,.str p9] At) (K p8 m1 q2 l5 p9 b20 k6)))))) (Ae ((Ah r [] (.t b) 0 5).map TV.agg) (fun (x62:TV)=>AK [.int .i64,.str,.str,.tv,.str] x62 (fun (n47:Int) (s91 s92:B8) (u9:TV) (u0:B8)=>need (List.all [.int .i64 n47,.str s91,.str s92,u9,.str u0] At) (K n47 s91 s92 u9 u0 true r))))))))))))))))))) ((I2 d g m b a8/\M2 d g m b a8<M2 d g m b o))))))))))))))))))))) (stB (st.push (.cells [.int .i64 0,(.str []),(.str []),.nilSlice,(.str [])]) (some 79)) (.box st.nb 0) [.int .i64 8,(.str []),(.str []),.nilSlice,(.str [])] (fun st35=>CallT PR Be [(.box p 0),.int .i64 2] [.one .bool] st35 (fun (b21:Bool) e3=>BIf (!b21) (Ae ((Ah e3 [] (.t (.box st.nb 0)) 0 5).map TV.agg) (fun (x63:TV)=>AK [.int .i64,.str,.str,.tv,.str] x63 (fun (w9:Int) (s94 x8:B8) (w4:TV) (t1:B8)=>need (List.all [.int .i64 w9,.str s94,.str x8,w4,.str t1] At) (K w9 s94 x8 w4 t1 false e3)))) (∃(I3:TV->Int->Bool->TV->St->Prop) (M3:TV->Int->Bool->TV->St->Nat),(I3 ((.box p 0)) number false ((.box st.nb 0)) e3)/\∀e j l a s,I3 e j l a s->(BId ((0:Int)<j) (need (isPtr a) (Ae (Ac s [] (.t (Am a 3)) 0) (fun (u8:TV)=>need (isSl u8) (need (isPtr e) (need (isPtr e) (Ae (Ac s [] (.t (Am e 12)) 0) (fun (x65:TV)=>Af (.int .i64) x65 (fun (n49:Int)=>BId (n49<=(lenS u8:Int)) (Ae ((Ah s [] (.t a) 0 5).map TV.agg) (fun (x66:TV)=>AK [.int .i64,.str,.str,.tv,.str] x66 (fun (h7:Int) (h5 i3:B8) (j9:TV) (g0:B8)=>need (isPtr e) (need (isPtr e) (Ae (Ac s [] (.t (Am e 10)) 0) (fun (x67:TV)=>Af (.int .i64) x67 (fun (n51:Int)=>CallT PR Ak [e,.int .i64 n51,.int .i64 10] [.one .bool] s (fun (b22:Bool) j0=>(Ah j0 [] (.t a) 0 5=some [.int .i64 h7,.str h5,.str i3,j9,.str g0]/\need (List.all [.int .i64 h7,.str h5,.str i3,j9,.str g0] At) (K h7 h5 i3 j9 g0 b22 j0)))))))))) (CallT PR AO [e,.bool l] [.agg [.int .i64,.str,.str,.tv,.str],.one .bool] s (fun (f5:Int) (d0 d1:B8) (c7:TV) (d7:B8) (b23:Bool) c0=>need (List.all [.int .i64 f5,.str d0,.str d1,c7,.str d7] At) (BIf (!b23) (Ae ((Ah c0 [] (.t a) 0 5).map TV.agg) (fun (x68:TV)=>AK [.int .i64,.str,.str,.tv,.str] x68 (fun (r9:Int) (h2 o3:B8) (v58:TV) (r3:B8)=>need (List.all [.int .i64 r9,.str h2,.str o3,v58,.str r3] At) (K r9 h2 o3 v58 r3 false c0)))) (need (isPtr a) (Ae (Ac c0 [] (.t (Am a 3)) 0) (fun (e8:TV)=>need (isSl e8) (need (isPtr a) (need (List.all [.int .i64 f5,.str d0,.str d1,c7,.str d7] At) ((((lenS e8:Int)=(lenS e8:Int))/\BM 79 5 80 e8 1 [.int .i64 f5,.str d0,.str d1,c7,.str d7] c0 (fun (v60:TV) st40=>stB st40 (Am a 3) [v60] (fun a4=>need (isSl c7) (BId ((lenS c7:Int)=(1:Int)) (need (isPtr e) (need (isPtr e) (Ae (Ac a4 [] (.t (Am e 10)) 0) (fun (x70:TV)=>Af (.int .i64) x70 (fun (w2:Int)=>CallT PR AI [e,a] [.one .bool] a4 (fun (b24:Bool) q=>BIf (!b24) (Ae ((Ah q [] (.t a) 0 5).map TV.agg) (fun (x71:TV)=>AK [.int .i64,.str,.str,.tv,.str] x71 (fun (n55:Int) (m2 n0:B8) (y0:TV) (q8:B8)=>need (List.all [.int .i64 n55,.str m2,.str n0,y0,.str q8] At) (K n55 m2 n0 y0 q8 false q)))) (BId (j=0) (need (isPtr a) (Ae (Ac q [] (.t (Am a 3)) 0) (fun (v62:TV)=>need (isSl v62) (need (isPtr e) (need (isPtr e) (stB q (Am e 12) [(.int .i64 (lenS v62:Int))] (fun z=>need (isPtr a) (Ae (Ac z [] (.t (Am a 3)) 0) (fun (v63:TV)=>need (isSl v63) (need (isPtr e) (need (isPtr e) (Ae (Ac z [] (.t (Am e 12)) 0) (fun (x74:TV)=>Af (.int .i64) x74 (fun (n56:Int)=>BId ((lenS v63:Int)<n56) (Ae ((Ah z [] (.t a) 0 5).map TV.agg) (fun (x75:TV)=>AK [.int .i64,.str,.str,.tv,.str] x75 (fun (i0:Int) (c9 e2:B8) (q5:TV) (e6:B8)=>CallT PR Ak [e,.int .i64 w2,.int .i64 10] [.one .bool] z (fun (b25:Bool) j4=>(Ah j4 [] (.t a) 0 5=some [.int .i64 i0,.str c9,.str e2,q5,.str e6]/\need (List.all [.int .i64 i0,.str c9,.str e2,q5,.str e6] At) (K i0 c9 e2 q5 e6 b25 j4)))))) (Ae ((Ah z [] (.t a) 0 5).map TV.agg) (fun (x76:TV)=>AK [.int .i64,.str,.str,.tv,.str] x76 (fun (s0:Int) (o8 m0:B8) (v65:TV) (p0:B8)=>need (List.all [.int .i64 s0,.str o8,.str m0,v65,.str p0] At) (K s0 o8 m0 v65 p0 true z)))))))))))))))))) (need (isPtr a) (Ae (Ac q [] (.t (Am a 3)) 0) (fun (u4:TV)=>need (isSl u4) (need (isPtr e) (need (isPtr e) (Ae (Ac q [] (.t (Am e 12)) 0) (fun (x78:TV)=>Af (.int .i64) x78 (fun (n59:Int)=>BId ((lenS u4:Int)<n59) (Ae ((Ah q [] (.t a) 0 5).map TV.agg) (fun (x79:TV)=>AK [.int .i64,.str,.str,.tv,.str] x79 (fun (g7:Int) (c8 d3:B8) (l1:TV) (d5:B8)=>CallT PR Ak [e,.int .i64 w2,.int .i64 10] [.one .bool] q (fun (b26:Bool) g4=>(Ah g4 [] (.t a) 0 5=some [.int .i64 g7,.str c8,.str d3,l1,.str d5]/\need (List.all [.int .i64 g7,.str c8,.str d3,l1,.str d5] At) (K g7 c8 d3 l1 d5 b26 g4)))))) (Ae ((Ah q [] (.t a) 0 5).map TV.agg) (fun (x80:TV)=>AK [.int .i64,.str,.str,.tv,.str] x80 (fun (t4:Int) (p5 h9:B8) (y8:TV) (i2:B8)=>need (List.all [.int .i64 t4,.str p5,.str h9,y8,.str i2] At) (K t4 p5 h9 y8 i2 true q))))))))))))))))))) ((I3 e j l a a4/\M3 e j l a a4<M3 e j l a s))))))))))))))))))))))) (CallT PR AO [e,.bool l] [.agg [.int .i64,.str,.str,.tv,.str],.one .bool] s (fun (k9:Int) (e5 e4:B8) (c4:TV) (d4:B8) (b27:Bool) a7=>need (List.all [.int .i64 k9,.str e5,.str e4,c4,.str d4] At) (BIf (!b27) (Ae ((Ah a7 [] (.t a) 0 5).map TV.agg) (fun (x81:TV)=>AK [.int .i64,.str,.str,.tv,.str] x81 (fun (y5:Int) (q6 f8:B8) (v70:TV) (j7:B8)=>need (List.all [.int .i64 y5,.str q6,.str f8,v70,.str j7] At) (K y5 q6 f8 v70 j7 false a7)))) (need (isPtr a) (Ae (Ac a7 [] (.t (Am a 3)) 0) (fun (f1:TV)=>need (isSl f1) (need (isPtr a) (need (List.all [.int .i64 k9,.str e5,.str e4,c4,.str d4] At) ((((lenS f1:Int)=(lenS f1:Int))/\BM 79 5 80 f1 1 [.int .i64 k9,.str e5,.str e4,c4,.str d4] a7 (fun (v72:TV) st47=>stB st47 (Am a 3) [v72] (fun c1=>need (isSl c4) (BId ((lenS c4:Int)=(1:Int)) (need (isPtr e) (need (isPtr e) (Ae (Ac c1 [] (.t (Am e 10)) 0) (fun (x83:TV)=>Af (.int .i64) x83 (fun (n64:Int)=>CallT PR AI [e,a] [.one .bool] c1 (fun (b28:Bool) v=>BIf (!b28) (Ae ((Ah v [] (.t a) 0 5).map TV.agg) (fun (x84:TV)=>AK [.int .i64,.str,.str,.tv,.str] x84 (fun (w5:Int) (l7 g1:B8) (v73:TV) (h4:B8)=>need (List.all [.int .i64 w5,.str l7,.str g1,v73,.str h4] At) (K w5 l7 g1 v73 h4 false v)))) (BId (j=0) (need (isPtr a) (Ae (Ac v [] (.t (Am a 3)) 0) (fun (v74:TV)=>need (isSl v74) (need (isPtr e) (need (isPtr e) (stB v (Am e 12) [(.int .i64 (lenS v74:Int))] (fun a0=>need (isPtr a) (Ae (Ac a0 [] (.t (Am a 3)) 0) (fun (t3:TV)=>need (isSl t3) (need (isPtr e) (need (isPtr e) (Ae (Ac a0 [] (.t (Am e 12)) 0) (fun (x87:TV)=>Af (.int .i64) x87 (fun (n66:Int)=>BId ((lenS t3:Int)<n66) (Ae ((Ah a0 [] (.t a) 0 5).map TV.agg) (fun (x88:TV)=>AK [.int .i64,.str,.str,.tv,.str] x88 (fun (o1:Int) (d9 e0:B8) (q0:TV) (d6:B8)=>CallT PR Ak [e,.int .i64 n64,.int .i64 10] [.one .bool] a0 (fun (b29:Bool) q3=>(Ah q3 [] (.t a) 0 5=some [.int .i64 o1,.str d9,.str e0,q0,.str d6]/\need (List.all [.int .i64 o1,.str d9,.str e0,q0,.str d6] At) (K o1 d9 e0 q0 d6 b29 q3)))))) (Ae ((Ah a0 [] (.t a) 0 5).map TV.agg) (fun (x89:TV)=>AK [.int .i64,.str,.str,.tv,.str] x89 (fun (n68:Int) (l0 f9:B8) (v77:TV) (k4:B8)=>need (List.all [.int .i64 n68,.str l0,.str f9,v77,.str k4] At) (K n68 l0 f9 v77 k4 true a0)))))))))))))))))) (need (isPtr a) (Ae (Ac v [] (.t (Am a 3)) 0) (fun (u5:TV)=>need (isSl u5) (need (isPtr e) (need (isPtr e) (Ae (Ac v [] (.t (Am e 12)) 0) (fun (x91:TV)=>Af (.int .i64) x91 (fun (n69:Int)=>BId ((lenS u5:Int)<n69) (Ae ((Ah v [] (.t a) 0 5).map TV.agg) (fun (x92:TV)=>AK [.int .i64,.str,.str,.tv,.str] x92 (fun (p3:Int) (d8 d2:B8) (k5:TV) (e1:B8)=>CallT PR Ak [e,.int .i64 n64,.int .i64 10] [.one .bool] v (fun (b30:Bool) m8=>(Ah m8 [] (.t a) 0 5=some [.int .i64 p3,.str d8,.str d2,k5,.str e1]/\need (List.all [.int .i64 p3,.str d8,.str d2,k5,.str e1] At) (K p3 d8 d2 k5 e1 b30 m8)))))) (Ae ((Ah v [] (.t a) 0 5).map TV.agg) (fun (x93:TV)=>AK [.int .i64,.str,.str,.tv,.str] x93 (fun (y7:Int) (l4 i9:B8) (x3:TV) (k8:B8)=>need (List.all [.int .i64 y7,.str l4,.str i9,x3,.str k8] At) (K y7 l4 i9 x3 k8 true v))))))))))))))))))) ((I3 e j l a c1/\M3 e j l a c1<M3 e j l a s))))))))))))))))))))):CallT PR B9 [(.box p 0),.int .i64 number] [.agg [.int .i64,.str,.str,.tv,.str],.one .bool] st K:=
 Ag (cfg:=⟨[4,8],[],[41,46,93]⟩) (h:=(.seq .none (.seq .none (.seq .none (.seq .none (.seq (.block (.loop ⟨[(0,.tv),(1,.int .i64),(6,.bool),(7,.tv)],[(4,0,0)],[(0,5)],[]⟩ .none)) .none)))))) mixed (fun _ _=>Tryz.call119 _ _) Tryz.func119 (by kernel_rfl) (by kernel_rfl) h
theorem N3 (n_0:Int) (f:B8) (i:B8) (a:TV) (g:B8) (depth:Int) (seen:Nat) (st:St) (K:Int->St->Prop) (h:BId ((192:Int)<depth) (K 9 st) (Ae (Ac st [] (.t (.box seen 0)) 0) (fun (x1:TV)=>Af (.int .i64) x1 (fun (n1:Int)=>stB st (.box seen 0) [(.int .i64 (i64.wrap (n1+(1:Int))))] (fun m=>Ae (Ac m [] (.t (.box seen 0)) 0) (fun (x2:TV)=>Af (.int .i64) x2 (fun (n2:Int)=>BId ((524288:Int)<n2) (K 10 m) (BId (n_0<1) (K 6 m) (BId ((12:Int)<=n_0) (K 6 m) (CallT PR G7 [.int .i64 n_0] [.one .bool] m (fun (b1:Bool) o=>BIf b1 (need (isSl a) (BId ((0:Int)<(lenS a:Int)) (K 1 o) (BId (g≠([]:B8)) (K 1 o) (need (isSl a) (∃(I1:Int->Int->TV->TV->Int->St->Prop) (M1:Int->Int->TV->TV->Int->St->Nat),(I1 0 depth ((.box seen 0)) a ((lenS a:Int)) o)/\∀f b e k i l,I1 f b e k i l->(BId (f<i) (((0<=f/\f<(lenZ 5 k:Int))/\Ae ((Ah l [] (.t (ixT 5 k f.toNat)) 0 5).map TV.agg) (fun (x3:TV)=>AK [.int .i64,.str,.str,.tv,.str] x3 (fun (n3:Int) (s1 s2:B8) (v1:TV) (s3:B8)=>need (List.all [.int .i64 n3,.str s1,.str s2,v1,.str s3] At) (CallT PR De [(.agg [.int .i64 n3,.str s1,.str s2,v1,.str s3]),(.int .i64 (i64.wrap (b+(1:Int)))),e] [.one (.int .i64)] l (fun (n4:Int) q=>BId (n4≠0) (K n4 q) ((I1 ((i64.wrap (f+(1:Int)))) b e k i q/\M1 ((i64.wrap (f+(1:Int)))) b e k i q<M1 f b e k i l)))))))) (K 0 l))))))) (need (isSl a) (∃(I2:Int->Int->TV->TV->Int->St->Prop) (M2:Int->Int->TV->TV->Int->St->Nat),(I2 0 depth ((.box seen 0)) a ((lenS a:Int)) o)/\∀a c d j g n,I2 a c d j g n->(BId (a<g) (((0<=a/\a<(lenZ 5 j:Int))/\Ae ((Ah n [] (.t (ixT 5 j a.toNat)) 0 5).map TV.agg) (fun (x4:TV)=>AK [.int .i64,.str,.str,.tv,.str] x4 (fun (n5:Int) (s4 s5:B8) (v2:TV) (s6:B8)=>need (List.all [.int .i64 n5,.str s4,.str s5,v2,.str s6] At) (CallT PR De [(.agg [.int .i64 n5,.str s4,.str s5,v2,.str s6]),(.int .i64 (i64.wrap (c+(1:Int)))),d] [.one (.int .i64)] n (fun (n6:Int) p=>BId (n6≠0) (K n6 p) ((I2 ((i64.wrap (a+(1:Int)))) c d j g p/\M2 ((i64.wrap (a+(1:Int)))) c d j g p<M2 a c d j g n)))))))) (K 0 n))))))))))))))):CallT PR De [(.agg [.int .i64 n_0,.str f,.str i,a,.str g]),.int .i64 depth,(.box seen 0)] [.one (.int .i64)] st K:=
 Ag (cfg:=⟨[3,8],[],[]⟩) (h:=(.seq .none (.seq .none (.seq .none (.seq .none (.seq .none (.seq (.seq .none (.block (.loop ⟨[(46,.int .i64),(1,.int .i64),(2,.tv),(44,.tv),(45,.int .i64)],[],[],[]⟩ .none))) .none))))))) mixed (fun _ _=>Tryz.call120 _ _) Tryz.func120 (by kernel_rfl) (by kernel_rfl) h
theorem QS (n_0:Int) (a:B8) (c:B8) (n_3:TV) (n_4:B8) (st:St) (K:Int->St->Prop) (h:need (isSl n_3) (∃(I1:Int->Int->TV->Int->St->Prop) (M1:Int->Int->TV->Int->St->Nat),(I1 ((i64.wrap ((i64.wrap ((a.length:Int)+(c.length:Int)))+(n_4.length:Int)))) 0 n_3 ((lenS n_3:Int)) st)/\∀b a d c e,I1 b a d c e->(BId (a<c) (((0<=a/\a<(lenZ 5 d:Int))/\Ae ((Ah e [] (.t (ixT 5 d a.toNat)) 0 5).map TV.agg) (fun (x1:TV)=>AK [.int .i64,.str,.str,.tv,.str] x1 (fun (n1:Int) (s1 s2:B8) (v1:TV) (s3:B8)=>need (List.all [.int .i64 n1,.str s1,.str s2,v1,.str s3] At) (CallT PR FM [(.agg [.int .i64 n1,.str s1,.str s2,v1,.str s3])] [.one (.int .i64)] e (fun (n2:Int) f=>(I1 ((i64.wrap (b+n2))) ((i64.wrap (a+(1:Int)))) d c f/\M1 ((i64.wrap (b+n2))) ((i64.wrap (a+(1:Int)))) d c f<M1 b a d c e))))))) (K b e)))):CallT PR FM [(.agg [.int .i64 n_0,.str a,.str c,n_3,.str n_4])] [.one (.int .i64)] st K:=
 Ag (cfg:=⟨[1,5],[],[]⟩) (h:=(.seq .none (.seq .none (.seq (.seq .none (.block (.loop ⟨[(3,.int .i64),(20,.int .i64),(18,.tv),(19,.int .i64)],[],[],[]⟩ .none))) .none)))) mixed (fun _ _=>Tryz.call121 _ _) Tryz.func121 (by kernel_rfl) (by kernel_rfl) h
theorem N2 (b:Nat) (n_0:Int) (a:B8) (c:B8) (n_3:TV) (n_4:B8) (st:St) (K:St->Prop) (h:CallT PR AP [(.box b 0),.str a] [.one (.int .i64),.one .tv] st (fun (n1:Int) (v1:TV) i=>CallT PR AP [(.box b 0),.str c] [.one (.int .i64),.one .tv] i (fun (n2:Int) (v2:TV) k=>need (isSl n_3) (∃(I1:Int->TV->TV->Int->Int->B8->B8->TV->B8->St->Prop) (M1:Int->TV->TV->Int->Int->B8->B8->TV->B8->St->Nat),(I1 0 ((.box b 0)) n_3 ((lenS n_3:Int)) n_0 a c n_3 n_4 k)/\∀a d e c n3 s1 s2 v3 s3 f,I1 a d e c n3 s1 s2 v3 s3 f->(BId (a<c) (((0<=a/\a<(lenZ 5 e:Int))/\Ae ((Ah f [] (.t (ixT 5 e a.toNat)) 0 5).map TV.agg) (fun (x1:TV)=>AK [.int .i64,.str,.str,.tv,.str] x1 (fun (n4:Int) (s4 s5:B8) (v4:TV) (s6:B8)=>need (List.all [.int .i64 n4,.str s4,.str s5,v4,.str s6] At) (CallT PR Ef [d,(.agg [.int .i64 n4,.str s4,.str s5,v4,.str s6])] [] f (fun (g:St)=>(I1 ((i64.wrap (a+(1:Int)))) d e c n3 s1 s2 v3 s3 g/\M1 ((i64.wrap (a+(1:Int)))) d e c n3 s1 s2 v3 s3 g<M1 a d e c n3 s1 s2 v3 s3 f))))))) (CallT PR AP [d,.str s3] [.one (.int .i64),.one .tv] f (fun (n5:Int) (v5:TV) j=>K j))))))):CallT PR Ef [(.box b 0),(.agg [.int .i64 n_0,.str a,.str c,n_3,.str n_4])] [] st K:=
 Ag (cfg:=⟨[3,5],[],[]⟩) (h:=(.seq .none (.seq .none (.seq .none (.seq (.seq .none (.block (.loop ⟨[(17,.int .i64),(0,.tv),(15,.tv),(16,.int .i64)],[(3,0,0)],[(0,5)],[(0,0,.int .i64),(0,1,.str),(0,2,.str),(0,3,.tv),(0,4,.str)]⟩ .none))) .none))))) mixed (fun _ _=>Tryz.call122 _ _) Tryz.func122 (by kernel_rfl) (by kernel_rfl) h
theorem Kq (b:Int) (st:St) (K:Bool->St->Prop) (h:CallT PR EB [.int .u8 b] [.one .bool] st (fun (b1:Bool) a=>BIf b1 (K true a) (BId ((48:Int)<=b) (BId (b<=57) (K true a) (BId (b=43) (K true a) (BId (b=45) (K true a) (BId (b=46) (K true a) (K ((decide (b=58))) a))))) (BId (b=43) (K true a) (BId (b=45) (K true a) (BId (b=46) (K true a) (K ((decide (b=58))) a))))))):CallT PR Bw [.int .u8 b] [.one .bool] st K:=
 Ag (cfg:=⟨[],[],[]⟩) (h:= .none) mixed (fun _ _=>Tryz.call128 _ _) Tryz.func128 (by kernel_rfl) (by kernel_rfl) h
theorem Mt (s:B8) (d_0:Int) (d_1:Int) (d_2:Bool) (d_3:Bool) (st:St) (K:B8->Int->St->Prop) (h:CallT PR CC [(.agg [.int .u8 d_0,.int .u8 d_1,.bool d_2,.bool d_3])] [.one .bool] st (fun (b1:Bool) f=>BIf (!b1) (K [] 1 f) (CallT PR DD [.str s] [.one .bool] f (fun (b2:Bool) e=>BIf (!b2) (K [] 5 e) (Ae ((toBytes e (.list 1 .full 1 [.int .u8 d_1])).map TV.str) (fun (x1:TV)=>Af .str x1 (fun (s1:B8)=>∃(I1:Int->B8->B8->Int->Int->Bool->Bool->St->Prop) (M1:Int->B8->B8->Int->Int->Bool->Bool->St->Nat),(I1 0 s s1 d_0 d_1 d_2 d_3 e)/\∀c b a n1 n2 b3 b4 d,I1 c b a n1 n2 b3 b4 d->(BId (c<(b.length:Int)) (((0<=c/\c<(b.length:Int))/\BId (((List.getD b c.toNat 0).toNat:Int)=n1) ((a.length+a.length<=9223372036854775807/\CallT PR AE [.str b,.str a,(.str (a++a))] [.one .str] d (fun (s2:B8) i=>(a.length+s2.length<=9223372036854775807/\(((a++s2)).length+a.length<=9223372036854775807/\K (((a++s2)++a)) 0 i))))) (BId (((List.getD b c.toNat 0).toNat:Int)=n2) ((a.length+a.length<=9223372036854775807/\CallT PR AE [.str b,.str a,(.str (a++a))] [.one .str] d (fun (s3:B8) j=>(a.length+s3.length<=9223372036854775807/\(((a++s3)).length+a.length<=9223372036854775807/\K (((a++s3)++a)) 0 j))))) (BId (((List.getD b c.toNat 0).toNat:Int)=(10:Int)) ((a.length+a.length<=9223372036854775807/\CallT PR AE [.str b,.str a,(.str (a++a))] [.one .str] d (fun (s4:B8) g=>(a.length+s4.length<=9223372036854775807/\(((a++s4)).length+a.length<=9223372036854775807/\K (((a++s4)++a)) 0 g))))) (BId (((List.getD b c.toNat 0).toNat:Int)=(13:Int)) ((a.length+a.length<=9223372036854775807/\CallT PR AE [.str b,.str a,(.str (a++a))] [.one .str] d (fun (s5:B8) k=>(a.length+s5.length<=9223372036854775807/\(((a++s5)).length+a.length<=9223372036854775807/\K (((a++s5)++a)) 0 k))))) ((I1 ((i64.wrap (c+(1:Int)))) b a n1 n2 b3 b4 d/\M1 ((i64.wrap (c+(1:Int)))) b a n1 n2 b3 b4 d<M1 c b a n1 n2 b3 b4 d))))))) (K b 0 d))))))))):CallT PR DJ [.str s,(.agg [.int .u8 d_0,.int .u8 d_1,.bool d_2,.bool d_3])] [.one .str,.one (.int .i64)] st K:=
 Ag (cfg:=⟨[3],[],[]⟩) (h:=(.seq .none (.seq .none (.seq .none (.seq .none (.seq (.seq .none (.block (.loop ⟨[(7,.int .i64),(0,.str),(6,.str)],[(3,0,0)],[(0,4)],[(0,0,.int .u8),(0,1,.int .u8),(0,2,.bool),(0,3,.bool)]⟩ .none))) .none)))))) mixed (fun _ _=>Tryz.call145 _ _) Tryz.func145 (by kernel_rfl) (by kernel_rfl) h
theorem N9 (n_0:Int) (n_1:B8) (n_2:B8) (n_3:TV) (n_4:B8) (d_0:Int) (d_1:Int) (d_2:Bool) (d_3:Bool) (st:St) (K:Bool->St->Prop) (h:CallT PR Ge [(.agg [.int .i64 n_0,.str n_1,.str n_2,n_3,.str n_4])] [.one (.int .i64)] st (fun (n1:Int) a=>BId (n1≠0) (K false a) (CallT PR Gd [(.agg [.int .i64 n_0,.str n_1,.str n_2,n_3,.str n_4])] [.one .str] a (fun (s1:B8) e=>CallT PR DG [] [.agg [.int .i64,.int .i64,.int .i64,.int .i64,.int .i64]] e (fun (n2 n3 n4 n5 n6:Int) c=>CallT PR DK [.str s1,(.agg [.int .u8 d_0,.int .u8 d_1,.bool d_2,.bool d_3]),(.agg [.int .i64 n2,.int .i64 n3,.int .i64 n4,.int .i64 n5,.int .i64 n6])] [.agg [.int .i64,.str,.str,.tv,.str],.one (.int .i64),.one (.int .i64)] c (fun (n7:Int) (s2 s3:B8) (v1:TV) (s4:B8) (n8 n9:Int) b=>need (List.all [.int .i64 n7,.str s2,.str s3,v1,.str s4] At) (BId (n9=0) (CallT PR EV [(.agg [.int .i64 n7,.str s2,.str s3,v1,.str s4]),(.agg [.int .i64 n_0,.str n_1,.str n_2,n_3,.str n_4])] [.one .bool] b (fun (b1:Bool) d=>K b1 d)) (K false b)))))))):CallT PR Eg [(.agg [.int .i64 n_0,.str n_1,.str n_2,n_3,.str n_4]),(.agg [.int .u8 d_0,.int .u8 d_1,.bool d_2,.bool d_3])] [.one .bool] st K:=
 Ag (cfg:=⟨[2,3,5],[],[]⟩) (h:= .none) mixed (fun _ _=>Tryz.call173 _ _) Tryz.func173 (by kernel_rfl) (by kernel_rfl) h
theorem N8 (cell:B8) (d_0:Int) (d_1:Int) (d_2:Bool) (d_3:Bool) (st:St) (K:B8->Bool->St->Prop) (h:BId (cell=([]:B8)) (K cell false st) (((0<=(0:Int)/\(0:Int)<(cell.length:Int))/\BId (((List.getD cell (Int.toNat (0:Int)) 0).toNat:Int)≠d_1) (K cell false st) (Ae ((toBytes st (.list 1 .full 1 [.int .u8 d_1])).map TV.str) (fun (x1:TV)=>Af .str x1 (fun (s1:B8)=>((0<=(1:Int)/\(1:Int)<=(i64.wrap ((cell.length:Int)-(1:Int)))/\(i64.wrap ((cell.length:Int)-(1:Int)))<=(cell.length:Int))/\(s1.length+s1.length<=9223372036854775807/\CallT PR AE [(.str (List.drop (Int.toNat (1:Int)) (List.take (Int.toNat (i64.wrap ((cell.length:Int)-(1:Int)))) cell))),(.str (s1++s1)),.str s1] [.one .str] st (fun (s2:B8) a=>K s2 true a))))))))):CallT PR Cl [.str cell,(.agg [.int .u8 d_0,.int .u8 d_1,.bool d_2,.bool d_3])] [.one .str,.one .bool] st K:=
 Ag (cfg:=⟨[3],[],[]⟩) (h:= .none) mixed (fun _ _=>Tryz.call174 _ _) Tryz.func174 (by kernel_rfl) (by kernel_rfl) h
theorem Hu (p:Nat) (depth:Int) (st:St) (K:Bool->St->Prop) (h:Ae (Ac st [] (.t (.box p 5)) 0) (fun (x1:TV)=>Af (.int .i64) x1 (fun (n1:Int)=>BId (n1<depth) (Ae (Ac st [] (.t (.box p 10)) 0) (fun (x2:TV)=>Af (.int .i64) x2 (fun (n2:Int)=>CallT PR Ak [(.box p 0),.int .i64 n2,.int .i64 9] [.one .bool] st (fun (b1:Bool) b=>K b1 b)))) (Ae (Ac st [] (.t (.box p 11)) 0) (fun (x3:TV)=>Af (.int .i64) x3 (fun (n3:Int)=>Ae (Ac st [] (.t (.box p 6)) 0) (fun (x4:TV)=>Af (.int .i64) x4 (fun (n4:Int)=>BId (n4<=n3) (Ae (Ac st [] (.t (.box p 10)) 0) (fun (x5:TV)=>Af (.int .i64) x5 (fun (n5:Int)=>CallT PR Ak [(.box p 0),.int .i64 n5,.int .i64 10] [.one .bool] st (fun (b2:Bool) c=>K b2 c)))) (Ae (Ac st [] (.t (.box p 11)) 0) (fun (x6:TV)=>Af (.int .i64) x6 (fun (n6:Int)=>stB st (.box p 11) [(.int .i64 (i64.wrap (n6+(1:Int))))] (fun a=>K true a)))))))))))):CallT PR Be [(.box p 0),.int .i64 depth] [.one .bool] st K:=
 Ag (cfg:=⟨[],[],[]⟩) (h:= .none) mixed (fun _ _=>Tryz.call191 _ _) Tryz.func191 (by kernel_rfl) (by kernel_rfl) h
theorem HM (p:Nat) (atx:Int) (e:Int) (st:St) (K:Bool->St->Prop) (h:stB st (.box p 14) [.int .i64 atx] (fun a=>stB a (.box p 15) [.int .i64 e] (fun b=>K false b))):CallT PR Ak [(.box p 0),.int .i64 atx,.int .i64 e] [.one .bool] st K:=
 Ag (cfg:=⟨[],[],[]⟩) (h:= .none) mixed (fun _ _=>Tryz.call192 _ _) Tryz.func192 (by kernel_rfl) (by kernel_rfl) h
theorem Hv (p:Nat) (header:Bool) (st:St) (K:Int->B8->B8->TV->B8->Bool->St->Prop) (h:BIf (!header) (CallT PR Be [(.box p 0),.int .i64 3] [.one .bool] st (fun (b1:Bool) a9=>BIf (!b1) (K 5 [] [] .nilSlice [] false a9) (Ae (Ac a9 [] (.t (.box p 10)) 0) (fun (x1:TV)=>Af (.int .i64) x1 (fun (n1:Int)=>CallT PR BL [(.box p 0)] [.one .bool] a9 (fun (b2:Bool) a1=>BIf (!b2) (K 5 [] [] .nilSlice [] false a1) (Ae (Ac a1 [] (.t (.box p 0)) 0) (fun (x2:TV)=>Af .str x2 (fun (s1:B8)=>Ae (Ac a1 [] (.t (.box p 10)) 0) (fun (x3:TV)=>Af (.int .i64) x3 (fun (n2:Int)=>((0<=n1/\n1<=n2/\n2<=(s1.length:Int))/\Ae ((Ah a1 [] (.t (.box p 1)) 0 4).map TV.agg) (fun (x4:TV)=>AK [.int .u8,.int .u8,.bool,.bool] x4 (fun (n3 n4:Int) (b3 b4:Bool)=>CallT PR Cl [(.str (List.drop n1.toNat (List.take n2.toNat s1))),(.agg [.int .u8 n3,.int .u8 n4,.bool b3,.bool b4])] [.one .str,.one .bool] a1 (fun (s2:B8) (b5:Bool) d0=>∃(C1:Int->TV->Bool->Int->B8->B8->Int->B8->B8->TV->B8->St->Prop),(BIf header (C1 1024 ((.box p 0)) header n1 ((List.drop n1.toNat (List.take n2.toNat s1))) s2 5 [] [] .nilSlice [] d0) (C1 65536 ((.box p 0)) header n1 ((List.drop n1.toNat (List.take n2.toNat s1))) s2 5 [] [] .nilSlice [] d0))/\∀a0 a n q u a6 n5 s3 s4 v1 s5 m,C1 a0 a n q u a6 n5 s3 s4 v1 s5 m->(BId (a0<(a6.length:Int)) (CallT PR Ak [a,.int .i64 q,.int .i64 10] [.one .bool] m (fun (b6:Bool) f3=>need (List.all [.int .i64 n5,.str s3,.str s4,v1,.str s5] At) (K n5 s3 s4 v1 s5 b6 f3))) (BIf n (need (isPtr a) (need (isPtr a) (Ae (Ac m [] (.t (Am a 13)) 0) (fun (v2:TV)=>Ae (H4 m v2) (fun (es1:List (B8×TV))=>Af .bool (KU (.bool false) (CE a6 es1)) (fun (b7:Bool)=>BIf b7 (CallT PR Ak [a,.int .i64 q,.int .i64 8] [.one .bool] m (fun (b8:Bool) f0=>need (List.all [.int .i64 n5,.str s3,.str s4,v1,.str s5] At) (K n5 s3 s4 v1 s5 b8 f0))) (need (isPtr a) (need (isPtr a) (Ae (Ac m [] (.t (Am a 13)) 0) (fun (v3:TV)=>muK v3 a6 (.bool true) m (fun e2=>BM 79 5 80 v1 1 [.int .i64 2,(.str []),.str u,.nilSlice,(.str [])] e2 (fun (v4:TV) l=>need (List.all [v4] At) (need (isPtr a) (need (isPtr a) (Ae (Ac l [] (.t (Am a 10)) 0) (fun (x7:TV)=>Af (.int .i64) x7 (fun (n6:Int)=>need (isPtr a) (need (isPtr a) (Ae (Ac l [] (.t (Am a 0)) 0) (fun (x8:TV)=>Af .str x8 (fun (s6:B8)=>BId (n6<(s6.length:Int)) (need (isPtr a) (need (isPtr a) (Ae (Ac l [] (.t (Am a 0)) 0) (fun (x9:TV)=>Af .str x9 (fun (s7:B8)=>need (isPtr a) (need (isPtr a) (Ae (Ac l [] (.t (Am a 10)) 0) (fun (f5:TV)=>Af (.int .i64) f5 (fun (n7:Int)=>((0<=n7/\n7<(s7.length:Int))/\need (isPtr a) (need (isPtr a) (need (isPtr (Am a 1)) (Ae (Ac l [] (.t (Am (Am a 1) 0)) 0) (fun (g0:TV)=>Af (.int .u8) g0 (fun (n8:Int)=>BId (((List.getD s7 n7.toNat 0).toNat:Int)=n8) (need (isPtr a) (need (isPtr a) (Ae (Ac l [] (.t (Am a 10)) 0) (fun (g5:TV)=>Af (.int .i64) g5 (fun (n9:Int)=>need (isPtr a) (need (isPtr a) (stB l (Am a 10) [(.int .i64 (i64.wrap (n9+(1:Int))))] (fun c3=>need (isPtr a) (need (isPtr a) (need (isPtr (Am a 1)) (Ae (Ac c3 [] (.t (Am (Am a 1) 0)) 0) (fun (j4:TV)=>Af (.int .u8) j4 (fun (i1:Int)=>Ae ((toBytes c3 (.list 1 .full 1 [.int .u8 i1])).map TV.str) (fun (h4:TV)=>Af .str h4 (fun (s8:B8)=>BM 79 5 80 v4 1 [.int .i64 11,(.str []),.str s8,.nilSlice,(.str [])] c3 (fun (v5:TV) d7=>need (List.all [v5] At) (need (List.all [.int .i64 n5,.str s3,.str s4,v5,.str s5] At) (K n5 s3 s4 v5 s5 true d7)))))))))))))))))) (need (List.all [.int .i64 n5,.str s3,.str s4,v4,.str s5] At) (K n5 s3 s4 v4 s5 true l))))))))))))))))) (need (List.all [.int .i64 n5,.str s3,.str s4,v4,.str s5] At) (K n5 s3 s4 v4 s5 true l))))))))))))))))))))))) (BM 79 5 80 v1 1 [.int .i64 2,(.str []),.str u,.nilSlice,(.str [])] m (fun (v6:TV) g=>need (List.all [v6] At) (need (isPtr a) (need (isPtr a) (Ae (Ac g [] (.t (Am a 10)) 0) (fun (d8:TV)=>Af (.int .i64) d8 (fun (j7:Int)=>need (isPtr a) (need (isPtr a) (Ae (Ac g [] (.t (Am a 0)) 0) (fun (f8:TV)=>Af .str f8 (fun (s9:B8)=>BId (j7<(s9.length:Int)) (need (isPtr a) (need (isPtr a) (Ae (Ac g [] (.t (Am a 0)) 0) (fun (f4:TV)=>Af .str f4 (fun (c7:B8)=>need (isPtr a) (need (isPtr a) (Ae (Ac g [] (.t (Am a 10)) 0) (fun (i3:TV)=>Af (.int .i64) i3 (fun (b0:Int)=>((0<=b0/\b0<(c7.length:Int))/\need (isPtr a) (need (isPtr a) (need (isPtr (Am a 1)) (Ae (Ac g [] (.t (Am (Am a 1) 0)) 0) (fun (j6:TV)=>Af (.int .u8) j6 (fun (d9:Int)=>BId (((List.getD c7 b0.toNat 0).toNat:Int)=d9) (need (isPtr a) (need (isPtr a) (Ae (Ac g [] (.t (Am a 10)) 0) (fun (f6:TV)=>Af (.int .i64) f6 (fun (e8:Int)=>need (isPtr a) (need (isPtr a) (stB g (Am a 10) [(.int .i64 (i64.wrap (e8+(1:Int))))] (fun a4=>need (isPtr a) (need (isPtr a) (need (isPtr (Am a 1)) (Ae (Ac a4 [] (.t (Am (Am a 1) 0)) 0) (fun (i7:TV)=>Af (.int .u8) i7 (fun (f1:Int)=>Ae ((toBytes a4 (.list 1 .full 1 [.int .u8 f1])).map TV.str) (fun (h1:TV)=>Af .str h1 (fun (f2:B8)=>BM 79 5 80 v6 1 [.int .i64 11,(.str []),.str f2,.nilSlice,(.str [])] a4 (fun (v7:TV) d4=>need (List.all [v7] At) (need (List.all [.int .i64 n5,.str s3,.str s4,v7,.str s5] At) (K n5 s3 s4 v7 s5 true d4)))))))))))))))))) (need (List.all [.int .i64 n5,.str s3,.str s4,v6,.str s5] At) (K n5 s3 s4 v6 s5 true g))))))))))))))))) (need (List.all [.int .i64 n5,.str s3,.str s4,v6,.str s5] At) (K n5 s3 s4 v6 s5 true g)))))))))))))))))))))))))))))) (Ae (Ac st [] (.t (.box p 10)) 0) (fun (h5:TV)=>Af (.int .i64) h5 (fun (v:Int)=>CallT PR BL [(.box p 0)] [.one .bool] st (fun (b9:Bool) o=>BIf (!b9) (K 5 [] [] .nilSlice [] false o) (Ae (Ac o [] (.t (.box p 0)) 0) (fun (h8:TV)=>Af .str h8 (fun (a7:B8)=>Ae (Ac o [] (.t (.box p 10)) 0) (fun (g2:TV)=>Af (.int .i64) g2 (fun (a2:Int)=>((0<=v/\v<=a2/\a2<=(a7.length:Int))/\Ae ((Ah o [] (.t (.box p 1)) 0 4).map TV.agg) (fun (e4:TV)=>AK [.int .u8,.int .u8,.bool,.bool] e4 (fun (e1 g4:Int) (g9 j9:Bool)=>CallT PR Cl [(.str (List.drop v.toNat (List.take a2.toNat a7))),(.agg [.int .u8 e1,.int .u8 g4,.bool g9,.bool j9])] [.one .str,.one .bool] o (fun (c6:B8) (k0:Bool) c2=>∃(C2:Int->TV->Bool->Int->B8->B8->Int->B8->B8->TV->B8->St->Prop),(BIf header (C2 1024 ((.box p 0)) header v ((List.drop v.toNat (List.take a2.toNat a7))) c6 5 [] [] .nilSlice [] c2) (C2 65536 ((.box p 0)) header v ((List.drop v.toNat (List.take a2.toNat a7))) c6 5 [] [] .nilSlice [] c2))/\∀z b w r s a8 e f d v8 c k,C2 z b w r s a8 e f d v8 c k->(BId (z<(a8.length:Int)) (CallT PR Ak [b,.int .i64 r,.int .i64 10] [.one .bool] k (fun (e9:Bool) d5=>need (List.all [.int .i64 e,.str f,.str d,v8,.str c] At) (K e f d v8 c e9 d5))) (BIf w (need (isPtr b) (need (isPtr b) (Ae (Ac k [] (.t (Am b 13)) 0) (fun (v9:TV)=>Ae (H4 k v9) (fun (es2:List (B8×TV))=>Af .bool (KU (.bool false) (CE a8 es2)) (fun (e7:Bool)=>BIf e7 (CallT PR Ak [b,.int .i64 r,.int .i64 8] [.one .bool] k (fun (j1:Bool) d6=>need (List.all [.int .i64 e,.str f,.str d,v8,.str c] At) (K e f d v8 c j1 d6))) (need (isPtr b) (need (isPtr b) (Ae (Ac k [] (.t (Am b 13)) 0) (fun (i4:TV)=>muK i4 a8 (.bool true) k (fun d2=>BM 79 5 80 v8 1 [.int .i64 2,(.str []),.str s,.nilSlice,(.str [])] d2 (fun (x:TV) i=>need (List.all [x] At) (need (isPtr b) (need (isPtr b) (Ae (Ac i [] (.t (Am b 10)) 0) (fun (i8:TV)=>Af (.int .i64) i8 (fun (j8:Int)=>need (isPtr b) (need (isPtr b) (Ae (Ac i [] (.t (Am b 0)) 0) (fun (f7:TV)=>Af .str f7 (fun (g1:B8)=>BId (j8<(g1.length:Int)) (need (isPtr b) (need (isPtr b) (Ae (Ac i [] (.t (Am b 0)) 0) (fun (g7:TV)=>Af .str g7 (fun (c9:B8)=>need (isPtr b) (need (isPtr b) (Ae (Ac i [] (.t (Am b 10)) 0) (fun (h6:TV)=>Af (.int .i64) h6 (fun (c0:Int)=>((0<=c0/\c0<(c9.length:Int))/\need (isPtr b) (need (isPtr b) (need (isPtr (Am b 1)) (Ae (Ac i [] (.t (Am (Am b 1) 0)) 0) (fun (e5:TV)=>Af (.int .u8) e5 (fun (i9:Int)=>BId (((List.getD c9 c0.toNat 0).toNat:Int)=i9) (need (isPtr b) (need (isPtr b) (Ae (Ac i [] (.t (Am b 10)) 0) (fun (h2:TV)=>Af (.int .i64) h2 (fun (j3:Int)=>need (isPtr b) (need (isPtr b) (stB i (Am b 10) [(.int .i64 (i64.wrap (j3+(1:Int))))] (fun a5=>need (isPtr b) (need (isPtr b) (need (isPtr (Am b 1)) (Ae (Ac a5 [] (.t (Am (Am b 1) 0)) 0) (fun (j5:TV)=>Af (.int .u8) j5 (fun (i2:Int)=>Ae ((toBytes a5 (.list 1 .full 1 [.int .u8 i2])).map TV.str) (fun (e0:TV)=>Af .str e0 (fun (j0:B8)=>BM 79 5 80 x 1 [.int .i64 11,(.str []),.str j0,.nilSlice,(.str [])] a5 (fun (c1:TV) d3=>need (List.all [c1] At) (need (List.all [.int .i64 e,.str f,.str d,c1,.str c] At) (K e f d c1 c true d3)))))))))))))))))) (need (List.all [.int .i64 e,.str f,.str d,x,.str c] At) (K e f d x c true i))))))))))))))))) (need (List.all [.int .i64 e,.str f,.str d,x,.str c] At) (K e f d x c true i))))))))))))))))))))))) (BM 79 5 80 v8 1 [.int .i64 2,(.str []),.str s,.nilSlice,(.str [])] k (fun (y:TV) j=>need (List.all [y] At) (need (isPtr b) (need (isPtr b) (Ae (Ac j [] (.t (Am b 10)) 0) (fun (h7:TV)=>Af (.int .i64) h7 (fun (h3:Int)=>need (isPtr b) (need (isPtr b) (Ae (Ac j [] (.t (Am b 0)) 0) (fun (h9:TV)=>Af .str h9 (fun (g8:B8)=>BId (h3<(g8.length:Int)) (need (isPtr b) (need (isPtr b) (Ae (Ac j [] (.t (Am b 0)) 0) (fun (f9:TV)=>Af .str f9 (fun (c8:B8)=>need (isPtr b) (need (isPtr b) (Ae (Ac j [] (.t (Am b 10)) 0) (fun (e3:TV)=>Af (.int .i64) e3 (fun (c4:Int)=>((0<=c4/\c4<(c8.length:Int))/\need (isPtr b) (need (isPtr b) (need (isPtr (Am b 1)) (Ae (Ac j [] (.t (Am (Am b 1) 0)) 0) (fun (i6:TV)=>Af (.int .u8) i6 (fun (g3:Int)=>BId (((List.getD c8 c4.toNat 0).toNat:Int)=g3) (need (isPtr b) (need (isPtr b) (Ae (Ac j [] (.t (Am b 10)) 0) (fun (j2:TV)=>Af (.int .i64) j2 (fun (h0:Int)=>need (isPtr b) (need (isPtr b) (stB j (Am b 10) [(.int .i64 (i64.wrap (h0+(1:Int))))] (fun a3=>need (isPtr b) (need (isPtr b) (need (isPtr (Am b 1)) (Ae (Ac a3 [] (.t (Am (Am b 1) 0)) 0) (fun (i0:TV)=>Af (.int .u8) i0 (fun (i5:Int)=>Ae ((toBytes a3 (.list 1 .full 1 [.int .u8 i5])).map TV.str) (fun (e6:TV)=>Af .str e6 (fun (g6:B8)=>BM 79 5 80 y 1 [.int .i64 11,(.str []),.str g6,.nilSlice,(.str [])] a3 (fun (c5:TV) d1=>need (List.all [c5] At) (need (List.all [.int .i64 e,.str f,.str d,c5,.str c] At) (K e f d c5 c true d1)))))))))))))))))) (need (List.all [.int .i64 e,.str f,.str d,y,.str c] At) (K e f d y c true j))))))))))))))))) (need (List.all [.int .i64 e,.str f,.str d,y,.str c] At) (K e f d y c true j))))))))))))))))))))))))))))):CallT PR AO [(.box p 0),.bool header] [.agg [.int .i64,.str,.str,.tv,.str],.one .bool] st K:=
 Ag (cfg:=⟨[4,6],[],[]⟩) (h:=(.seq .none (.seq .none (.seq .none (.seq .none (.seq .none (.seq .none (.seq .none (.seq .none (.cut ⟨[(11,.int .i64),(0,.tv),(1,.bool),(7,.int .i64),(8,.str),(9,.str)],[(4,0,0),(6,1,0)],[(0,5),(1,5)],[(1,0,.int .i64),(1,1,.str),(1,2,.str),(1,3,.tv),(1,4,.str)]⟩ .none .none)))))))))) mixed (fun _ _=>Tryz.call193 _ _) Tryz.func193 (by kernel_rfl) (by kernel_rfl) h
theorem Gr (p:Nat) (r:Nat) (st:St) (K:Bool->St->Prop) (h:Ae (Ac st [] (.t (.box p 10)) 0) (fun (x1:TV)=>Af (.int .i64) x1 (fun (n1:Int)=>Ae (Ac st [] (.t (.box p 10)) 0) (fun (x2:TV)=>Af (.int .i64) x2 (fun (n2:Int)=>Ae (Ac st [] (.t (.box p 0)) 0) (fun (x3:TV)=>Af .str x3 (fun (s1:B8)=>BId (n2=(s1.length:Int)) (K true st) (Ae (Ac st [] (.t (.box p 0)) 0) (fun (x4:TV)=>Af .str x4 (fun (s2:B8)=>Ae (Ac st [] (.t (.box p 10)) 0) (fun (x5:TV)=>Af (.int .i64) x5 (fun (n3:Int)=>((0<=n3/\n3<(s2.length:Int))/\BId (((List.getD s2 n3.toNat 0).toNat:Int)=(13:Int)) (Ae (Ac st [] (.t (.box p 10)) 0) (fun (x6:TV)=>Af (.int .i64) x6 (fun (n4:Int)=>stB st (.box p 10) [(.int .i64 (i64.wrap (n4+(1:Int))))] (fun a=>Ae (Ac a [] (.t (.box p 10)) 0) (fun (x7:TV)=>Af (.int .i64) x7 (fun (n5:Int)=>Ae (Ac a [] (.t (.box p 0)) 0) (fun (x8:TV)=>Af .str x8 (fun (s3:B8)=>BId (n5=(s3.length:Int)) (Ae (Ac a [] (.t (.box p 10)) 0) (fun (x9:TV)=>Af (.int .i64) x9 (fun (n6:Int)=>CallT PR Ak [(.box p 0),.int .i64 n6,.int .i64 4] [.one .bool] a (fun (b1:Bool) o=>K b1 o)))) (Ae (Ac a [] (.t (.box p 0)) 0) (fun (e:TV)=>Af .str e (fun (s4:B8)=>Ae (Ac a [] (.t (.box p 10)) 0) (fun (j:TV)=>Af (.int .i64) j (fun (n7:Int)=>((0<=n7/\n7<(s4.length:Int))/\BId (((List.getD s4 n7.toNat 0).toNat:Int)≠(10:Int)) (CallT PR Ak [(.box p 0),.int .i64 n1,.int .i64 3] [.one .bool] a (fun (b2:Bool) g=>K b2 g)) (Ae (Ac a [] (.t (.box p 10)) 0) (fun (u:TV)=>Af (.int .i64) u (fun (n8:Int)=>stB a (.box p 10) [(.int .i64 (i64.wrap (n8+(1:Int))))] (fun d=>Ae (Ac d [] (.t (.box p 0)) 0) (fun (v:TV)=>Af .str v (fun (s5:B8)=>Ae (Ac d [] (.t (.box p 10)) 0) (fun (m:TV)=>Af (.int .i64) m (fun (n9:Int)=>((0<=n1/\n1<=n9/\n9<=(s5.length:Int))/\stB d (.box r 4) [(.str (List.drop n1.toNat (List.take n9.toNat s5)))] (fun l=>K true l)))))))))))))))))))))))) (BId (((List.getD s2 n3.toNat 0).toNat:Int)=(10:Int)) (Ae (Ac st [] (.t (.box p 10)) 0) (fun (i:TV)=>Af (.int .i64) i (fun (f:Int)=>stB st (.box p 10) [(.int .i64 (i64.wrap (f+(1:Int))))] (fun b=>Ae (Ac b [] (.t (.box p 0)) 0) (fun (q:TV)=>Af .str q (fun (s6:B8)=>Ae (Ac b [] (.t (.box p 10)) 0) (fun (s:TV)=>Af (.int .i64) s (fun (c:Int)=>((0<=n1/\n1<=c/\c<=(s6.length:Int))/\stB b (.box r 4) [(.str (List.drop n1.toNat (List.take c.toNat s6)))] (fun n=>K true n)))))))))) (CallT PR Ak [(.box p 0),.int .i64 n1,.int .i64 3] [.one .bool] st (fun (b3:Bool) k=>K b3 k)))))))))))))))):CallT PR AI [(.box p 0),(.box r 0)] [.one .bool] st K:=
 Ag (cfg:=⟨[],[],[]⟩) (h:= .none) mixed (fun _ _=>Tryz.call194 _ _) Tryz.func194 (by kernel_rfl) (by kernel_rfl) h
theorem Py (kind:Int) (st:St) (K:Bool->St->Prop) (h:BId (kind=2) (BId (kind=2) (K true st) (K false st)) (BId (kind=6) (BId (kind=6) (K true st) (K false st)) (BId (kind=10) (BId (kind=10) (K true st) (K false st)) (BId (kind=11) (K true st) (K false st))))):CallT PR G7 [.int .i64 kind] [.one .bool] st K:=
 Ag (cfg:=⟨[],[],[]⟩) (h:= .none) mixed (fun _ _=>Tryz.call195 _ _) Tryz.func195 (by kernel_rfl) (by kernel_rfl) h
theorem LT (b:Int) (st:St) (K:Bool->St->Prop) (h:BId ((97:Int)<=b) (BId (b<=122) (K true st) (BId ((65:Int)<=b) (K ((decide (b<=90))) st) (K false st))) (BId ((65:Int)<=b) (K ((decide (b<=90))) st) (K false st))):CallT PR EB [.int .u8 b] [.one .bool] st K:=
 Ag (cfg:=⟨[],[],[]⟩) (h:= .none) mixed (fun _ _=>Tryz.call203 _ _) Tryz.func203 (by kernel_rfl) (by kernel_rfl) h
theorem Pz (a_0:Int) (a_1:B8) (a_2:B8) (a_3:TV) (a_4:B8) (b_0:Int) (b_1:B8) (b_2:B8) (b_3:TV) (b_4:B8) (st:St) (K:Bool->St->Prop) (h:BId (a_0≠b_0) (K false st) (BId (a_1≠b_1) (K false st) (BId (a_2≠b_2) (K false st) (BId (a_4≠b_4) (K false st) (need (isSl a_3) (need (isSl b_3) (BId ((lenS a_3:Int)≠(lenS b_3:Int)) (K false st) (need (isSl a_3) (∃(I1:Int->Int->Int->B8->B8->TV->B8->Int->B8->B8->TV->B8->St->Prop) (M1:Int->Int->Int->B8->B8->TV->B8->Int->B8->B8->TV->B8->St->Nat),(I1 0 ((lenS a_3:Int)) a_0 a_1 a_2 a_3 a_4 b_0 b_1 b_2 b_3 b_4 st)/\∀a b n1 s1 s2 v1 s3 n2 s4 s5 v2 s6 c,I1 a b n1 s1 s2 v1 s3 n2 s4 s5 v2 s6 c->(BId (a<b) (((0<=a/\a<(lenZ 5 v1:Int))/\Ae ((Ah FU [] (.t (ixT 5 v1 a.toNat)) 0 5).map TV.agg) (fun (x1:TV)=>AK [.int .i64,.str,.str,.tv,.str] x1 (fun (n3:Int) (s7 s8:B8) (v3:TV) (s9:B8)=>((0<=a/\a<(lenZ 5 v2:Int))/\Ae ((Ah FU [] (.t (ixT 5 v2 a.toNat)) 0 5).map TV.agg) (fun (x2:TV)=>AK [.int .i64,.str,.str,.tv,.str] x2 (fun (n4:Int) (g e:B8) (v4:TV) (f:B8)=>CallT PR EV [(.agg [.int .i64 n3,.str s7,.str s8,v3,.str s9]),(.agg [.int .i64 n4,.str g,.str e,v4,.str f])] [.one .bool] c (fun (b1:Bool) d=>BIf (!b1) (K false d) ((I1 ((i64.wrap (a+(1:Int)))) b n1 s1 s2 v1 s3 n2 s4 s5 v2 s6 d/\M1 ((i64.wrap (a+(1:Int)))) b n1 s1 s2 v1 s3 n2 s4 s5 v2 s6 d<M1 a b n1 s1 s2 v1 s3 n2 s4 s5 v2 s6 c)))))))))) (K true c))))))))))):CallT PR EV [(.agg [.int .i64 a_0,.str a_1,.str a_2,a_3,.str a_4]),(.agg [.int .i64 b_0,.str b_1,.str b_2,b_3,.str b_4])] [.one .bool] st K:=
 Ag (cfg:=⟨[2,3],[],[]⟩) (h:=(.seq .none (.seq .none (.seq (.seq .none (.block (.loop ⟨[(44,.int .i64),(43,.int .i64)],[(2,0,0),(3,1,0)],[(0,5),(1,5)],[(0,0,.int .i64),(0,1,.str),(0,2,.str),(0,3,.tv),(0,4,.str),(1,0,.int .i64),(1,1,.str),(1,2,.str),(1,3,.tv),(1,4,.str)]⟩ .none))) .none)))) mixed (fun _ _=>Tryz.call252 _ _) Tryz.func252 (by kernel_rfl) (by kernel_rfl) h
theorem HN (p:Nat) (st:St) (K:Bool->St->Prop) (h:Ae (Ac st [] (.t (.box p 10)) 0) (fun (x1:TV)=>Af (.int .i64) x1 (fun (n1:Int)=>Ae (Ac st [] (.t (.box p 0)) 0) (fun (x2:TV)=>Af .str x2 (fun (s1:B8)=>BId (n1<(s1.length:Int)) (Ae (Ac st [] (.t (.box p 0)) 0) (fun (x3:TV)=>Af .str x3 (fun (s2:B8)=>Ae (Ac st [] (.t (.box p 10)) 0) (fun (x4:TV)=>Af (.int .i64) x4 (fun (n2:Int)=>((0<=n2/\n2<(s2.length:Int))/\Ae (Ac st [] (.t (.box p 2)) 0) (fun (x5:TV)=>Af (.int .u8) x5 (fun (n3:Int)=>BId (((List.getD s2 n2.toNat 0).toNat:Int)=n3) (CallT PR Ca [(.box p 0)] [.one .bool] st (fun (b1:Bool) w=>K b1 w)) (∃(I1:TV->St->Prop) (M1:TV->St->Nat),(I1 ((.box p 0)) st)/\∀b c,I1 b c->(need (isPtr b) (need (isPtr b) (Ae (Ac c [] (.t (Am b 10)) 0) (fun (x6:TV)=>Af (.int .i64) x6 (fun (n4:Int)=>need (isPtr b) (need (isPtr b) (Ae (Ac c [] (.t (Am b 0)) 0) (fun (x7:TV)=>Af .str x7 (fun (s3:B8)=>BId (n4<(s3.length:Int)) (need (isPtr b) (need (isPtr b) (Ae (Ac c [] (.t (Am b 0)) 0) (fun (x8:TV)=>Af .str x8 (fun (s4:B8)=>need (isPtr b) (need (isPtr b) (Ae (Ac c [] (.t (Am b 10)) 0) (fun (x9:TV)=>Af (.int .i64) x9 (fun (n5:Int)=>((0<=n5/\n5<(s4.length:Int))/\need (isPtr b) (need (isPtr b) (need (isPtr (Am b 1)) (Ae (Ac c [] (.t (Am (Am b 1) 0)) 0) (fun (a3:TV)=>Af (.int .u8) a3 (fun (n6:Int)=>BId (((List.getD s4 n5.toNat 0).toNat:Int)=n6) (BId (((List.getD s4 n5.toNat 0).toNat:Int)=n6) (K true c) (need (isPtr b) (need (isPtr b) (need (isPtr (Am b 1)) (Ae (Ac c [] (.t (Am (Am b 1) 1)) 0) (fun (c4:TV)=>Af (.int .u8) c4 (fun (n7:Int)=>BId (((List.getD s4 n5.toNat 0).toNat:Int)=n7) (need (isPtr b) (need (isPtr b) (Ae (Ac c [] (.t (Am b 10)) 0) (fun (e0:TV)=>Af (.int .i64) e0 (fun (n8:Int)=>CallT PR Ak [b,.int .i64 n8,.int .i64 3] [.one .bool] c (fun (b2:Bool) v=>K b2 v)))))) (need (isPtr b) (need (isPtr b) (Ae (Ac c [] (.t (Am b 10)) 0) (fun (d1:TV)=>Af (.int .i64) d1 (fun (n9:Int)=>need (isPtr b) (need (isPtr b) (stB c (Am b 10) [(.int .i64 (i64.wrap (n9+(1:Int))))] (fun k=>(I1 b k/\M1 b k<M1 b c)))))))))))))))) (BId (((List.getD s4 n5.toNat 0).toNat:Int)=(10:Int)) (BId (((List.getD s4 n5.toNat 0).toNat:Int)=(10:Int)) (K true c) (need (isPtr b) (need (isPtr b) (need (isPtr (Am b 1)) (Ae (Ac c [] (.t (Am (Am b 1) 1)) 0) (fun (c6:TV)=>Af (.int .u8) c6 (fun (s:Int)=>BId (((List.getD s4 n5.toNat 0).toNat:Int)=s) (need (isPtr b) (need (isPtr b) (Ae (Ac c [] (.t (Am b 10)) 0) (fun (x:TV)=>Af (.int .i64) x (fun (d6:Int)=>CallT PR Ak [b,.int .i64 d6,.int .i64 3] [.one .bool] c (fun (b3:Bool) y=>K b3 y)))))) (need (isPtr b) (need (isPtr b) (Ae (Ac c [] (.t (Am b 10)) 0) (fun (b0:TV)=>Af (.int .i64) b0 (fun (c2:Int)=>need (isPtr b) (need (isPtr b) (stB c (Am b 10) [(.int .i64 (i64.wrap (c2+(1:Int))))] (fun j=>(I1 b j/\M1 b j<M1 b c)))))))))))))))) (BId (((List.getD s4 n5.toNat 0).toNat:Int)=(13:Int)) (K true c) (need (isPtr b) (need (isPtr b) (need (isPtr (Am b 1)) (Ae (Ac c [] (.t (Am (Am b 1) 1)) 0) (fun (a1:TV)=>Af (.int .u8) a1 (fun (a2:Int)=>BId (((List.getD s4 n5.toNat 0).toNat:Int)=a2) (need (isPtr b) (need (isPtr b) (Ae (Ac c [] (.t (Am b 10)) 0) (fun (z:TV)=>Af (.int .i64) z (fun (e1:Int)=>CallT PR Ak [b,.int .i64 e1,.int .i64 3] [.one .bool] c (fun (b4:Bool) a7=>K b4 a7)))))) (need (isPtr b) (need (isPtr b) (Ae (Ac c [] (.t (Am b 10)) 0) (fun (d5:TV)=>Af (.int .i64) d5 (fun (r:Int)=>need (isPtr b) (need (isPtr b) (stB c (Am b 10) [(.int .i64 (i64.wrap (r+(1:Int))))] (fun l=>(I1 b l/\M1 b l<M1 b c)))))))))))))))))))))))))))))))) (K true c))))))))))))))))))) (∃(I2:TV->St->Prop) (M2:TV->St->Nat),(I2 ((.box p 0)) st)/\∀a d,I2 a d->(need (isPtr a) (need (isPtr a) (Ae (Ac d [] (.t (Am a 10)) 0) (fun (a4:TV)=>Af (.int .i64) a4 (fun (b8:Int)=>need (isPtr a) (need (isPtr a) (Ae (Ac d [] (.t (Am a 0)) 0) (fun (a6:TV)=>Af .str a6 (fun (s5:B8)=>BId (b8<(s5.length:Int)) (need (isPtr a) (need (isPtr a) (Ae (Ac d [] (.t (Am a 0)) 0) (fun (b9:TV)=>Af .str b9 (fun (s6:B8)=>need (isPtr a) (need (isPtr a) (Ae (Ac d [] (.t (Am a 10)) 0) (fun (c7:TV)=>Af (.int .i64) c7 (fun (e:Int)=>((0<=e/\e<(s6.length:Int))/\need (isPtr a) (need (isPtr a) (need (isPtr (Am a 1)) (Ae (Ac d [] (.t (Am (Am a 1) 0)) 0) (fun (d8:TV)=>Af (.int .u8) d8 (fun (m:Int)=>BId (((List.getD s6 e.toNat 0).toNat:Int)=m) (BId (((List.getD s6 e.toNat 0).toNat:Int)=m) (K true d) (need (isPtr a) (need (isPtr a) (need (isPtr (Am a 1)) (Ae (Ac d [] (.t (Am (Am a 1) 1)) 0) (fun (d2:TV)=>Af (.int .u8) d2 (fun (d7:Int)=>BId (((List.getD s6 e.toNat 0).toNat:Int)=d7) (need (isPtr a) (need (isPtr a) (Ae (Ac d [] (.t (Am a 10)) 0) (fun (a9:TV)=>Af (.int .i64) a9 (fun (d4:Int)=>CallT PR Ak [a,.int .i64 d4,.int .i64 3] [.one .bool] d (fun (b5:Bool) n=>K b5 n)))))) (need (isPtr a) (need (isPtr a) (Ae (Ac d [] (.t (Am a 10)) 0) (fun (e2:TV)=>Af (.int .i64) e2 (fun (d9:Int)=>need (isPtr a) (need (isPtr a) (stB d (Am a 10) [(.int .i64 (i64.wrap (d9+(1:Int))))] (fun f=>(I2 a f/\M2 a f<M2 a d)))))))))))))))) (BId (((List.getD s6 e.toNat 0).toNat:Int)=(10:Int)) (BId (((List.getD s6 e.toNat 0).toNat:Int)=(10:Int)) (K true d) (need (isPtr a) (need (isPtr a) (need (isPtr (Am a 1)) (Ae (Ac d [] (.t (Am (Am a 1) 1)) 0) (fun (c1:TV)=>Af (.int .u8) c1 (fun (c3:Int)=>BId (((List.getD s6 e.toNat 0).toNat:Int)=c3) (need (isPtr a) (need (isPtr a) (Ae (Ac d [] (.t (Am a 10)) 0) (fun (a8:TV)=>Af (.int .i64) a8 (fun (c0:Int)=>CallT PR Ak [a,.int .i64 c0,.int .i64 3] [.one .bool] d (fun (b6:Bool) q=>K b6 q)))))) (need (isPtr a) (need (isPtr a) (Ae (Ac d [] (.t (Am a 10)) 0) (fun (a5:TV)=>Af (.int .i64) a5 (fun (d0:Int)=>need (isPtr a) (need (isPtr a) (stB d (Am a 10) [(.int .i64 (i64.wrap (d0+(1:Int))))] (fun i=>(I2 a i/\M2 a i<M2 a d)))))))))))))))) (BId (((List.getD s6 e.toNat 0).toNat:Int)=(13:Int)) (K true d) (need (isPtr a) (need (isPtr a) (need (isPtr (Am a 1)) (Ae (Ac d [] (.t (Am (Am a 1) 1)) 0) (fun (a0:TV)=>Af (.int .u8) a0 (fun (u:Int)=>BId (((List.getD s6 e.toNat 0).toNat:Int)=u) (need (isPtr a) (need (isPtr a) (Ae (Ac d [] (.t (Am a 10)) 0) (fun (c8:TV)=>Af (.int .i64) c8 (fun (c5:Int)=>CallT PR Ak [a,.int .i64 c5,.int .i64 3] [.one .bool] d (fun (b7:Bool) o=>K b7 o)))))) (need (isPtr a) (need (isPtr a) (Ae (Ac d [] (.t (Am a 10)) 0) (fun (d3:TV)=>Af (.int .i64) d3 (fun (c9:Int)=>need (isPtr a) (need (isPtr a) (stB d (Am a 10) [(.int .i64 (i64.wrap (c9+(1:Int))))] (fun g=>(I2 a g/\M2 a g<M2 a d)))))))))))))))))))))))))))))))) (K true d)))))))))))))))):CallT PR BL [(.box p 0)] [.one .bool] st K:=
 Ag (cfg:=⟨[],[],[]⟩) (h:=(.seq .none (.seq .none (.seq (.block (.loop ⟨[(0,.tv)],[],[],[]⟩ .none)) .none)))) mixed (fun _ _=>Tryz.call265 _ _) Tryz.func265 (by kernel_rfl) (by kernel_rfl) h
theorem GN (p:Nat) (st:St) (K:Bool->St->Prop) (h:Ae (Ac st [] (.t (.box p 10)) 0) (fun (x1:TV)=>Af (.int .i64) x1 (fun (n1:Int)=>stB st (.box p 10) [(.int .i64 (i64.wrap (n1+(1:Int))))] (fun j=>∃(I1:TV->St->Prop) (M1:TV->St->Nat),(I1 ((.box p 0)) j)/\∀a b,I1 a b->(need (isPtr a) (need (isPtr a) (Ae (Ac b [] (.t (Am a 10)) 0) (fun (x2:TV)=>Af (.int .i64) x2 (fun (n2:Int)=>need (isPtr a) (need (isPtr a) (Ae (Ac b [] (.t (Am a 0)) 0) (fun (x3:TV)=>Af .str x3 (fun (s1:B8)=>BId (n2<(s1.length:Int)) (need (isPtr a) (need (isPtr a) (Ae (Ac b [] (.t (Am a 0)) 0) (fun (x4:TV)=>Af .str x4 (fun (s2:B8)=>need (isPtr a) (need (isPtr a) (Ae (Ac b [] (.t (Am a 10)) 0) (fun (x5:TV)=>Af (.int .i64) x5 (fun (n3:Int)=>((0<=n3/\n3<(s2.length:Int))/\need (isPtr a) (need (isPtr a) (need (isPtr (Am a 1)) (Ae (Ac b [] (.t (Am (Am a 1) 1)) 0) (fun (x6:TV)=>Af (.int .u8) x6 (fun (n4:Int)=>BId (((List.getD s2 n3.toNat 0).toNat:Int)≠n4) (need (isPtr a) (need (isPtr a) (Ae (Ac b [] (.t (Am a 10)) 0) (fun (x7:TV)=>Af (.int .i64) x7 (fun (n5:Int)=>need (isPtr a) (need (isPtr a) (stB b (Am a 10) [(.int .i64 (i64.wrap (n5+(1:Int))))] (fun d=>(I1 a d/\M1 a d<M1 a b))))))))) (need (isPtr a) (need (isPtr a) (Ae (Ac b [] (.t (Am a 10)) 0) (fun (x8:TV)=>Af (.int .i64) x8 (fun (n6:Int)=>need (isPtr a) (need (isPtr a) (stB b (Am a 10) [(.int .i64 (i64.wrap (n6+(1:Int))))] (fun c=>need (isPtr a) (need (isPtr a) (Ae (Ac c [] (.t (Am a 10)) 0) (fun (x9:TV)=>Af (.int .i64) x9 (fun (n7:Int)=>need (isPtr a) (need (isPtr a) (Ae (Ac c [] (.t (Am a 0)) 0) (fun (g:TV)=>Af .str g (fun (s3:B8)=>BId (n7=(s3.length:Int)) (K true c) (need (isPtr a) (need (isPtr a) (Ae (Ac c [] (.t (Am a 0)) 0) (fun (l:TV)=>Af .str l (fun (s4:B8)=>need (isPtr a) (need (isPtr a) (Ae (Ac c [] (.t (Am a 10)) 0) (fun (n:TV)=>Af (.int .i64) n (fun (n8:Int)=>((0<=n8/\n8<(s4.length:Int))/\need (isPtr a) (need (isPtr a) (need (isPtr (Am a 1)) (Ae (Ac c [] (.t (Am (Am a 1) 1)) 0) (fun (o:TV)=>Af (.int .u8) o (fun (n9:Int)=>BId (((List.getD s4 n8.toNat 0).toNat:Int)≠n9) (K true c) (need (isPtr a) (need (isPtr a) (Ae (Ac c [] (.t (Am a 10)) 0) (fun (m:TV)=>Af (.int .i64) m (fun (i:Int)=>need (isPtr a) (need (isPtr a) (stB c (Am a 10) [(.int .i64 (i64.wrap (i+(1:Int))))] (fun e=>(I1 a e/\M1 a e<M1 a b))))))))))))))))))))))))))))))))))))))))))))))))))))))) (need (isPtr a) (need (isPtr a) (Ae (Ac b [] (.t (Am a 0)) 0) (fun (k:TV)=>Af .str k (fun (s5:B8)=>CallT PR Ak [a,(.int .i64 (s5.length:Int)),.int .i64 4] [.one .bool] b (fun (b1:Bool) f=>K b1 f))))))))))))))))))):CallT PR Ca [(.box p 0)] [.one .bool] st K:=
 Ag (cfg:=⟨[],[],[]⟩) (h:=(.seq .none (.seq (.seq .none (.block (.loop ⟨[(0,.tv)],[],[],[]⟩ .none))) .none))) mixed (fun _ _=>Tryz.call299 _ _) Tryz.func299 (by kernel_rfl) (by kernel_rfl) h
theorem F0 (v_0:Int) (v_1:Bool) (v_2:Bool) (v_3:B8) (v_4:Int) (v_5:Int) (v_6:Int) (v_7:Int) (v_8:Int) (v_9:B8) (v_10:TV) (v_11:TV) (v_12:TV) (d_0:Int) (d_1:Int) (d_2:Bool) (d_3:Bool) (st:St) (K:Bool->St->Prop) (h:CallT PR Co [(.agg (cV v_0 v_1 v_2 v_3 v_4 v_5 v_6 v_7 v_8 v_9 v_10 v_11 v_12))] [.one .bool] st (fun (b1:Bool) l=>BIf (!b1) (CallT PR Bf [] [.one .bool] l (fun (b2:Bool) p=>K b2 p)) (CallT PR EW [(.agg (cV v_0 v_1 v_2 v_3 v_4 v_5 v_6 v_7 v_8 v_9 v_10 v_11 v_12)),(.agg [.int .u8 d_0,.int .u8 d_1,.bool d_2,.bool d_3])] [.one .str,.one (.int .i64)] l (fun (s1:B8) (n1:Int) e=>BId (n1≠0) (BId (s1=([]:B8)) (CallT PR Bf [] [.one .bool] e (fun (b3:Bool) n=>K b3 n)) (K false e)) ((s1.length+Vf.length<=9223372036854775807/\CallT PR DG [] [.agg [.int .i64,.int .i64,.int .i64,.int .i64,.int .i64]] e (fun (n2 n3 n4 n5 n6:Int) o=>CallT PR EX [(.str (s1++Vf)),(.agg [.int .u8 d_0,.int .u8 d_1,.bool false,.bool d_3]),(.agg [.int .i64 n2,.int .i64 n3,.int .i64 n4,.int .i64 n5,.int .i64 n6])] [sV,.one (.int .i64),.one (.int .i64)] o (fun (n7:Int) (b4 b5:Bool) (s2:B8) (n8 n9 m r q:Int) (s3:B8) (v1 v2 v3:TV) (u s:Int) a=>need (List.all (cV n7 b4 b5 s2 n8 n9 m r q s3 v1 v2 v3) At) (BId (s=0) (need (isSl v2) (BId ((lenS v2:Int)=(1:Int)) (((0<=(0:Int)/\(0:Int)<(lenZ 13 v2:Int))/\need (isPtr (ixT 13 v2 (Int.toNat (0:Int)))) (Ae (Ac a [] (.t (Am (ixT 13 v2 (Int.toNat (0:Int))) 11)) 0) (fun (v4:TV)=>need (isSl v4) (BId ((lenS v4:Int)=(1:Int)) (((0<=(0:Int)/\(0:Int)<(lenZ 13 v2:Int))/\need (isPtr (ixT 13 v2 (Int.toNat (0:Int)))) (Ae (Ac a [] (.t (Am (ixT 13 v2 (Int.toNat (0:Int))) 11)) 0) (fun (v5:TV)=>((0<=(0:Int)/\(0:Int)<(lenZ 13 v5:Int))/\Ae ((Ah a [] (.t (ixT 13 v5 (Int.toNat (0:Int)))) 0 13).map TV.agg) (fun (x3:TV)=>AK [.int .i64,.bool,.bool,.str,.int .i64,.int .i64,.int .i64,.int .i64,.int .i64,.str,.tv,.tv,.tv] x3 (fun (d:Int) (b6 b7:Bool) (s4:B8) (g i f k j:Int) (s5:B8) (v6 v7 v8:TV)=>CallT PR Ga [(.agg (cV d b6 b7 s4 g i f k j s5 v6 v7 v8)),(.agg (cV v_0 v_1 v_2 v_3 v_4 v_5 v_6 v_7 v_8 v_9 v_10 v_11 v_12))] [.one .bool] a (fun (b8:Bool) b=>(Ac b [] (.t (Am (ixT 13 v2 (Int.toNat (0:Int))) 11)) 0=some v5/\(Ac b [] (.t (Am (ixT 13 v2 (Int.toNat (0:Int))) 11)) 0=some v4/\BIf b8 (CallT PR Bf [] [.one .bool] b (fun (b9:Bool) c=>(Ah c [] (.t (ixT 13 v5 (Int.toNat (0:Int)))) 0 13=some (cV d b6 b7 s4 g i f k j s5 v6 v7 v8)/\(Ac c [] (.t (Am (ixT 13 v2 (Int.toNat (0:Int))) 11)) 0=some v5/\(Ac c [] (.t (Am (ixT 13 v2 (Int.toNat (0:Int))) 11)) 0=some v4/\K b9 c))))) ((Ah b [] (.t (ixT 13 v5 (Int.toNat (0:Int)))) 0 13=some (cV d b6 b7 s4 g i f k j s5 v6 v7 v8)/\(Ac b [] (.t (Am (ixT 13 v2 (Int.toNat (0:Int))) 11)) 0=some v5/\(Ac b [] (.t (Am (ixT 13 v2 (Int.toNat (0:Int))) 11)) 0=some v4/\K false b)))))))))))))) ((Ac a [] (.t (Am (ixT 13 v2 (Int.toNat (0:Int))) 11)) 0=some v4/\(Ac a [] (.t (Am (ixT 13 v2 (Int.toNat (0:Int))) 11)) 0=some v4/\K false a)))))))) (K false a))) (K false a)))))))))):CallT PR fn_datakitlaw28_GridBack [(.agg (cV v_0 v_1 v_2 v_3 v_4 v_5 v_6 v_7 v_8 v_9 v_10 v_11 v_12)),(.agg [.int .u8 d_0,.int .u8 d_1,.bool d_2,.bool d_3])] [.one .bool] st K:=
 Ag (cfg:=⟨[2,3,7,8],[],[52,61,63]⟩) (h:= .none) mixed (fun _ _=>Tryz.call12 _ _) Tryz.func12 (by kernel_rfl) (by kernel_rfl) h
theorem Hy (v_0:Int) (v_1:Bool) (v_2:Bool) (v_3:B8) (v_4:Int) (v_5:Int) (v_6:Int) (v_7:Int) (v_8:Int) (v_9:B8) (v_10:TV) (v_11:TV) (v_12:TV) (st:St) (K:Bool->St->Prop) (h:CallT PR A2 [(.agg (cV v_0 v_1 v_2 v_3 v_4 v_5 v_6 v_7 v_8 v_9 v_10 v_11 v_12)),.int .i64 60,.int .i64 150,.int .i64 3000] [.one (.int .i64)] st (fun (n1:Int) a=>BId ((0:Int)<=n1) (CallT PR A7 [(.agg (cV v_0 v_1 v_2 v_3 v_4 v_5 v_6 v_7 v_8 v_9 v_10 v_11 v_12))] [.one (.int .i64)] a (fun (n2:Int) b=>K ((decide (n2<=20000))) b)) (K false a))):CallT PR Co [(.agg (cV v_0 v_1 v_2 v_3 v_4 v_5 v_6 v_7 v_8 v_9 v_10 v_11 v_12))] [.one .bool] st K:=
 Ag (cfg:=⟨[1],[],[]⟩) (h:= .none) mixed (fun _ _=>Tryz.call32 _ _) Tryz.func32 (by kernel_rfl) (by kernel_rfl) h
theorem HA (st:St) (K:Bool->St->Prop) (h:CallT PR BE [] [.agg [.int .u8,.int .u8,.bool,.bool]] st (fun (n1 n2:Int) (b1 b2:Bool) j=>CallT PR Cn [] [.agg [.int .i64,.int .i64,.int .i64,.int .i64,.int .i64]] j (fun (n3 n4 n5 n6 n7:Int) n=>CallT PR EX [.str Ve,(.agg [.int .u8 n1,.int .u8 n2,.bool b1,.bool b2]),(.agg [.int .i64 n3,.int .i64 n4,.int .i64 n5,.int .i64 n6,.int .i64 n7])] [sV,.one (.int .i64),.one (.int .i64)] n (fun (n8:Int) (b3 b4:Bool) (s1:B8) (n9 f g l p:Int) (s2:B8) (v1 v2 v3:TV) (q b:Int) i=>need (List.all (cV n8 b3 b4 s1 n9 f g l p s2 v1 v2 v3) At) (CallT PR BE [] [.agg [.int .u8,.int .u8,.bool,.bool]] i (fun (o c:Int) (b5 b6:Bool) k=>CallT PR EW [(.agg (cV 4 false false [] 0 0 0 0 0 str10 .nilSlice .nilSlice .nilSlice)),(.agg [.int .u8 o,.int .u8 c,.bool b5,.bool b6])] [.one .str,.one (.int .i64)] k (fun (s3:B8) (d:Int) a=>BId (b=0) (need (isSl v2) (BId ((lenS v2:Int)=(2:Int)) (((0<=(1:Int)/\(1:Int)<(lenZ 13 v2:Int))/\need (isPtr (ixT 13 v2 (Int.toNat (1:Int)))) (Ae (Ac a [] (.t (Am (ixT 13 v2 (Int.toNat (1:Int))) 12)) 0) (fun (v4:TV)=>need (isSl v4) (BId ((lenS v4:Int)=(2:Int)) (((0<=(1:Int)/\(1:Int)<(lenZ 13 v2:Int))/\need (isPtr (ixT 13 v2 (Int.toNat (1:Int)))) (Ae (Ac a [] (.t (Am (ixT 13 v2 (Int.toNat (1:Int))) 12)) 0) (fun (v5:TV)=>((0<=(0:Int)/\(0:Int)<(lenZ 14 v5:Int))/\need (isPtr (ixT 14 v5 (Int.toNat (0:Int)))) (need (isPtr (Am (ixT 14 v5 (Int.toNat (0:Int))) 1)) (Ae (Ac a [] (.t (Am (Am (ixT 14 v5 (Int.toNat (0:Int))) 1) 9)) 0) (fun (x3:TV)=>Af .str x3 (fun (s4:B8)=>BId (s4=str10) (((0<=(0:Int)/\(0:Int)<(lenZ 13 v2:Int))/\need (isPtr (ixT 13 v2 (Int.toNat (0:Int)))) (Ae (Ac a [] (.t (Am (ixT 13 v2 (Int.toNat (0:Int))) 12)) 0) (fun (v6:TV)=>((0<=(0:Int)/\(0:Int)<(lenZ 14 v6:Int))/\need (isPtr (ixT 14 v6 (Int.toNat (0:Int)))) (need (isPtr (Am (ixT 14 v6 (Int.toNat (0:Int))) 1)) (Ae (Ac a [] (.t (Am (Am (ixT 14 v6 (Int.toNat (0:Int))) 1) 0)) 0) (fun (x5:TV)=>Af (.int .i64) x5 (fun (m:Int)=>BId (m=2) (((0<=(1:Int)/\(1:Int)<(lenZ 13 v2:Int))/\need (isPtr (ixT 13 v2 (Int.toNat (1:Int)))) (Ae (Ac a [] (.t (Am (ixT 13 v2 (Int.toNat (1:Int))) 12)) 0) (fun (v7:TV)=>((0<=(1:Int)/\(1:Int)<(lenZ 14 v7:Int))/\need (isPtr (ixT 14 v7 (Int.toNat (1:Int)))) (need (isPtr (Am (ixT 14 v7 (Int.toNat (1:Int))) 1)) (Ae (Ac a [] (.t (Am (Am (ixT 14 v7 (Int.toNat (1:Int))) 1) 0)) 0) (fun (x7:TV)=>Af (.int .i64) x7 (fun (e:Int)=>BId (e=0) (BId (s3=str11) (K ((decide (d=0))) a) (K false a)) (K false a)))))))))) (K false a)))))))))) (K false a)))))))))) (K false a)))))) (K false a))) (K false a)))))))):CallT PR Bf [] [.one .bool] st K:=
 Ag (cfg:=⟨[1],[],[]⟩) (h:= .none) mixed (fun _ _=>Tryz.call33 _ _) Tryz.func33 (by kernel_rfl) (by kernel_rfl) h
theorem PB (v_0:Int) (v_1:Bool) (v_2:Bool) (v_3:B8) (v_4:Int) (v_5:Int) (v_6:Int) (v_7:Int) (v_8:Int) (v_9:B8) (v_10:TV) (v_11:TV) (v_12:TV) (d_0:Int) (d_1:Int) (d_2:Bool) (d_3:Bool) (st:St) (K:B8->Int->St->Prop) (h:CallT PR CC [(.agg [.int .u8 d_0,.int .u8 d_1,.bool d_2,.bool d_3])] [.one .bool] st (fun (b1:Bool) a=>BIf (!b1) (K [] 1 a) (CallT PR Fn [(.agg (cV v_0 v_1 v_2 v_3 v_4 v_5 v_6 v_7 v_8 v_9 v_10 v_11 v_12))] [.one (.int .i64)] a (fun (n1:Int) b=>BId (n1≠0) (K [] n1 b) (CallT PR G8 [(.agg (cV v_0 v_1 v_2 v_3 v_4 v_5 v_6 v_7 v_8 v_9 v_10 v_11 v_12)),(.agg [.int .u8 d_0,.int .u8 d_1,.bool d_2,.bool d_3])] [.one .str,.one (.int .i64)] b (fun (s1:B8) (n2:Int) c=>K s1 n2 c)))))):CallT PR EW [(.agg (cV v_0 v_1 v_2 v_3 v_4 v_5 v_6 v_7 v_8 v_9 v_10 v_11 v_12)),(.agg [.int .u8 d_0,.int .u8 d_1,.bool d_2,.bool d_3])] [.one .str,.one (.int .i64)] st K:=
 Ag (cfg:=⟨[2,3],[],[]⟩) (h:= .none) mixed (fun _ _=>Tryz.call34 _ _) Tryz.func34 (by kernel_rfl) (by kernel_rfl) h
theorem PD (s:B8) (quoted:Bool) (d_0:Int) (d_1:Int) (d_2:Bool) (d_3:Bool) (st:St) (K:V13 (St->Prop)) (h:BIf (!d_3) (CallT PR Cj [.str s] [sV] st (fun (n1:Int) (b1 b2:Bool) (s1:B8) (n2 n3 n4 n5 n6:Int) (s2:B8) (v1 v2 v3:TV) k3=>need (List.all (cV n1 b1 b2 s1 n2 n3 n4 n5 n6 s2 v1 v2 v3) At) (K n1 b1 b2 s1 n2 n3 n4 n5 n6 s2 v1 v2 v3 k3))) (BIf quoted (CallT PR Cj [.str s] [sV] st (fun (n7:Int) (b3 b4:Bool) (s3:B8) (n8 n9 g8 j0 c8:Int) (s4:B8) (v4 v5 v6:TV) l5=>need (List.all (cV n7 b3 b4 s3 n8 n9 g8 j0 c8 s4 v4 v5 v6) At) (K n7 b3 b4 s3 n8 n9 g8 j0 c8 s4 v4 v5 v6 l5))) (BId (s=([]:B8)) (CallT PR IN [] [sV] st (fun (j:Int) (b5 b6:Bool) (s5:B8) (a4 a6 i0 g0 m:Int) (s6:B8) (v7 v8 v9:TV) l3=>need (List.all (cV j b5 b6 s5 a4 a6 i0 g0 m s6 v7 v8 v9) At) (K j b5 b6 s5 a4 a6 i0 g0 m s6 v7 v8 v9 l3))) (BId (s=OB) (BId (s=OB) (CallT PR Gb [(.bool (decide (s=OB)))] [sV] st (fun (d4:Int) (b7 b8:Bool) (s7:B8) (z j2 c9 i1 i7:Int) (s8:B8) (h3 f2 e9:TV) k4=>need (List.all (cV d4 b7 b8 s7 z j2 c9 i1 i7 s8 h3 f2 e9) At) (K d4 b7 b8 s7 z j2 c9 i1 i7 s8 h3 f2 e9 k4))) (CallT PR BW [.str s] [.agg [.bool,.str,.int .i64],.one (.int .i64)] st (fun (b9:Bool) (s9:B8) (m2 l8:Int) c0=>BId (l8=0) (CallT PR EU [(.agg [.bool b9,.str s9,.int .i64 m2])] [sV] c0 (fun (f5:Int) (e5 j6:Bool) (y:B8) (d3 e6 h7 i8 c:Int) (a9:B8) (f6 g5 j1:TV) k9=>need (List.all (cV f5 e5 j6 y d3 e6 h7 i8 c a9 f6 g5 j1) At) (K f5 e5 j6 y d3 e6 h7 i8 c a9 f6 g5 j1 k9))) (CallT PR Cf [.str s] [.agg [.int .i64,.int .i64,.int .i64,.int .i64],.one (.int .i64)] c0 (fun (k7 l6 l0 l9 m1:Int) q=>BId (m1=0) (CallT PR Ee [(.agg [.int .i64 k7,.int .i64 l6,.int .i64 l0,.int .i64 l9])] [sV] q (fun (h8:Int) (j7 a5:Bool) (g6:B8) (f7 p a1 i h5:Int) (l:B8) (h9 h4 d6:TV) l4=>need (List.all (cV h8 j7 a5 g6 f7 p a1 i h5 l h9 h4 d6) At) (K h8 j7 a5 g6 f7 p a1 i h5 l h9 h4 d6 l4))) (CallT PR Cj [.str s] [sV] q (fun (h0:Int) (a3 i6:Bool) (e0:B8) (e8 d2 f3 a2 g:Int) (w:B8) (h2 e a0:TV) l7=>need (List.all (cV h0 a3 i6 e0 e8 d2 f3 a2 g w h2 e a0) At) (K h0 a3 i6 e0 e8 d2 f3 a2 g w h2 e a0 l7)))))))) (BId (s=Wp) (CallT PR Gb [(.bool (decide (s=OB)))] [sV] st (fun (j3:Int) (b0 f:Bool) (r:B8) (e7 t u d g3:Int) (d1:B8) (i5 c5 i9:TV) k1=>need (List.all (cV j3 b0 f r e7 t u d g3 d1 i5 c5 i9) At) (K j3 b0 f r e7 t u d g3 d1 i5 c5 i9 k1))) (CallT PR BW [.str s] [.agg [.bool,.str,.int .i64],.one (.int .i64)] st (fun (k2:Bool) (l2:B8) (l1 k5:Int) b=>BId (k5=0) (CallT PR EU [(.agg [.bool k2,.str l2,.int .i64 l1])] [sV] b (fun (x:Int) (c3 g2:Bool) (i3:B8) (c4 g7 d0 v f0:Int) (e4:B8) (h6 j5 k:TV) k0=>need (List.all (cV x c3 g2 i3 c4 g7 d0 v f0 e4 h6 j5 k) At) (K x c3 g2 i3 c4 g7 d0 v f0 e4 h6 j5 k k0))) (CallT PR Cf [.str s] [.agg [.int .i64,.int .i64,.int .i64,.int .i64],.one (.int .i64)] b (fun (k8 k6 m0 m4 m3:Int) a=>BId (m3=0) (CallT PR Ee [(.agg [.int .i64 k8,.int .i64 k6,.int .i64 m0,.int .i64 m4])] [sV] a (fun (h1:Int) (i2 c2:Bool) (a8:B8) (c1 g1 c6 o j4:Int) (d8:B8) (f8 e1 n:TV) j8=>need (List.all (cV h1 i2 c2 a8 c1 g1 c6 o j4 d8 f8 e1 n) At) (K h1 i2 c2 a8 c1 g1 c6 o j4 d8 f8 e1 n j8))) (CallT PR Cj [.str s] [sV] a (fun (g4:Int) (a7 d7:Bool) (d9:B8) (f1 f9 d5 e2 f4:Int) (c7:B8) (g9 e3 i4:TV) j9=>need (List.all (cV g4 a7 d7 d9 f1 f9 d5 e2 f4 c7 g9 e3 i4) At) (K g4 a7 d7 d9 f1 f9 d5 e2 f4 c7 g9 e3 i4 j9)))))))))))):CallT PR B7 [.str s,.bool quoted,(.agg [.int .u8 d_0,.int .u8 d_1,.bool d_2,.bool d_3])] [sV] st K:=
 Ag (cfg:=⟨[5,6,7,9],[],[]⟩) (h:= .none) mixed (fun _ _=>Tryz.call37 _ _) Tryz.func37 (by kernel_rfl) (by kernel_rfl) h
theorem PC (src:B8) (d_0:Int) (d_1:Int) (d_2:Bool) (d_3:Bool) (l_0:Int) (l_1:Int) (l_2:Int) (l_3:Int) (l_4:Int) (st:St) (K:V13 (Int->Int->St->Prop)) (h:CallT PR DK [.str src,(.agg [.int .u8 d_0,.int .u8 d_1,.bool d_2,.bool d_3]),(.agg [.int .i64 l_0,.int .i64 l_1,.int .i64 l_2,.int .i64 l_3,.int .i64 l_4])] [.agg [.int .i64,.str,.str,.tv,.str],.one (.int .i64),.one (.int .i64)] st (fun (n1:Int) (s1 s2:B8) (v1:TV) (s3:B8) (n2 n3:Int) a=>need (List.all [.int .i64 n1,.str s1,.str s2,v1,.str s3] At) (BId (n3≠0) (K 0 false false [] 0 0 0 0 0 [] .nilSlice .nilSlice .nilSlice n2 n3 a) (CallT PR Gf [(.agg [.int .i64 n1,.str s1,.str s2,v1,.str s3]),(.agg [.int .u8 d_0,.int .u8 d_1,.bool d_2,.bool d_3])] [sV,.one (.int .i64)] a (fun (n4:Int) (b1 b2:Bool) (s4:B8) (n5 n6 n7 n8 n9:Int) (s5:B8) (v2 v3 v4:TV) (b:Int) c=>need (List.all (cV n4 b1 b2 s4 n5 n6 n7 n8 n9 s5 v2 v3 v4) At) (need (List.all (cV n4 b1 b2 s4 n5 n6 n7 n8 n9 s5 v2 v3 v4) At) (K n4 b1 b2 s4 n5 n6 n7 n8 n9 s5 v2 v3 v4 0 b c))))))):CallT PR EX [.str src,(.agg [.int .u8 d_0,.int .u8 d_1,.bool d_2,.bool d_3]),(.agg [.int .i64 l_0,.int .i64 l_1,.int .i64 l_2,.int .i64 l_3,.int .i64 l_4])] [sV,.one (.int .i64),.one (.int .i64)] st K:=
 Ag (cfg:=⟨[4,5,6,9,12],[],[]⟩) (h:= .none) mixed (fun _ _=>Tryz.call39 _ _) Tryz.func39 (by kernel_rfl) (by kernel_rfl) h
theorem N6 (n_0:Int) (g:B8) (k:B8) (j:TV) (o:B8) (d_0:Int) (d_1:Int) (d_2:Bool) (d_3:Bool) (st:St) (K:V13 (Int->St->Prop)) (h:CallT PR D7 [(.agg [.int .i64 n_0,.str g,.str k,j,.str o]),(.agg [.int .u8 d_0,.int .u8 d_1,.bool d_2,.bool d_3])] [.one .tv,.one (.int .i64)] st (fun (v1:TV) (n1:Int) k8=>BId (n1≠0) (K 0 false false [] 0 0 0 0 0 [] .nilSlice .nilSlice .nilSlice n1 k8) (CallT PR EC [(.agg [.int .i64 n_0,.str g,.str k,j,.str o]),(.agg [.int .u8 d_0,.int .u8 d_1,.bool d_2,.bool d_3])] [.one .tv,.one (.int .i64)] k8 (fun (v2:TV) (n2:Int) o8=>need (isSl v1) (∃(I1:Int->TV->TV->TV->Int->Int->Int->Bool->Bool->V13 (V13 (St->Prop))) (M1:Int->TV->TV->TV->Int->Int->Int->Bool->Bool->V13 (V13 (St->Nat))),(I1 0 v1 v2 v1 ((lenS v1:Int)) d_0 d_1 d_2 d_3 0 false false [] 0 0 0 0 0 [] .nilSlice .nilSlice .nilSlice 6 false false [] 0 0 0 0 0 [] .nilSlice .nilSlice .nilSlice o8)/\∀g b e r k n3 n4 b1 b2 n5 b3 b4 s1 n6 n7 n8 n9 y s2 v3 v4 v5 u b5 b6 s3 p l m n s s4 v6 v7 v8 q,I1 g b e r k n3 n4 b1 b2 n5 b3 b4 s1 n6 n7 n8 n9 y s2 v3 v4 v5 u b5 b6 s3 p l m n s s4 v6 v7 v8 q->(BId (g<k) (((0<=g/\g<(lenZ 1 r:Int))/\Ae (Ac q [] (.t (ixT 1 r g.toNat)) 0) (fun (v9:TV)=>BIf (!b1) (need (isSl v9) (∃(I2:Int->TV->TV->Int->TV->Int->Int->TV->Int->Int->Int->Bool->Bool->V13 (V13 (V13 (St->Prop)))) (M2:Int->TV->TV->Int->TV->Int->Int->TV->Int->Int->Int->Bool->Bool->V13 (V13 (V13 (St->Nat)))),(I2 0 b e g r k g v9 ((lenS v9:Int)) n3 n4 b1 b2 n5 b3 b4 s1 n6 n7 n8 n9 y s2 v3 v4 v5 u b5 b6 s3 p l m n s s4 v6 v7 v8 6 false false [] 0 0 0 0 0 [] .nilSlice .nilSlice .nilSlice q)/\∀j f d w g2 o h1 d8 j1 a4 a1 b7 b8 f0 b9 f5 s5 d0 i6 e3 h9 i2 s6 h5 g1 f9 h3 i9 j0 s7 g3 g6 e8 f6 h7 s8 g7 j3 i5 i3 d5 d4 s9 a7 c9 g0 e0 g5 c8 h8 j4 f1 a0,I2 j f d w g2 o h1 d8 j1 a4 a1 b7 b8 f0 b9 f5 s5 d0 i6 e3 h9 i2 s6 h5 g1 f9 h3 i9 j0 s7 g3 g6 e8 f6 h7 s8 g7 j3 i5 i3 d5 d4 s9 a7 c9 g0 e0 g5 c8 h8 j4 f1 a0->(BId (j<j1) (((0<=j/\j<(lenZ 1 d8:Int))/\Ae (Ac a0 [] (.t (ixT 1 d8 j.toNat)) 0) (fun (x2:TV)=>Af .str x2 (fun (o6:B8)=>((0<=w/\w<(lenZ 1 d:Int))/\Ae (Ac a0 [] (.t (ixT 1 d w.toNat)) 0) (fun (k3:TV)=>((0<=j/\j<(lenZ 1 k3:Int))/\Ae (Ac a0 [] (.t (ixT 1 k3 j.toNat)) 0) (fun (x4:TV)=>Af .bool x4 (fun (p0:Bool)=>CallT PR B7 [.str o6,.bool p0,(.agg [.int .u8 a4,.int .u8 a1,.bool b7,.bool b8])] [sV] a0 (fun (o0:Int) (l9 k7:Bool) (m9:B8) (o1 m8 l2 l6 l0:Int) (l1:B8) (k9 l5 o2:TV) m0=>(Ac m0 [] (.t (ixT 1 d w.toNat)) 0=some k3/\need (List.all (cV o0 l9 k7 m9 o1 m8 l2 l6 l0 l1 k9 l5 o2) At) (BM 63 13 168 j4 1 (cV o0 l9 k7 m9 o1 m8 l2 l6 l0 l1 k9 l5 o2) m0 (fun (k1:TV) l8=>need (List.all [k1] At) ((I2 ((i64.wrap (j+(1:Int)))) f d w g2 o h1 d8 j1 a4 a1 b7 b8 f0 b9 f5 s5 d0 i6 e3 h9 i2 s6 h5 g1 f9 h3 i9 j0 s7 g3 g6 e8 f6 h7 s8 g7 j3 i5 i3 d5 d4 s9 a7 c9 g0 e0 g5 c8 h8 k1 f1 l8/\M2 ((i64.wrap (j+(1:Int)))) f d w g2 o h1 d8 j1 a4 a1 b7 b8 f0 b9 f5 s5 d0 i6 e3 h9 i2 s6 h5 g1 f9 h3 i9 j0 s7 g3 g6 e8 f6 h7 s8 g7 j3 i5 i3 d5 d4 s9 a7 c9 g0 e0 g5 c8 h8 k1 f1 l8<M2 j f d w g2 o h1 d8 j1 a4 a1 b7 b8 f0 b9 f5 s5 d0 i6 e3 h9 i2 s6 h5 g1 f9 h3 i9 j0 s7 g3 g6 e8 f6 h7 s8 g7 j3 i5 i3 d5 d4 s9 a7 c9 g0 e0 g5 c8 h8 j4 f1 a0))))))))))))))) (need (List.all (cV i3 d5 d4 s9 a7 c9 g0 e0 g5 c8 h8 j4 f1) At) (BM 63 13 168 j3 1 (cV i3 d5 d4 s9 a7 c9 g0 e0 g5 c8 h8 j4 f1) a0 (fun (k6:TV) l3=>need (List.all [k6] At) ((I1 ((i64.wrap (h1+(1:Int)))) f d g2 o a4 a1 b7 b8 f0 b9 f5 s5 d0 i6 e3 h9 i2 s6 h5 g1 f9 h3 i9 j0 s7 g3 g6 e8 f6 h7 s8 g7 k6 i5 l3/\M1 ((i64.wrap (h1+(1:Int)))) f d g2 o a4 a1 b7 b8 f0 b9 f5 s5 d0 i6 e3 h9 i2 s6 h5 g1 f9 h3 i9 j0 s7 g3 g6 e8 f6 h7 s8 g7 k6 i5 l3<M1 g b e r k n3 n4 b1 b2 n5 b3 b4 s1 n6 n7 n8 n9 y s2 v3 v4 v5 u b5 b6 s3 p l m n s s4 v6 v7 v8 q)))))))) (BId ((0:Int)<g) (need (isSl v9) (∃(I3:Int->TV->TV->Int->TV->Int->Int->TV->Int->Int->Int->Bool->Bool->V13 (V13 (V13 (St->Prop)))) (M3:Int->TV->TV->Int->TV->Int->Int->TV->Int->Int->Int->Bool->Bool->V13 (V13 (V13 (St->Nat)))),(I3 0 b e g r k g v9 ((lenS v9:Int)) n3 n4 b1 b2 n5 b3 b4 s1 n6 n7 n8 n9 y s2 v3 v4 v5 u b5 b6 s3 p l m n s s4 v6 v7 v8 7 false false [] 0 0 0 0 0 [] .nilSlice .nilSlice .nilSlice q)/\∀i a c x i4 d1 e5 e2 a2 a6 a5 z a3 f8 g9 i0 f3 e7 g4 d2 a9 i7 c6 h6 i8 b0 f7 d7 d6 c2 c3 c4 a8 h0 e1 e6 g8 j2 c1 c0 f2 d3 e9 c7 d9 h2 e4 c5 i1 h4 f4 j5 v,I3 i a c x i4 d1 e5 e2 a2 a6 a5 z a3 f8 g9 i0 f3 e7 g4 d2 a9 i7 c6 h6 i8 b0 f7 d7 d6 c2 c3 c4 a8 h0 e1 e6 g8 j2 c1 c0 f2 d3 e9 c7 d9 h2 e4 c5 i1 h4 f4 j5 v->(BId (i<a2) (((0<=i/\i<(lenZ 1 e2:Int))/\Ae (Ac v [] (.t (ixT 1 e2 i.toNat)) 0) (fun (x5:TV)=>Af .str x5 (fun (o9:B8)=>((0<=(0:Int)/\(0:Int)<(lenZ 1 a:Int))/\Ae (Ac v [] (.t (ixT 1 a (Int.toNat (0:Int)))) 0) (fun (j6:TV)=>((0<=i/\i<(lenZ 1 j6:Int))/\Ae (Ac v [] (.t (ixT 1 j6 i.toNat)) 0) (fun (x7:TV)=>Af .str x7 (fun (j9:B8)=>((0<=x/\x<(lenZ 1 c:Int))/\Ae (Ac v [] (.t (ixT 1 c x.toNat)) 0) (fun (j8:TV)=>((0<=i/\i<(lenZ 1 j8:Int))/\Ae (Ac v [] (.t (ixT 1 j8 i.toNat)) 0) (fun (x9:TV)=>Af .bool x9 (fun (o7:Bool)=>CallT PR B7 [.str o9,.bool o7,(.agg [.int .u8 a6,.int .u8 a5,.bool z,.bool a3])] [sV] v (fun (m7:Int) (m1 m2:Bool) (m4:B8) (l7 l4 n0 o4 o3:Int) (m5:B8) (o5 m6 m3:TV) j7=>(Ac j7 [] (.t (ixT 1 c x.toNat)) 0=some j8/\(Ac j7 [] (.t (ixT 1 j6 i.toNat)) 0=some (.str j9)/\(Ac j7 [] (.t (ixT 1 a (Int.toNat (0:Int)))) 0=some j6/\need (List.all [.str j9,.int .i64 m7,.bool m1,.bool m2,.str m4,.int .i64 l7,.int .i64 l4,.int .i64 n0,.int .i64 o4,.int .i64 o3,.str m5,o5,m6,m3] At) (BM 136 14 184 j5 1 [.str j9,.int .i64 m7,.bool m1,.bool m2,.str m4,.int .i64 l7,.int .i64 l4,.int .i64 n0,.int .i64 o4,.int .i64 o3,.str m5,o5,m6,m3] j7 (fun (k0:TV) k5=>need (List.all [k0] At) ((I3 ((i64.wrap (i+(1:Int)))) a c x i4 d1 e5 e2 a2 a6 a5 z a3 f8 g9 i0 f3 e7 g4 d2 a9 i7 c6 h6 i8 b0 f7 d7 d6 c2 c3 c4 a8 h0 e1 e6 g8 j2 c1 c0 f2 d3 e9 c7 d9 h2 e4 c5 i1 h4 f4 k0 k5/\M3 ((i64.wrap (i+(1:Int)))) a c x i4 d1 e5 e2 a2 a6 a5 z a3 f8 g9 i0 f3 e7 g4 d2 a9 i7 c6 h6 i8 b0 f7 d7 d6 c2 c3 c4 a8 h0 e1 e6 g8 j2 c1 c0 f2 d3 e9 c7 d9 h2 e4 c5 i1 h4 f4 k0 k5<M3 i a c x i4 d1 e5 e2 a2 a6 a5 z a3 f8 g9 i0 f3 e7 g4 d2 a9 i7 c6 h6 i8 b0 f7 d7 d6 c2 c3 c4 a8 h0 e1 e6 g8 j2 c1 c0 f2 d3 e9 c7 d9 h2 e4 c5 i1 h4 f4 j5 v)))))))))))))))))))))) (need (List.all (cV c0 f2 d3 e9 c7 d9 h2 e4 c5 i1 h4 f4 j5) At) (BM 63 13 168 j2 1 (cV c0 f2 d3 e9 c7 d9 h2 e4 c5 i1 h4 f4 j5) v (fun (k2:TV) k4=>need (List.all [k2] At) ((I1 ((i64.wrap (e5+(1:Int)))) a c i4 d1 a6 a5 z a3 f8 g9 i0 f3 e7 g4 d2 a9 i7 c6 h6 i8 b0 f7 d7 d6 c2 c3 c4 a8 h0 e1 e6 g8 k2 c1 k4/\M1 ((i64.wrap (e5+(1:Int)))) a c i4 d1 a6 a5 z a3 f8 g9 i0 f3 e7 g4 d2 a9 i7 c6 h6 i8 b0 f7 d7 d6 c2 c3 c4 a8 h0 e1 e6 g8 k2 c1 k4<M1 g b e r k n3 n4 b1 b2 n5 b3 b4 s1 n6 n7 n8 n9 y s2 v3 v4 v5 u b5 b6 s3 p l m n s s4 v6 v7 v8 q)))))))) ((I1 ((i64.wrap (g+(1:Int)))) b e r k n3 n4 b1 b2 n5 b3 b4 s1 n6 n7 n8 n9 y s2 v3 v4 v5 u b5 b6 s3 p l m n s s4 v6 v7 v8 q/\M1 ((i64.wrap (g+(1:Int)))) b e r k n3 n4 b1 b2 n5 b3 b4 s1 n6 n7 n8 n9 y s2 v3 v4 v5 u b5 b6 s3 p l m n s s4 v6 v7 v8 q<M1 g b e r k n3 n4 b1 b2 n5 b3 b4 s1 n6 n7 n8 n9 y s2 v3 v4 v5 u b5 b6 s3 p l m n s s4 v6 v7 v8 q)))))) (need (List.all (cV u b5 b6 s3 p l m n s s4 v6 v7 v8) At) (K u b5 b6 s3 p l m n s s4 v6 v7 v8 0 q)))))))):CallT PR Gf [(.agg [.int .i64 n_0,.str g,.str k,j,.str o]),(.agg [.int .u8 d_0,.int .u8 d_1,.bool d_2,.bool d_3])] [sV,.one (.int .i64)] st K:=
 Ag (cfg:=⟨[2,3,4,10,13,16],[],[61,64,92,95,100,103]⟩) (h:=(.seq .none (.seq .none (.seq .none (.seq .none (.seq .none (.seq (.seq .none (.block (.loop ⟨[(38,.int .i64),(6,.tv),(8,.tv),(36,.tv),(37,.int .i64)],[(3,1,0),(4,2,0),(10,3,0)],[(1,4),(2,13),(3,13)],[(1,0,.int .u8),(1,1,.int .u8),(1,2,.bool),(1,3,.bool),(2,0,.int .i64),(2,1,.bool),(2,2,.bool),(2,3,.str),(2,4,.int .i64),(2,5,.int .i64),(2,6,.int .i64),(2,7,.int .i64),(2,8,.int .i64),(2,9,.str),(2,10,.tv),(2,11,.tv),(2,12,.tv),(3,0,.int .i64),(3,1,.bool),(3,2,.bool),(3,3,.str),(3,4,.int .i64),(3,5,.int .i64),(3,6,.int .i64),(3,7,.int .i64),(3,8,.int .i64),(3,9,.str),(3,10,.tv),(3,11,.tv),(3,12,.tv)]⟩ (.seq .none (.seq .none (.seq (.block (.seq .none (.block (.seq .none (.cond (.seq .none (.seq (.seq .none (.block (.loop ⟨[(50,.int .i64),(6,.tv),(8,.tv),(11,.int .i64),(36,.tv),(37,.int .i64),(38,.int .i64),(48,.tv),(49,.int .i64)],[(3,1,0),(4,2,0),(10,3,0),(13,4,0)],[(1,4),(2,13),(3,13),(4,13)],[(1,0,.int .u8),(1,1,.int .u8),(1,2,.bool),(1,3,.bool),(2,0,.int .i64),(2,1,.bool),(2,2,.bool),(2,3,.str),(2,4,.int .i64),(2,5,.int .i64),(2,6,.int .i64),(2,7,.int .i64),(2,8,.int .i64),(2,9,.str),(2,10,.tv),(2,11,.tv),(2,12,.tv),(3,0,.int .i64),(3,1,.bool),(3,2,.bool),(3,3,.str),(3,4,.int .i64),(3,5,.int .i64),(3,6,.int .i64),(3,7,.int .i64),(3,8,.int .i64),(3,9,.str),(3,10,.tv),(3,11,.tv),(3,12,.tv),(4,0,.int .i64),(4,1,.bool),(4,2,.bool),(4,3,.str),(4,4,.int .i64),(4,5,.int .i64),(4,6,.int .i64),(4,7,.int .i64),(4,8,.int .i64),(4,9,.str),(4,10,.tv),(4,11,.tv),(4,12,.tv)]⟩ .none))) .none)) (.seq .none (.cond (.seq .none (.seq (.seq .none (.block (.loop ⟨[(83,.int .i64),(6,.tv),(8,.tv),(11,.int .i64),(36,.tv),(37,.int .i64),(38,.int .i64),(81,.tv),(82,.int .i64)],[(3,1,0),(4,2,0),(10,3,0),(16,5,0)],[(1,4),(2,13),(3,13),(5,13)],[(1,0,.int .u8),(1,1,.int .u8),(1,2,.bool),(1,3,.bool),(2,0,.int .i64),(2,1,.bool),(2,2,.bool),(2,3,.str),(2,4,.int .i64),(2,5,.int .i64),(2,6,.int .i64),(2,7,.int .i64),(2,8,.int .i64),(2,9,.str),(2,10,.tv),(2,11,.tv),(2,12,.tv),(3,0,.int .i64),(3,1,.bool),(3,2,.bool),(3,3,.str),(3,4,.int .i64),(3,5,.int .i64),(3,6,.int .i64),(3,7,.int .i64),(3,8,.int .i64),(3,9,.str),(3,10,.tv),(3,11,.tv),(3,12,.tv),(5,0,.int .i64),(5,1,.bool),(5,2,.bool),(5,3,.str),(5,4,.int .i64),(5,5,.int .i64),(5,6,.int .i64),(5,7,.int .i64),(5,8,.int .i64),(5,9,.str),(5,10,.tv),(5,11,.tv),(5,12,.tv)]⟩ .none))) .none)) .none))))))) .none)))))) .none))))))) mixed (fun _ _=>Tryz.call42 _ _) Tryz.func42 (by kernel_rfl) (by kernel_rfl) h
theorem NZ (a_0:Int) (a_1:Bool) (a_2:Bool) (a_3:B8) (a_4:Int) (a_5:Int) (a_6:Int) (a_7:Int) (a_8:Int) (a_9:B8) (a_10:TV) (a_11:TV) (a_12:TV) (b_0:Int) (b_1:Bool) (b_2:Bool) (b_3:B8) (b_4:Int) (b_5:Int) (b_6:Int) (b_7:Int) (b_8:Int) (b_9:B8) (b_10:TV) (b_11:TV) (b_12:TV) (st:St) (K:Bool->St->Prop) (h:CallT PR Ed [(.agg (cV a_0 a_1 a_2 a_3 a_4 a_5 a_6 a_7 a_8 a_9 a_10 a_11 a_12)),(.agg (cV b_0 b_1 b_2 b_3 b_4 b_5 b_6 b_7 b_8 b_9 b_10 b_11 b_12)),.bool true,.int .i64 65536] [.one .bool] st (fun (b1:Bool) a=>K b1 a)):CallT PR Ga [(.agg (cV a_0 a_1 a_2 a_3 a_4 a_5 a_6 a_7 a_8 a_9 a_10 a_11 a_12)),(.agg (cV b_0 b_1 b_2 b_3 b_4 b_5 b_6 b_7 b_8 b_9 b_10 b_11 b_12))] [.one .bool] st K:=
 Ag (cfg:=⟨[2,3],[],[]⟩) (h:= .none) mixed (fun _ _=>Tryz.call54 _ _) Tryz.func54 (by kernel_rfl) (by kernel_rfl) h
theorem Mo (v_0:Int) (v_1:Bool) (v_2:Bool) (v_3:B8) (v_4:Int) (v_5:Int) (v_6:Int) (v_7:Int) (v_8:Int) (v_9:B8) (v_10:TV) (v_11:TV) (v_12:TV) (st:St) (K:Int->St->Prop) (h:stB (st.push (.cells [.int .i64 0]) (some 3)) (.box st.nb 0) [.int .i64 0] (fun a=>CallT PR Cz [(.agg (cV v_0 v_1 v_2 v_3 v_4 v_5 v_6 v_7 v_8 v_9 v_10 v_11 v_12)),.int .i64 1,(.box st.nb 0)] [.one (.int .i64)] a (fun (n1:Int) b=>K n1 b))):CallT PR Fn [(.agg (cV v_0 v_1 v_2 v_3 v_4 v_5 v_6 v_7 v_8 v_9 v_10 v_11 v_12))] [.one (.int .i64)] st K:=
 Ag (cfg:=⟨[1],[],[]⟩) (h:= .none) mixed (fun _ _=>Tryz.call58 _ _) Tryz.func58 (by kernel_rfl) (by kernel_rfl) h
theorem HO (v_0:Int) (v_1:Bool) (v_2:Bool) (v_3:B8) (v_4:Int) (v_5:Int) (v_6:Int) (v_7:Int) (v_8:Int) (v_9:B8) (v_10:TV) (v_11:TV) (v_12:TV) (depth:Int) (n:Int) (bytes:Int) (st:St) (K:Int->St->Prop) (h:BId (depth<1) (K (-1) st) (BId (n<1) (K (-1) st) (BId (bytes<(v_9.length:Int)) (K (-1) st) (need (isSl v_10) (BId (bytes<(lenS v_10:Int)) (K (-1) st) (BId (bytes<(v_3.length:Int)) (K (-1) st) (need (isSl v_11) (BId (n<(lenS v_11:Int)) (K (-1) st) (need (isSl v_12) (BId (n<(lenS v_12:Int)) (K (-1) st) (∃(I1:Int->Int->Int->Int->V13 (St->Prop)) (M1:Int->Int->Int->Int->V13 (St->Nat)),(I1 ((i64.wrap (n-(1:Int)))) 0 depth bytes v_0 v_1 v_2 v_3 v_4 v_5 v_6 v_7 v_8 v_9 v_10 v_11 v_12 st)/\∀q m b a n1 b1 b2 s1 n2 n3 n4 n5 n6 s2 v1 v2 v3 o,I1 q m b a n1 b1 b2 s1 n2 n3 n4 n5 n6 s2 v1 v2 v3 o->(need (isSl v2) (BId (m<(lenS v2:Int)) (BId ((0:Int)<=q) (((0<=m/\m<(lenZ 13 v2:Int))/\Ae ((Ah o [] (.t (ixT 13 v2 m.toNat)) 0 13).map TV.agg) (fun (x1:TV)=>AK [.int .i64,.bool,.bool,.str,.int .i64,.int .i64,.int .i64,.int .i64,.int .i64,.str,.tv,.tv,.tv] x1 (fun (n7:Int) (b3 b4:Bool) (s3:B8) (n8 n9 c7 e5 d7:Int) (s4:B8) (v4 v5 v6:TV)=>CallT PR A2 [(.agg (cV n7 b3 b4 s3 n8 n9 c7 e5 d7 s4 v4 v5 v6)),(.int .i64 (i64.wrap (b-(1:Int)))),.int .i64 q,.int .i64 a] [.one (.int .i64)] o (fun (c2:Int) c1=>(I1 c2 ((i64.wrap (m+(1:Int)))) b a n1 b1 b2 s1 n2 n3 n4 n5 n6 s2 v1 v2 v3 c1/\M1 c2 ((i64.wrap (m+(1:Int)))) b a n1 b1 b2 s1 n2 n3 n4 n5 n6 s2 v1 v2 v3 c1<M1 q m b a n1 b1 b2 s1 n2 n3 n4 n5 n6 s2 v1 v2 v3 o)))))) (∃(I2:Int->Int->Int->Int->V13 (St->Prop)) (M2:Int->Int->Int->Int->V13 (St->Nat)),(I2 q 0 b a n1 b1 b2 s1 n2 n3 n4 n5 n6 s2 v1 v2 v3 o)/\∀r e g d a9 b5 b6 s5 s a0 a6 x a7 s6 v7 v8 v9 k,I2 r e g d a9 b5 b6 s5 s a0 a6 x a7 s6 v7 v8 v9 k->(need (isSl v9) (BId (e<(lenS v9:Int)) (BId ((0:Int)<=r) (((0<=e/\e<(lenZ 14 v9:Int))/\need (isPtr (ixT 14 v9 e.toNat)) (Ae (Ac k [] (.t (Am (ixT 14 v9 e.toNat) 0)) 0) (fun (x2:TV)=>Af .str x2 (fun (s7:B8)=>BId (d<(s7.length:Int)) (K (-1) k) (((0<=e/\e<(lenZ 14 v9:Int))/\need (isPtr (ixT 14 v9 e.toNat)) (Ae ((Ah k [] (.t (Am (ixT 14 v9 e.toNat) 1)) 0 13).map TV.agg) (fun (x3:TV)=>AK [.int .i64,.bool,.bool,.str,.int .i64,.int .i64,.int .i64,.int .i64,.int .i64,.str,.tv,.tv,.tv] x3 (fun (e4:Int) (b7 b8:Bool) (s8:B8) (e7 d8 d5 e2 c8:Int) (s9:B8) (c9 e0 d6:TV)=>CallT PR A2 [(.agg (cV e4 b7 b8 s8 e7 d8 d5 e2 c8 s9 c9 e0 d6)),(.int .i64 (i64.wrap (g-(1:Int)))),.int .i64 r,.int .i64 d] [.one (.int .i64)] k (fun (c3:Int) c0=>(I2 c3 ((i64.wrap (e+(1:Int)))) g d a9 b5 b6 s5 s a0 a6 x a7 s6 v7 v8 v9 c0/\M2 c3 ((i64.wrap (e+(1:Int)))) g d a9 b5 b6 s5 s a0 a6 x a7 s6 v7 v8 v9 c0<M2 r e g d a9 b5 b6 s5 s a0 a6 x a7 s6 v7 v8 v9 k)))))))))))) (K r k)) (K r k))))) (∃(I3:Int->Int->Int->Int->V13 (St->Prop)) (M3:Int->Int->Int->Int->V13 (St->Nat)),(I3 q 0 b a n1 b1 b2 s1 n2 n3 n4 n5 n6 s2 v1 v2 v3 o)/\∀p f i c a2 b9 w a1 a5 z y a4 u v a3 a8 j l,I3 p f i c a2 b9 w a1 a5 z y a4 u v a3 a8 j l->(need (isSl j) (BId (f<(lenS j:Int)) (BId ((0:Int)<=p) (((0<=f/\f<(lenZ 14 j:Int))/\need (isPtr (ixT 14 j f.toNat)) (Ae (Ac l [] (.t (Am (ixT 14 j f.toNat) 0)) 0) (fun (x4:TV)=>Af .str x4 (fun (e8:B8)=>BId (c<(e8.length:Int)) (K (-1) l) (((0<=f/\f<(lenZ 14 j:Int))/\need (isPtr (ixT 14 j f.toNat)) (Ae ((Ah l [] (.t (Am (ixT 14 j f.toNat) 1)) 0 13).map TV.agg) (fun (x5:TV)=>AK [.int .i64,.bool,.bool,.str,.int .i64,.int .i64,.int .i64,.int .i64,.int .i64,.str,.tv,.tv,.tv] x5 (fun (e3:Int) (e9 f0:Bool) (d1:B8) (d9 d4 e1 e6 d2:Int) (c6:B8) (d3 d0 c5:TV)=>CallT PR A2 [(.agg (cV e3 e9 f0 d1 d9 d4 e1 e6 d2 c6 d3 d0 c5)),(.int .i64 (i64.wrap (i-(1:Int)))),.int .i64 p,.int .i64 c] [.one (.int .i64)] l (fun (c4:Int) b0=>(I3 c4 ((i64.wrap (f+(1:Int)))) i c a2 b9 w a1 a5 z y a4 u v a3 a8 j b0/\M3 c4 ((i64.wrap (f+(1:Int)))) i c a2 b9 w a1 a5 z y a4 u v a3 a8 j b0<M3 p f i c a2 b9 w a1 a5 z y a4 u v a3 a8 j l)))))))))))) (K p l)) (K p l))))))))))))))))):CallT PR A2 [(.agg (cV v_0 v_1 v_2 v_3 v_4 v_5 v_6 v_7 v_8 v_9 v_10 v_11 v_12)),.int .i64 depth,.int .i64 n,.int .i64 bytes] [.one (.int .i64)] st K:=
 Ag (cfg:=⟨[4],[],[]⟩) (h:=(.seq .none (.seq .none (.seq .none (.seq (.seq .none (.block (.loop ⟨[(2,.int .i64),(9,.int .i64),(1,.int .i64),(3,.int .i64)],[(4,0,0)],[(0,13)],[(0,0,.int .i64),(0,1,.bool),(0,2,.bool),(0,3,.str),(0,4,.int .i64),(0,5,.int .i64),(0,6,.int .i64),(0,7,.int .i64),(0,8,.int .i64),(0,9,.str),(0,10,.tv),(0,11,.tv),(0,12,.tv)]⟩ .none))) (.seq (.seq .none (.block (.loop ⟨[(2,.int .i64),(10,.int .i64),(1,.int .i64),(3,.int .i64)],[(4,0,0)],[(0,13)],[(0,0,.int .i64),(0,1,.bool),(0,2,.bool),(0,3,.str),(0,4,.int .i64),(0,5,.int .i64),(0,6,.int .i64),(0,7,.int .i64),(0,8,.int .i64),(0,9,.str),(0,10,.tv),(0,11,.tv),(0,12,.tv)]⟩ .none))) .none)))))) mixed (fun _ _=>Tryz.call84 _ _) Tryz.func84 (by kernel_rfl) (by kernel_rfl) h
theorem GO (v_0:Int) (v_1:Bool) (v_2:Bool) (v_3:B8) (v_4:Int) (v_5:Int) (v_6:Int) (v_7:Int) (v_8:Int) (v_9:B8) (v_10:TV) (v_11:TV) (v_12:TV) (st:St) (K:Int->St->Prop) (h:need (isSl v_10) (∃(I1:Int->Int->V13 (St->Prop)) (M1:Int->Int->V13 (St->Nat)),(I1 ((i64.wrap ((i64.wrap ((v_9.length:Int)+(lenS v_10:Int)))+(v_3.length:Int)))) 0 v_0 v_1 v_2 v_3 v_4 v_5 v_6 v_7 v_8 v_9 v_10 v_11 v_12 st)/\∀e b n1 b1 b2 s1 n2 n3 n4 n5 n6 s2 v1 v2 v3 d,I1 e b n1 b1 b2 s1 n2 n3 n4 n5 n6 s2 v1 v2 v3 d->(need (isSl v2) (BId (b<(lenS v2:Int)) (((0<=b/\b<(lenZ 13 v2:Int))/\Ae ((Ah d [] (.t (ixT 13 v2 b.toNat)) 0 13).map TV.agg) (fun (x1:TV)=>AK [.int .i64,.bool,.bool,.str,.int .i64,.int .i64,.int .i64,.int .i64,.int .i64,.str,.tv,.tv,.tv] x1 (fun (n7:Int) (b3 b4:Bool) (s3:B8) (n8 n9 r a2 x:Int) (s4:B8) (v4 v5 v6:TV)=>CallT PR A7 [(.agg (cV n7 b3 b4 s3 n8 n9 r a2 x s4 v4 v5 v6))] [.one (.int .i64)] d (fun (p:Int) o=>(I1 ((i64.wrap (e+p))) ((i64.wrap (b+(1:Int)))) n1 b1 b2 s1 n2 n3 n4 n5 n6 s2 v1 v2 v3 o/\M1 ((i64.wrap (e+p))) ((i64.wrap (b+(1:Int)))) n1 b1 b2 s1 n2 n3 n4 n5 n6 s2 v1 v2 v3 o<M1 e b n1 b1 b2 s1 n2 n3 n4 n5 n6 s2 v1 v2 v3 d)))))) (∃(I2:Int->Int->V13 (St->Prop)) (M2:Int->Int->V13 (St->Nat)),(I2 e 0 n1 b1 b2 s1 n2 n3 n4 n5 n6 s2 v1 v2 v3 d)/\∀f a m b5 b6 s5 g j k i l s6 v7 v8 v9 c,I2 f a m b5 b6 s5 g j k i l s6 v7 v8 v9 c->(need (isSl v9) (BId (a<(lenS v9:Int)) (((0<=a/\a<(lenZ 14 v9:Int))/\need (isPtr (ixT 14 v9 a.toNat)) (Ae (Ac c [] (.t (Am (ixT 14 v9 a.toNat) 0)) 0) (fun (x2:TV)=>Af .str x2 (fun (s7:B8)=>((0<=a/\a<(lenZ 14 v9:Int))/\need (isPtr (ixT 14 v9 a.toNat)) (Ae ((Ah c [] (.t (Am (ixT 14 v9 a.toNat) 1)) 0 13).map TV.agg) (fun (x3:TV)=>AK [.int .i64,.bool,.bool,.str,.int .i64,.int .i64,.int .i64,.int .i64,.int .i64,.str,.tv,.tv,.tv] x3 (fun (a1:Int) (b7 b8:Bool) (s8:B8) (a3 y v a0 s:Int) (s9:B8) (u z w:TV)=>CallT PR A7 [(.agg (cV a1 b7 b8 s8 a3 y v a0 s s9 u z w))] [.one (.int .i64)] c (fun (q:Int) n=>(Ac n [] (.t (Am (ixT 14 v9 a.toNat) 0)) 0=some (.str s7)/\(I2 ((i64.wrap ((i64.wrap (f+(s7.length:Int)))+q))) ((i64.wrap (a+(1:Int)))) m b5 b6 s5 g j k i l s6 v7 v8 v9 n/\M2 ((i64.wrap ((i64.wrap (f+(s7.length:Int)))+q))) ((i64.wrap (a+(1:Int)))) m b5 b6 s5 g j k i l s6 v7 v8 v9 n<M2 f a m b5 b6 s5 g j k i l s6 v7 v8 v9 c)))))))))))) (K f c)))))))):CallT PR A7 [(.agg (cV v_0 v_1 v_2 v_3 v_4 v_5 v_6 v_7 v_8 v_9 v_10 v_11 v_12))] [.one (.int .i64)] st K:=
 Ag (cfg:=⟨[1],[],[46,54]⟩) (h:=(.seq .none (.seq .none (.seq (.seq .none (.block (.loop ⟨[(3,.int .i64),(4,.int .i64)],[(1,0,0)],[(0,13)],[(0,0,.int .i64),(0,1,.bool),(0,2,.bool),(0,3,.str),(0,4,.int .i64),(0,5,.int .i64),(0,6,.int .i64),(0,7,.int .i64),(0,8,.int .i64),(0,9,.str),(0,10,.tv),(0,11,.tv),(0,12,.tv)]⟩ .none))) (.seq (.seq .none (.block (.loop ⟨[(3,.int .i64),(5,.int .i64)],[(1,0,0)],[(0,13)],[(0,0,.int .i64),(0,1,.bool),(0,2,.bool),(0,3,.str),(0,4,.int .i64),(0,5,.int .i64),(0,6,.int .i64),(0,7,.int .i64),(0,8,.int .i64),(0,9,.str),(0,10,.tv),(0,11,.tv),(0,12,.tv)]⟩ .none))) .none))))) mixed (fun _ _=>Tryz.call85 _ _) Tryz.func85 (by kernel_rfl) (by kernel_rfl) h
theorem PA (v_0:Int) (v_1:Bool) (v_2:Bool) (v_3:B8) (v_4:Int) (v_5:Int) (v_6:Int) (v_7:Int) (v_8:Int) (v_9:B8) (v_10:TV) (v_11:TV) (v_12:TV) (d_0:Int) (d_1:Int) (d_2:Bool) (d_3:Bool) (st:St) (K:B8->Int->St->Prop) (h:BIf (!d_3) (BId (v_0≠4) (K [] 27 st) (BId (v_0=0) (K [] 0 st) (BId (v_0=1) (BIf v_1 (K OB 0 st) (K Wp 0 st)) (BId (v_0=2) (CallT PR Dl [(.agg [.bool v_2,.str v_3,.int .i64 v_4])] [.one .str] st (fun (s1:B8) k=>K s1 0 k)) (BId (v_0=3) (CallT PR DF [(.agg [.int .i64 v_5,.int .i64 v_6,.int .i64 v_7,.int .i64 v_8])] [.one .str] st (fun (s2:B8) m=>K s2 0 m)) (BId (v_0=4) (CallT PR DJ [.str v_9,(.agg [.int .u8 d_0,.int .u8 d_1,.bool d_2,.bool d_3])] [.one .str,.one (.int .i64)] st (fun (s3:B8) (n1:Int) c=>BId (n1≠0) (K s3 n1 c) (BId (s3≠v_9) (K s3 n1 c) (CallT PR B7 [.str s3,.bool false,(.agg [.int .u8 d_0,.int .u8 d_1,.bool d_2,.bool d_3])] [sV] c (fun (n2:Int) (b1 b2:Bool) (s4:B8) (n3 n4 n5 n6 n7:Int) (s5:B8) (v1 v2 v3:TV) d=>BId (n2=4) (K s3 n1 d) (Ae ((toBytes d (.list 1 .full 1 [.int .u8 d_1])).map TV.str) (fun (x1:TV)=>Af .str x1 (fun (s6:B8)=>(s6.length+s6.length<=9223372036854775807/\CallT PR AE [.str s3,.str s6,(.str (s6++s6))] [.one .str] d (fun (s7:B8) l=>(s6.length+s7.length<=9223372036854775807/\(((s6++s7)).length+s6.length<=9223372036854775807/\K (((s6++s7)++s6)) 0 l)))))))))))) (K [] 27 st))))))) (BId (v_0=0) (K [] 0 st) (BId (v_0=1) (BIf v_1 (K OB 0 st) (K Wp 0 st)) (BId (v_0=2) (CallT PR Dl [(.agg [.bool v_2,.str v_3,.int .i64 v_4])] [.one .str] st (fun (s8:B8) j=>K s8 0 j)) (BId (v_0=3) (CallT PR DF [(.agg [.int .i64 v_5,.int .i64 v_6,.int .i64 v_7,.int .i64 v_8])] [.one .str] st (fun (s9:B8) n=>K s9 0 n)) (BId (v_0=4) (CallT PR DJ [.str v_9,(.agg [.int .u8 d_0,.int .u8 d_1,.bool d_2,.bool d_3])] [.one .str,.one (.int .i64)] st (fun (b:B8) (n8:Int) f=>BId (n8≠0) (K b n8 f) (BId (b≠v_9) (K b n8 f) (CallT PR B7 [.str b,.bool false,(.agg [.int .u8 d_0,.int .u8 d_1,.bool d_2,.bool d_3])] [sV] f (fun (n9:Int) (b3 b4:Bool) (p:B8) (o s r q u:Int) (t:B8) (v4 v5 v6:TV) g=>BId (n9=4) (K b n8 g) (Ae ((toBytes g (.list 1 .full 1 [.int .u8 d_1])).map TV.str) (fun (x2:TV)=>Af .str x2 (fun (a:B8)=>(a.length+a.length<=9223372036854775807/\CallT PR AE [.str b,.str a,(.str (a++a))] [.one .str] g (fun (e:B8) i=>(a.length+e.length<=9223372036854775807/\(((a++e)).length+a.length<=9223372036854775807/\K (((a++e)++a)) 0 i)))))))))))) (K [] 27 st))))))):CallT PR G8 [(.agg (cV v_0 v_1 v_2 v_3 v_4 v_5 v_6 v_7 v_8 v_9 v_10 v_11 v_12)),(.agg [.int .u8 d_0,.int .u8 d_1,.bool d_2,.bool d_3])] [.one .str,.one (.int .i64)] st K:=
 Ag (cfg:=⟨[2,3],[],[]⟩) (h:= .none) mixed (fun _ _=>Tryz.call87 _ _) Tryz.func87 (by kernel_rfl) (by kernel_rfl) h
theorem FY (s:B8) (st:St) (K:V13 (St->Prop)) (h:K 4 false false [] 0 0 0 0 0 s .nilSlice .nilSlice .nilSlice st):CallT PR Cj [.str s] [sV] st K:=
 Ag (cfg:=⟨[2],[],[]⟩) (h:= .none) mixed (fun _ _=>Tryz.call93 _ _) Tryz.func93 (by kernel_rfl) (by kernel_rfl) h
theorem N0 (st:St) (K:V13 (St->Prop)) (h:K 0 false false [] 0 0 0 0 0 [] .nilSlice .nilSlice .nilSlice st):CallT PR IN [] [sV] st K:=
 Ag (cfg:=⟨[0],[],[]⟩) (h:= .none) mixed (fun _ _=>Tryz.call94 _ _) Tryz.func94 (by kernel_rfl) (by kernel_rfl) h
theorem IA (b:Bool) (st:St) (K:V13 (St->Prop)) (h:K 1 b false [] 0 0 0 0 0 [] .nilSlice .nilSlice .nilSlice st):CallT PR Gb [.bool b] [sV] st K:=
 Ag (cfg:=⟨[2],[],[]⟩) (h:= .none) mixed (fun _ _=>Tryz.call95 _ _) Tryz.func95 (by kernel_rfl) (by kernel_rfl) h
theorem Kw (s:B8) (st:St) (K:Bool->B8->Int->Int->St->Prop) (h:CallT PR AT [.str s,.str Ei] [.one .bool] st (fun (b1:Bool) a0=>∃(C1:B8->Bool->Bool->B8->Int->St->Prop),(BIf b1 (((0<=(1:Int)/\(1:Int)<=(s.length:Int))/\C1 ((List.drop (Int.toNat (1:Int)) s)) b1 false [] 0 a0)) (C1 s b1 false [] 0 a0))/\∀l n b2 s1 n1 a4,C1 l n b2 s1 n1 a4->(CallT PR CD [.str l] [.one (.int .i64)] a4 (fun (n2:Int) t=>∃(C2:B8->Bool->Int->Bool->B8->Int->St->Prop),(BId (n2=0) (K false [] 0 3 t) (BId ((1:Int)<n2) (((0<=(0:Int)/\(0:Int)<(l.length:Int))/\BId (((List.getD l (Int.toNat (0:Int)) 0).toNat:Int)=(48:Int)) (K false [] 0 3 t) (C2 l n n2 b2 s1 n1 t))) (C2 l n n2 b2 s1 n1 t)))/\∀b m a b3 s2 n3 a1,C2 b m a b3 s2 n3 a1->(((0<=a/\a<=(b.length:Int))/\((0<=a/\a<=(b.length:Int))/\∃(C3:B8->B8->Int->Bool->Bool->B8->Int->St->Prop),(CallT PR AT [(.str (List.drop a.toNat b)),.str IC] [.one .bool] a1 (fun (b4:Bool) a3=>BIf b4 (((0<=(1:Int)/\(1:Int)<=(((List.drop a.toNat b)).length:Int))/\CallT PR CD [(.str (List.drop (Int.toNat (1:Int)) (List.drop a.toNat b)))] [.one (.int .i64)] a3 (fun (n4:Int) z=>BId (n4=0) (K false [] 0 3 z) (((0<=(1:Int)/\(1:Int)<=(i64.wrap (n4+(1:Int)))/\(i64.wrap (n4+(1:Int)))<=(((List.drop a.toNat b)).length:Int))/\(((List.take a.toNat b)).length+((List.drop (Int.toNat (1:Int)) (List.take (Int.toNat (i64.wrap (n4+(1:Int)))) (List.drop a.toNat b)))).length<=9223372036854775807/\((0<=(i64.wrap (n4+(1:Int)))/\(i64.wrap (n4+(1:Int)))<=(((List.drop a.toNat b)).length:Int))/\C3 ((List.drop (Int.toNat (i64.wrap (n4+(1:Int)))) (List.drop a.toNat b))) (((List.take a.toNat b)++(List.drop (Int.toNat (1:Int)) (List.take (Int.toNat (i64.wrap (n4+(1:Int)))) (List.drop a.toNat b))))) ((i64.wrap (0-n4))) m b3 s2 n3 z))))))) (C3 ((List.drop a.toNat b)) ((List.take a.toNat b)) 0 m b3 s2 n3 a3)))/\∀d g e i b5 s3 n5 o,C3 d g e i b5 s3 n5 o->(BId (d≠([]:B8)) (∃(C4:B8->Bool->B8->Int->Bool->B8->Int->St->Prop),(((0<=(0:Int)/\(0:Int)<(d.length:Int))/\BId (((List.getD d (Int.toNat (0:Int)) 0).toNat:Int)≠(101:Int)) (((0<=(0:Int)/\(0:Int)<(d.length:Int))/\BId (((List.getD d (Int.toNat (0:Int)) 0).toNat:Int)≠(69:Int)) (K false [] 0 3 o) (C4 d i g e b5 s3 n5 o))) (C4 d i g e b5 s3 n5 o)))/\∀c k f j b6 s4 n6 a2,C4 c k f j b6 s4 n6 a2->(((0<=(1:Int)/\(1:Int)<=(c.length:Int))/\CallT PR AT [(.str (List.drop (Int.toNat (1:Int)) c)),.str Ei] [.one .bool] a2 (fun (b7:Bool) a5=>∃(C5:B8->Bool->B8->Int->Bool->Bool->B8->Int->St->Prop),(BIf b7 (((0<=(1:Int)/\(1:Int)<=(((List.drop (Int.toNat (1:Int)) c)).length:Int))/\C5 ((List.drop (Int.toNat (1:Int)) (List.drop (Int.toNat (1:Int)) c))) k f j b7 b6 s4 n6 a5)) (CallT PR AT [(.str (List.drop (Int.toNat (1:Int)) c)),.str Q6] [.one .bool] a5 (fun (b8:Bool) x=>BIf b8 (((0<=(1:Int)/\(1:Int)<=(((List.drop (Int.toNat (1:Int)) c)).length:Int))/\C5 ((List.drop (Int.toNat (1:Int)) (List.drop (Int.toNat (1:Int)) c))) k f j b7 b6 s4 n6 x)) (C5 ((List.drop (Int.toNat (1:Int)) c)) k f j b7 b6 s4 n6 x))))/\∀q v u w p b9 s5 n7 r,C5 q v u w p b9 s5 n7 r->(BId (q=([]:B8)) (K false [] 0 3 r) (CallT PR CD [.str q] [.one (.int .i64)] r (fun (n8:Int) y=>BId (n8≠(q.length:Int)) (K false [] 0 3 y) (CallT PR CY [.str q,.str JL] [.one .str] y (fun (s6:B8) a9=>CallT PR D8 [.int .i64 w,.bool p,.str s6] [.one (.int .i64)] a9 (fun (n9:Int) a8=>CallT PR Cg [.bool v,.str u,.int .i64 n9] [.agg [.bool,.str,.int .i64],.one (.int .i64)] a8 (fun (c1:Bool) (s7:B8) (b0 c3:Int) a7=>K c1 s7 b0 c3 a7))))))))))) (CallT PR Cg [.bool i,.str g,.int .i64 e] [.agg [.bool,.str,.int .i64],.one (.int .i64)] o (fun (c4:Bool) (s8:B8) (c2 c0:Int) a6=>K c4 s8 c2 c0 a6)))))))))):CallT PR BW [.str s] [.agg [.bool,.str,.int .i64],.one (.int .i64)] st K:=
 Ag (cfg:=⟨[2],[],[]⟩) (h:=(.seq .none (.seq .none (.cut ⟨[(0,.str),(4,.bool)],[(2,0,0)],[(0,3)],[(0,0,.bool),(0,1,.str),(0,2,.int .i64)]⟩ .none (.seq .none (.cut ⟨[(0,.str),(4,.bool),(5,.int .i64)],[(2,0,0)],[(0,3)],[(0,0,.bool),(0,1,.str),(0,2,.int .i64)]⟩ .none (.seq .none (.seq .none (.seq .none (.cut ⟨[(0,.str),(6,.str),(7,.int .i64),(4,.bool)],[(2,0,0)],[(0,3)],[(0,0,.bool),(0,1,.str),(0,2,.int .i64)]⟩ .none (.seq (.seq .none (.cond (.cut ⟨[(0,.str),(4,.bool),(6,.str),(7,.int .i64)],[(2,0,0)],[(0,3)],[(0,0,.bool),(0,1,.str),(0,2,.int .i64)]⟩ .none (.seq .none (.seq .none (.cut ⟨[(0,.str),(4,.bool),(6,.str),(7,.int .i64),(8,.bool)],[(2,0,0)],[(0,3)],[(0,0,.bool),(0,1,.str),(0,2,.int .i64)]⟩ .none .none)))) .none)) .none))))))))))) mixed (fun _ _=>Tryz.call96 _ _) Tryz.func96 (by kernel_rfl) (by kernel_rfl) h
theorem Pv (d_0:Bool) (d_1:B8) (d_2:Int) (st:St) (K:V13 (St->Prop)) (h:K 2 false d_0 d_1 d_2 0 0 0 0 [] .nilSlice .nilSlice .nilSlice st):CallT PR EU [(.agg [.bool d_0,.str d_1,.int .i64 d_2])] [sV] st K:=
 Ag (cfg:=⟨[1,2],[],[]⟩) (h:= .none) mixed (fun _ _=>Tryz.call97 _ _) Tryz.func97 (by kernel_rfl) (by kernel_rfl) h
theorem LP (s:B8) (st:St) (K:Int->Int->Int->Int->Int->St->Prop) (h:CallT PR Cm [(.box st.nb 0),(.box (st.push (.cells [.str s,.bool false]) (some 220)).nb 0)] [.one (.int .i64)] ((st.push (.cells [.str s,.bool false]) (some 220)).push (.cells [.int .i64 0,.int .i64 0,.int .i64 0,.int .i64 0,.int .i64 0,.int .i64 0,.int .i64 0,.int .u8 0,.int .i64 0,.int .i64 0]) (some 222)) (fun (n1:Int) a=>Ae (Ac a [] (.t (.box st.nb 1)) 0) (fun (x1:TV)=>Af .bool x1 (fun (b1:Bool)=>BIf b1 (K 0 0 0 0 3 a) (Ae (Ac a [] (.t (.box st.nb 0)) 0) (fun (x2:TV)=>Af .str x2 (fun (s1:B8)=>BId (s1≠([]:B8)) (K 0 0 0 0 3 a) (BId (n1≠2) (Ae (Ac a [] (.t (.box (st.push (.cells [.str s,.bool false]) (some 220)).nb 0)) 0) (fun (x3:TV)=>Af (.int .i64) x3 (fun (n2:Int)=>Ae (Ac a [] (.t (.box (st.push (.cells [.str s,.bool false]) (some 220)).nb 1)) 0) (fun (x4:TV)=>Af (.int .i64) x4 (fun (n3:Int)=>Ae (Ac a [] (.t (.box (st.push (.cells [.str s,.bool false]) (some 220)).nb 2)) 0) (fun (x5:TV)=>Af (.int .i64) x5 (fun (n4:Int)=>CallT PR EE [.int .i64 n2,.int .i64 n3,.int .i64 n4] [.one (.int .i64),.one (.int .i64)] a (fun (n5 n6:Int) b=>BId (n6≠0) (K 0 0 0 0 2 b) (Ae (Ac b [] (.t (.box (st.push (.cells [.str s,.bool false]) (some 220)).nb 3)) 0) (fun (x6:TV)=>Af (.int .i64) x6 (fun (n7:Int)=>BId ((23:Int)<n7) (K 0 0 0 0 2 b) (Ae (Ac b [] (.t (.box (st.push (.cells [.str s,.bool false]) (some 220)).nb 4)) 0) (fun (x7:TV)=>Af (.int .i64) x7 (fun (n8:Int)=>BId ((59:Int)<n8) (K 0 0 0 0 2 b) (Ae (Ac b [] (.t (.box (st.push (.cells [.str s,.bool false]) (some 220)).nb 5)) 0) (fun (x8:TV)=>Af (.int .i64) x8 (fun (n9:Int)=>BId ((59:Int)<n9) (K 0 0 0 0 2 b) (Ae (Ac b [] (.t (.box (st.push (.cells [.str s,.bool false]) (some 220)).nb 8)) 0) (fun (x9:TV)=>Af (.int .i64) x9 (fun (p:Int)=>BId ((23:Int)<p) (K 0 0 0 0 2 b) (Ae (Ac b [] (.t (.box (st.push (.cells [.str s,.bool false]) (some 220)).nb 9)) 0) (fun (v:TV)=>Af (.int .i64) v (fun (b5:Int)=>BId ((59:Int)<b5) (K 0 0 0 0 2 b) (Ae (Ac b [] (.t (.box (st.push (.cells [.str s,.bool false]) (some 220)).nb 3)) 0) (fun (a7:TV)=>Af (.int .i64) a7 (fun (i:Int)=>Ae (Ac b [] (.t (.box (st.push (.cells [.str s,.bool false]) (some 220)).nb 4)) 0) (fun (b9:TV)=>Af (.int .i64) b9 (fun (e:Int)=>Ae (Ac b [] (.t (.box (st.push (.cells [.str s,.bool false]) (some 220)).nb 5)) 0) (fun (b0:TV)=>Af (.int .i64) b0 (fun (o:Int)=>Ae (Ac b [] (.t (.box (st.push (.cells [.str s,.bool false]) (some 220)).nb 6)) 0) (fun (a8:TV)=>Af (.int .i64) a8 (fun (c:Int)=>Ae (Ac b [] (.t (.box (st.push (.cells [.str s,.bool false]) (some 220)).nb 8)) 0) (fun (q:TV)=>Af (.int .i64) q (fun (g:Int)=>Ae (Ac b [] (.t (.box (st.push (.cells [.str s,.bool false]) (some 220)).nb 9)) 0) (fun (a1:TV)=>Af (.int .i64) a1 (fun (m:Int)=>Ae (Ac b [] (.t (.box (st.push (.cells [.str s,.bool false]) (some 220)).nb 7)) 0) (fun (u:TV)=>Af (.int .u8) u (fun (w:Int)=>BId (w=45) (K n1 n5 ((i64.wrap ((i64.wrap ((i64.wrap ((i64.wrap ((i64.wrap ((i64.wrap (i*(60:Int)))+e))*(60:Int)))+o))*(1000000000:Int)))+c))) ((i64.wrap (0-(i64.wrap ((i64.wrap (g*(60:Int)))+m))))) 0 b) (K n1 n5 ((i64.wrap ((i64.wrap ((i64.wrap ((i64.wrap ((i64.wrap ((i64.wrap (i*(60:Int)))+e))*(60:Int)))+o))*(1000000000:Int)))+c))) ((i64.wrap ((i64.wrap (g*(60:Int)))+m))) 0 b))))))))))))))))))))))))))))))))))))))) (Ae (Ac a [] (.t (.box (st.push (.cells [.str s,.bool false]) (some 220)).nb 3)) 0) (fun (r:TV)=>Af (.int .i64) r (fun (b6:Int)=>BId ((23:Int)<b6) (K 0 0 0 0 2 a) (Ae (Ac a [] (.t (.box (st.push (.cells [.str s,.bool false]) (some 220)).nb 4)) 0) (fun (b3:TV)=>Af (.int .i64) b3 (fun (b4:Int)=>BId ((59:Int)<b4) (K 0 0 0 0 2 a) (Ae (Ac a [] (.t (.box (st.push (.cells [.str s,.bool false]) (some 220)).nb 5)) 0) (fun (x:TV)=>Af (.int .i64) x (fun (b8:Int)=>BId ((59:Int)<b8) (K 0 0 0 0 2 a) (Ae (Ac a [] (.t (.box (st.push (.cells [.str s,.bool false]) (some 220)).nb 8)) 0) (fun (z:TV)=>Af (.int .i64) z (fun (a6:Int)=>BId ((23:Int)<a6) (K 0 0 0 0 2 a) (Ae (Ac a [] (.t (.box (st.push (.cells [.str s,.bool false]) (some 220)).nb 9)) 0) (fun (a3:TV)=>Af (.int .i64) a3 (fun (a4:Int)=>BId ((59:Int)<a4) (K 0 0 0 0 2 a) (Ae (Ac a [] (.t (.box (st.push (.cells [.str s,.bool false]) (some 220)).nb 3)) 0) (fun (a9:TV)=>Af (.int .i64) a9 (fun (l:Int)=>Ae (Ac a [] (.t (.box (st.push (.cells [.str s,.bool false]) (some 220)).nb 4)) 0) (fun (b7:TV)=>Af (.int .i64) b7 (fun (d:Int)=>Ae (Ac a [] (.t (.box (st.push (.cells [.str s,.bool false]) (some 220)).nb 5)) 0) (fun (b2:TV)=>Af (.int .i64) b2 (fun (j:Int)=>Ae (Ac a [] (.t (.box (st.push (.cells [.str s,.bool false]) (some 220)).nb 6)) 0) (fun (a2:TV)=>Af (.int .i64) a2 (fun (k:Int)=>Ae (Ac a [] (.t (.box (st.push (.cells [.str s,.bool false]) (some 220)).nb 8)) 0) (fun (c0:TV)=>Af (.int .i64) c0 (fun (n:Int)=>Ae (Ac a [] (.t (.box (st.push (.cells [.str s,.bool false]) (some 220)).nb 9)) 0) (fun (a5:TV)=>Af (.int .i64) a5 (fun (f:Int)=>Ae (Ac a [] (.t (.box (st.push (.cells [.str s,.bool false]) (some 220)).nb 7)) 0) (fun (a0:TV)=>Af (.int .u8) a0 (fun (y:Int)=>BId (y=45) (K n1 0 ((i64.wrap ((i64.wrap ((i64.wrap ((i64.wrap ((i64.wrap ((i64.wrap (l*(60:Int)))+d))*(60:Int)))+j))*(1000000000:Int)))+k))) ((i64.wrap (0-(i64.wrap ((i64.wrap (n*(60:Int)))+f))))) 0 a) (K n1 0 ((i64.wrap ((i64.wrap ((i64.wrap ((i64.wrap ((i64.wrap ((i64.wrap (l*(60:Int)))+d))*(60:Int)))+j))*(1000000000:Int)))+k))) ((i64.wrap ((i64.wrap (n*(60:Int)))+f))) 0 a))))))))))))))))))))))))))))))))))))))):CallT PR Cf [.str s] [.agg [.int .i64,.int .i64,.int .i64,.int .i64],.one (.int .i64)] st K:=
 Ag (cfg:=⟨[2,7],[],[]⟩) (h:= .none) mixed (fun _ _=>Tryz.call98 _ _) Tryz.func98 (by kernel_rfl) (by kernel_rfl) h
theorem NX (t_0:Int) (t_1:Int) (t_2:Int) (t_3:Int) (st:St) (K:V13 (St->Prop)) (h:K 3 false false [] 0 t_0 t_1 t_2 t_3 [] .nilSlice .nilSlice .nilSlice st):CallT PR Ee [(.agg [.int .i64 t_0,.int .i64 t_1,.int .i64 t_2,.int .i64 t_3])] [sV] st K:=
 Ag (cfg:=⟨[1,2],[],[]⟩) (h:= .none) mixed (fun _ _=>Tryz.call99 _ _) Tryz.func99 (by kernel_rfl) (by kernel_rfl) h
end Go.TVF
