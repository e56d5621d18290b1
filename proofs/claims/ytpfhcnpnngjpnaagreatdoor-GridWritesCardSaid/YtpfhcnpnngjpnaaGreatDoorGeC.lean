/- What the laws below rest on: a framework for Go programs, and contracts of the functions that they reach. -/
import Derived.Test.YtpfhcnpnngjpnaaGreatDoorGeB
import Derived.Deep.Slices
import Derived.WideShapes
import Derived.ChangeArms
import Derived.OpenShut
import Derived.Test.YtpfhcnpnngjpnaaGreatDoorProg
import Derived.KernelRfl
set_option maxRecDepth 20000
set_option linter.unusedVariables false
set_option linter.unusedSimpArgs false
section
namespace Go.TVF
open Go.IntKind(i64 u8)
open Go.RowKit (Below)
theorem Te {P:Program} {Q:Exit->Act->World->Prop} {a:Act} {w:World} {c:Code} (I:Nat->Act->World->Prop) (h₀:∃m,I m a w)
  (round:∀m a w,I m a w->c.wp P (Exit.then (fun a' w'=>∃m',m'<m/\I m' a' w') Q) a w):(Code.loop c).wp P Q a w:=by
 intro b k cs
 have key:∀m a w,I m a w->∃e a' w',Q e a' w'/\Arrives P (lone (b.at a (.code c:: .inLoop c::k)) cs w) b k cs e a' w':=by
  intro m
  induction m using Nat.strongRecOn with
  | _ m ih=>
   intro a w hI
   obtain⟨e,a₁,w₁,hq,harr⟩:=round m a w hI b (.inLoop c::k) cs
   cases e with
   | normal=>
    obtain⟨m',hlt,hI₁⟩:=hq
    obtain⟨e₂,a₂,w₂,hq₂,harr₂⟩:=ih m' hlt a₁ w₁ hI₁
    exact⟨e₂,a₂,w₂,hq₂,.of_steps (Steps.trans harr (.one step_inLoop)) harr₂⟩
   | exit id=>exact⟨_,a₁,w₁,hq,.pass (x:= .inLoop c) rfl (fun _ _=> .inl (by simp)) harr⟩
   | goto l=>exact⟨_,a₁,w₁,hq,.pass (x:= .inLoop c) rfl (fun _ _=> .inl (by simp)) harr⟩
   | ret=>exact⟨_,a₁,w₁,hq,.pass (x:= .inLoop c) rfl (fun _ _=> .inl (by simp)) harr⟩
   | panic ch=>exact⟨_,a₁,w₁,hq,.pass (x:= .inLoop c) rfl (fun _ _=> .inl (by simp)) harr⟩
   | outgrown=>exact⟨_,a₁,w₁,hq,.pass (x:= .inLoop c) rfl (fun _ _=> .inl (by simp)) harr⟩
 obtain⟨m,hm⟩:=h₀
 obtain⟨e,a',w',hq,harr⟩:=key m a w hm
 exact⟨e,a',w',hq,.of_steps (.one step_loop) harr⟩
theorem Qp:∀{cs:List CTy} {vs:List TV} {I:Fun cs (St->Prop)} {M:Fun cs (St->Nat)} {B:List TV->Nat->St->Prop} {st:St},AllC cs I M B->Lr cs vs I (fun p=>p st)->∃m,B vs m st
 | [],[],I,M,B,st,h,hd=>⟨_,h st hd⟩
 | [],_::_,I,M,B,st,h,hd=>hd.elim
 | _::_,[],I,M,B,st,h,hd=>hd.elim
 | c::cs,v::vs,I,M,B,st,h,hd=>by
  obtain⟨y,rfl,hd2⟩:=Er hd
  exact Qp (B:=fun l=>B (enc c y::l)) (h y) hd2
theorem RW:∀{cs:List CTy} {vs:List TV} {I:Fun cs (St->Prop)} {M:Fun cs (St->Nat)} {B:List TV->Nat->St->Prop} {st:St} {m:Nat},AllC cs I M B->UF cs vs I M (fun p q=>p st/\q st<m)->∃m',m'<m/\B vs m' st
 | [],[],I,M,B,st,m,h,hd=>⟨_,hd.2,h st hd.1⟩
 | [],_::_,I,M,B,st,m,h,hd=>hd.elim
 | _::_,[],I,M,B,st,m,h,hd=>hd.elim
 | c::cs,v::vs,I,M,B,st,m,h,hd=>by
  obtain⟨y,rfl,hd2⟩:=Er hd
  exact RW (B:=fun l=>B (enc c y::l)) (h y) hd2
theorem Ol:∀{cs:List CTy} {vs:List TV} {I:Fun cs (St->Prop)} {B:List TV->St->Prop} {st:St},AllC1 cs I B->Lr cs vs I (fun p=>p st)->B vs st
 | [],[],I,B,st,h,hd=>h st hd
 | [],_::_,I,B,st,h,hd=>hd.elim
 | _::_,[],I,B,st,h,hd=>hd.elim
 | c::cs,v::vs,I,B,st,h,hd=>by
  obtain⟨y,rfl,hd2⟩:=Er hd
  exact Ol (B:=fun l=>B (enc c y::l)) (h y) hd2
def QPost (g:Ghost) (w:World) (a0:Act) (Q:Exit->Fr->St->Prop) (e:Exit) (a:Act) (w':World):Prop:=Lt g w a0 (Q e) a w'
section
variable {P:Program} {cfg:Cfg} {ns nl:Nat}
theorem Yf (hm:P.follows .mixedOrders=true):∀(c:Code) (h:KG) (Q:Exit->Fr->St->Prop) (fr:Fr) (st:St) (g:Ghost) (w:World) (a:Act),cwp cfg P ns nl c h Q fr st->Sim g st fr.loc w->GQ g w fr a.tmps->a.tmps.size=ns->
  c.wp P (QPost g w a Q) a w:=by
 intro c
 induction c with
 | skip=>intro h Q fr st g w a hc s hf hn;exact wp_skip ⟨fr,st,g,hc,s,hf,Ext.refl _ _,rfl,rfl⟩
 | region id ops draw=>
  intro h Q fr st g w a hc s hf hn
  cases draw with
  | false=>exact wp_region_list (N2 ops.toList fr st g w a hc s hf fun a' w' hp=>hp)
  | true=>exact SI hm hc s hf fun a' w' hp=>hp
 | seq x y ihx ihy=>
  intro h Q fr st g w a hc s hf hn
  have key:∀(hx hy:KG),cwp cfg P ns nl x hx (Ts (cwp cfg P ns nl y hy Q) Q) fr st->(Code.seq x y).wp P (QPost g w a Q) a w:=by
   intro hx hy hcx
   refine wp_seq (wp_mono (ihx hx _ fr st g w a hcx s hf hn) fun e a' w' hq=>?_)
   obtain⟨fr',st',g',h1,h2,h3,h4,h5⟩:=hq
   cases e with
   | normal=>
    refine wp_mono (ihy hy Q fr' st' g' w' a' h1 h2 h3 (h5.2.trans hn)) fun e a'' w'' hq2=>?_
    exact hq2.ext h4 h5
   | _=>exact⟨fr',st',g',h1,h2,h3,h4,h5⟩
  cases h with
  | cut k hx hy=>
   obtain⟨R,h1,h2⟩:=hc
   refine wp_seq (wp_mono (ihx hx _ fr st g w a h1 s hf hn) fun e a' w' hq=>?_)
   obtain⟨fr',st',g',q1,q2,q3,q4,q5⟩:=hq
   cases e with
   | normal=>
    have q1':need (k.ok nl fr') (Lr k.tys (k.vals fr') R fun p=>p st'):=q1
    rw[Ar]at q1'
    obtain⟨w1,w2⟩:=FI.weak (ns:=ns) q1'.1 q2 q3 (q5.2.trans hn)
    have hb:=Ol h2 q1'.2
    exact wp_mono (ihy hy Q _ st' g' w' a' hb w1 w2 (q5.2.trans hn)) fun e a'' w'' hq2=>hq2.ext q4 q5
   | _=>exact⟨fr',st',g',q1,q2,q3,q4,q5⟩
  | none=>exact key _ _ hc
  | seq p q=>exact key _ _ hc
  | cond p q=>exact key _ _ hc
  | block p=>exact key _ _ hc
  | loop k p=>exact key _ _ hc
 | cond c x y ihx ihy=>
  intro h Q fr st g w a hc s hf hn
  simp only[cwp]at hc
  split at hc
  ·rename_i b hb
   have hr:=Sn hf c
   rw[hb]at hr
   have hr':Rel g w (.bool b) (a.eval c):=hr
   have hev:a.eval c= .bool b:=by generalize a.eval c=q at hr';cases hr';rfl
   cases b with
   | true=>exact wp_cond_true hev (ihx h.l Q fr st g w a hc s hf hn)
   | false=>exact wp_cond_false hev (ihy h.r Q fr st g w a hc s hf hn)
  ·exact hc.elim
 | block id x ih=>
  intro h Q fr st g w a hc s hf hn
  refine wp_block (wp_mono (ih h.l (Wo id Q) fr st g w a hc s hf hn) fun e a' w' hq=>?_)
  obtain⟨fr',st',g',h1,h2,h3,h4,h5⟩:=hq
  cases e with
  | exit id'=>
   simp only[Wo]at h1
   by_cases hid:id'=id
   ·subst hid
    have hbe:(id'.beq id')=true:=Nat.beq_refl id'
    simp only[hbe]at h1
    simp only[Exit.inBlock,if_true]
    exact⟨fr',st',g',h1,h2,h3,h4,h5⟩
   ·have hbe:(id'.beq id)=false:=by
     cases hq:id'.beq id with
     | false=>rfl
     | true=>exact absurd (Nat.eq_of_beq_eq_true hq) hid
    simp only[hbe]at h1
    simp only[Exit.inBlock,hid,if_false]
    exact⟨fr',st',g',h1,h2,h3,h4,h5⟩
  | _=>exact⟨fr',st',g',h1,h2,h3,h4,h5⟩
 | loop x ih=>
  intro h Q fr st g w a hc s hf hn
  cases h with
  | loop k hx=>
   obtain⟨I,M,h1,h2⟩:=hc
   rw[Ar]at h1
   refine Te (fun m a' w'=>∃vals st' g',cwp cfg P ns nl x hx (Ts (fun fr st=>need (k.ok nl fr) (UF k.tys (k.vals fr) I M fun p q=>p st/\q st<m)) Q) (k.frame ns nl vals) st'/\
    Sim g' st' (k.frame ns nl vals).loc w'/\GQ g' w' (k.frame ns nl vals) a'.tmps/\Ext g w g' w'/\a'.defers=a.defers/\a'.tmps.size=a.tmps.size) ?_ ?_
   ·obtain⟨m,hm⟩:=Qp h2 h1.2
    obtain⟨w1,w2⟩:=FI.weak (ns:=ns) h1.1 s hf hn
    exact⟨m,_,st,g,hm,w1,w2,Ext.refl _ _,rfl,rfl⟩
   ·rintro m a' w' ⟨vals,st',g',q1,q2,q3,q4,q5⟩
    refine wp_mono (ih hx _ _ st' g' w' a' q1 q2 q3 (q5.2.trans hn)) fun e a'' w'' hq=>?_
    obtain⟨fr2,st2,g2,r1,r2,r3,r4,r5⟩:=hq
    cases e with
    | normal=>
     have r1':need (k.ok nl fr2) (UF k.tys (k.vals fr2) I M fun p q=>p st2/\q st2<m):=r1
     rw[Ar]at r1'
     obtain⟨m',hlt,hB⟩:=RW h2 r1'.2
     obtain⟨w1,w2⟩:=FI.weak (ns:=ns) r1'.1 r2 r3 (r5.2.trans (q5.2.trans hn))
     exact⟨m',hlt,_,st2,g2,hB,w1,w2,q4.trans r4,r5.1.trans q5.1,r5.2.trans q5.2⟩
    | _=>exact⟨fr2,st2,g2,r1,r2,r3,q4.trans r4,r5.1.trans q5.1,r5.2.trans q5.2⟩
  | _=>exact hc.elim
 | exit id=>intro h Q fr st g w a hc s hf hn;exact wp_exit ⟨fr,st,g,hc,s,hf,Ext.refl _ _,rfl,rfl⟩
 | ret=>intro h Q fr st g w a hc s hf hn;exact wp_ret ⟨fr,st,g,hc,s,hf,Ext.refl _ _,rfl,rfl⟩
 | _=>intro h Q fr st g w a hc s hf hn;exact hc.elim
def Nm (P:Program) (fr:Fr) (st:St):ResultVar->Option TV
 | .tmp t=>some (Nf fr t)
 | .cell a t=>match LW P t with
  | some true=>match P.cellsOf t with
   | 0=>none
   | n=>(Ai st fr.loc (fr.slots.f a) 0 n).map .agg
  | some false=>Ad st fr.loc (fr.slots.f a) 0
  | none=>none
def Ki (P:Program) (fr:Fr) (st:St):List ResultVar->Option (List TV)
 | []=>some []
 | r::rs=>match Nm P fr st r with
  | some v=>(Ki P fr st rs).map (v::·)
  | none=>none
def Vb:List TV->TV
 | [v]=>v
 | vs=> .tuple vs
def resT (P:Program) (fn:Func) (fr:Fr) (st:St):Option TV:=(Ki P fr st fn.results.toList).map Vb
def Sq (P:Program) (fr:Fr) (st:St) (r:ResultVar) (k:TV->Prop):Prop:=
 match r with
 | .tmp t=>k (Nf fr t)
 | .cell a t=>match LW P t with
  | some true=>match P.cellsOf t with
   | 0=>False
   | n=>Ah ((Ai st fr.loc (fr.slots.f a) 0 n).map .agg) k
  | some false=>Ah (Ad st fr.loc (fr.slots.f a) 0) k
  | none=>False
def Ms (P:Program) (fr:Fr) (st:St):List ResultVar->(List TV->Prop)->Prop
 | [],k=>k []
 | r::rs,k=>Sq P fr st r fun v=>Ms P fr st rs fun vs=>k (v::vs)
theorem QJ {P:Program} {fr:Fr} {st:St} {r:ResultVar} {k:TV->Prop} (h:Sq P fr st r k):∃v,Nm P fr st r=some v/\k v:=by
 cases r with
 | tmp t=>exact⟨_,rfl,h⟩
 | cell a t=>
  unfold Sq at h
  unfold Nm
  simp only at h⊢
  cases ha:LW P t with
  | none=>rw[ha]at h;exact h.elim
  | some b=>
   rw[ha]at h
   cases b with
   | true=>
    simp only at h⊢
    cases hn:P.cellsOf t with
    | zero=>rw[hn]at h;exact h.elim
    | succ n=>
     rw[hn]at h
     exact Ec.1 h
   | false=>exact Ec.1 h
theorem Lg {P:Program} {fr:Fr} {st:St}:∀{rs:List ResultVar} {k:List TV->Prop},Ms P fr st rs k->∃vs,Ki P fr st rs=some vs/\k vs
 | [],k,h=>⟨[],rfl,h⟩
 | r::rs,k,h=>by
  obtain⟨v,h1,h2⟩:=QJ h
  obtain⟨vs,h3,h4⟩:=Lg h2
  exact⟨v::vs,by simp[Ki,h1,h3],h4⟩
def retQ (P:Program) (fn:Func) (R:TV->St->Prop):Exit->Fr->St->Prop
 | .normal,fr,st=>Ms P fr st fn.results.toList fun vs=>R (Vb vs) st
 | .ret,fr,st=>Ms P fr st fn.results.toList fun vs=>R (Vb vs) st
 | _,_,_=>False
def IE (cfg:Cfg) (fn:Func) (args:List TV):Fr:=⟨⟨fn.ntmps,fun i=>match args[i]? with | some v=> .t v | none=> .t .undef⟩,cfg.loc.map fun _=>none⟩
theorem Sp {g:Ghost} {st:St} {w:World} {fr:Fr} {tmps:Array Value} (s:Sim g st fr.loc w) (hf:GQ g w fr tmps) {r:ResultVar} {v:TV} (h:Nm P fr st r=some v):
  ∃u,(match r with | .tmp t=>pure (tmps.getD t Go.undef) | .cell a t=>do loadVar t (<-asAddr (tmps.getD a Go.undef)):Sem Value).run P w= .ok u w/\Rel g w v u:=by
 cases r with
 | tmp t=>
  simp only[Nm,Option.some.injEq]at h
  subst h
  exact⟨_,rfl,(hf.2 t).tv⟩
 | cell a t=>
  simp only[Nm]at h
  have hld:∀p,BA g w fr.loc p (tmps.getD a Go.undef)->(EJ P st fr.loc t p).Is (.t v)->∃u,(do loadVar t (<-asAddr (tmps.getD a Go.undef)):Sem Value).run P w= .ok u w/\Rel g w v u:=by
   intro p hp hl
   have hl':=hl
   obtain⟨u,hu,hr⟩:=PK (P:=P) s hp hl'
   have hsa:(Instr.loadAt t (tmps.getD a Go.undef)).run P w=(do loadVar t (<-asAddr (tmps.getD a Go.undef)):Sem Value).run P w:=by
    generalize hq:tmps.getD a Go.undef=q at hp hu
    simp only[Instr.loadAt,Sem.run_bind]
    cases q with
    | pointer o=>cases o with
     | none=>simp[Instr.loadAt,Instr.sureAddr]at hu
     | some ad=>simp[Instr.sureAddr,asAddr]
    | _=>simp[Instr.loadAt,Instr.sureAddr]at hu
   exact⟨u,by rw[<-hsa];exact hu,hr⟩
  split at h
  ·rename_i ha
   split at h
   ·cases h
   ·rename_i n hn
    refine hld _ (hf.2 a) ?_
    unfold EJ
    rw[ha]
    exact⟨v,by
     split
     ·rename_i h0;exact absurd h0 hn
     ·exact h,rfl⟩
  ·rename_i ha
   refine hld _ (hf.2 a) ?_
   unfold EJ
   rw[ha]
   exact⟨v,h,rfl⟩
  ·cases h
theorem Mr {g:Ghost} {st:St} {w:World} {fr:Fr} {tmps:Array Value} (s:Sim g st fr.loc w) (hf:GQ g w fr tmps):∀{rs:List ResultVar} {vs:List TV},Ki P fr st rs=some vs->
  ∃us:List Value,(rs.mapM (fun r=>match r with | .tmp t=>pure (tmps.getD t Go.undef) | .cell a t=>do loadVar t (<-asAddr (tmps.getD a Go.undef))):Sem (List Value)).run P w= .ok us w/\AM g w vs us
 | [],vs,h=>by simp only[Ki,Option.some.injEq]at h;subst h;exact⟨[],rfl,.nil _ _⟩
 | r::rs,vs,h=>by
  simp only[Ki]at h
  split at h
  ·rename_i v hv
   obtain⟨vs',hvs',rfl⟩:=Option.map_eq_some_iff.1 h
   obtain⟨u,hu,hr⟩:=Sp s hf hv
   obtain⟨us,hus,hrs⟩:=Mr s hf hvs'
   refine⟨u::us,?_,.cons hr hrs⟩
   rw[List.mapM_cons]
   simp only[Sem.run_bind,hu,Result.andThen_ok,hus,Sem.run_pure]
  ·cases h
theorem Vn {g:Ghost} {st:St} {w:World} {fr:Fr} {tmps:Array Value} (s:Sim g st fr.loc w) (hf:GQ g w fr tmps) {fn:Func} {v:TV} (h:resT P fn fr st=some v):∃u,(results fn tmps).run P w= .ok u w/\Rel g w v u:=by
 unfold resT at h
 cases hr:Ki P fr st fn.results.toList with
 | none=>rw[hr]at h;cases h
 | some vs=>
  rw[hr]at h
  obtain⟨us,hus,hrel⟩:=Mr s hf hr
  have hrun:(fn.results.mapM (fun r=>match r with | .tmp t=>pure (tmps.getD t Go.undef) | .cell a t=>do loadVar t (<-asAddr (tmps.getD a Go.undef))):Sem (Array Value)).run P w= .ok us.toArray w:=by
   rw[<-Array.toArray_toList (xs:=fn.results),List.mapM_toArray]
   simp only[Sem.run_map,hus,Result.andThen_ok]
  refine⟨if h:us.toArray.size=1 then us.toArray[0]else .tuple us.toArray,?_,?_⟩
  ·have hres:results fn tmps=(do
     let vs<-(fn.results.mapM (fun r=>match r with | .tmp t=>pure (tmps.getD t Go.undef) | .cell a t=>do loadVar t (<-asAddr (tmps.getD a Go.undef))):Sem (Array Value))
     pure (if h:vs.size=1 then vs[0]else .tuple vs)):=rfl
   rw[hres,Sem.run_bind,hrun]
   rfl
  ·cases vs with
   | nil=>
    simp only[Option.map_some,Option.some.injEq,Vb]at h;subst h
    have:us=[]:=List.eq_nil_of_length_eq_zero hrel.1.symm
    subst this
    exact Rel.tuple [] [] rfl (fun i hi=>absurd hi (Nat.not_lt_zero _))
   | cons v1 vs1=>cases vs1 with
    | nil=>
     simp only[Option.map_some,Option.some.injEq,Vb]at h;subst h
     cases us with
     | nil=>have:=hrel.1;simp at this
     | cons u1 us1=>
      have:us1=[]:=List.eq_nil_of_length_eq_zero (by have:=hrel.1;simpa using this.symm)
      subst this
      simpa using hrel.2 0 (by simp)
    | cons v2 vs2=>
     simp only[Option.map_some,Option.some.injEq,Vb]at h;subst h
     have hl:us.toArray.size≠1:=by have:=hrel.1;simp at this⊢;omega
     rw[dif_neg hl]
     exact Rel.tuple _ us hrel.1 hrel.2
theorem Xq (hm:P.follows .mixedOrders=true) {f:FuncId} {fn:Func} {c:Code} (hcall:∀(vs:Array Value) (w:World),(callFunc f vs).run P w= .ok (.enter f vs) w) (hf:P.funcs[f]? =some fn) (hb:fn.body=some c)
  (cfg:Cfg) (h:KG) {args:List TV} {st:St} {R:TV->St->Prop} (hn:args.length<=fn.ntmps)
  (hc:cwp cfg P fn.ntmps cfg.loc.length c h (retQ P fn R) (IE cfg fn args) st):FT P f args st R:=by
 refine DR hcall fun g w vargs s hr=>?_
 refine calls_of_wp hf hb ?_
 have hlen:vargs.length=args.length:=hr.1.symm
 have hsize:(vargs.toArray++Array.replicate (fn.ntmps-vargs.toArray.size) Go.undef).size=fn.ntmps:=by simp;omega
 have hsim:Sim g st (IE cfg fn args).loc w:=s.weakLoc fun j x' hx'=>by
  simp only[IE,List.getElem?_map]at hx'
  cases hq:cfg.loc[j]? with
  | none=>rw[hq]at hx';cases hx'
  | some q=>rw[hq]at hx';simp at hx'
 have hfr:GQ g w (IE cfg fn args) (vargs.toArray++Array.replicate (fn.ntmps-vargs.toArray.size) Go.undef):=by
  refine⟨by rw[hsize];rfl,fun i=>?_⟩
  by_cases hia:i<args.length
  ·have h1:(IE cfg fn args).slots.f i= .t args[i]:=by simp[IE,hia]
   have h2:(vargs.toArray++Array.replicate (fn.ntmps-vargs.toArray.size) Go.undef).getD i Go.undef=vargs.getD i Go.undef:=by
    have:i<vargs.length:=by omega
    have hin:i<fn.ntmps:=by omega
    simp[Array.getD,Array.getElem_append,this,hin,List.getD_eq_getElem?_getD]
    omega
   rw[h1,h2]
   exact hr.2 i hia
  ·have h1:(IE cfg fn args).slots.f i= .t .undef:=by simp[IE,hia]
   have h2:(vargs.toArray++Array.replicate (fn.ntmps-vargs.toArray.size) Go.undef).getD i Go.undef=Go.undef:=by
    have:¬i<vargs.length:=by omega
    simp[Array.getD,Array.getElem_append,this]
   rw[h1,h2]
   exact Rel.undef
 refine wp_mono (Yf hm c h _ _ st g w {tmps:=vargs.toArray++Array.replicate (fn.ntmps-vargs.toArray.size) Go.undef,defers:=[]} hc hsim hfr hsize) fun e a' w' hq=>?_
 obtain⟨fr',st',g',h1,h2,h3,h4,h5,h6⟩:=hq
 have fin:Ms P fr' st' fn.results.toList (fun vs=>R (Vb vs) st')->a'.defers=[]/\∃v,(results fn a'.tmps).run P w'= .ok v w'/\∃v',Ending.returned v= .returned v'/\∃r st' g',R r st'/\Sim g' st' [] w'/\Rel g' w' r v'/\Ext g w g' w':=by
  intro ho
  obtain⟨vs,hvs,hR⟩:=Lg ho
  obtain⟨u,hu,hrel⟩:=Vn (fn:=fn) h2 h3 (by unfold resT;rw[hvs];rfl)
  exact⟨h5,u,hu,u,rfl,_,st',g',hR,h2.dropLoc (fun j x hx=>by simp at hx),hrel,h4⟩
 cases e with
 | normal=>exact fin h1
 | ret=>exact fin h1
 | _=>exact h1.elim
def St.zero:St:={nb:=0,box:=fun _=> .dead,nt:=0,live:=fun _=>false,ty:=fun _=>none,bt:=fun _=>none}
def Ghost.start (w:World):Ghost:={base:=w.heap.size,w0:=w,nb:=0,bk:=fun _=>0,lam:=fun _=>0,nt:=0,sp:=fun _=>none,S:=fun a=>a.spot=none/\∃v,w.cell? a=some v,prot:=fun _=>False}
theorem Sim.start (w:World) (hG:∀w',Below w.heap.size w w'->GlobOK w'):Sim (Ghost.start w) St.zero [] w:=by
 have hd:∀k,¬Dom St.zero [] k:=by
  intro k d
  cases k with
  | box i=>exact absurd d (Nat.not_lt_zero _)
  | loc i=>obtain⟨x,hx⟩:=d;simp at hx
 exact⟨rfl,rfl,Below.refl _ _,Nat.le_refl _,fun k d=>absurd d (hd k),fun k k' d=>absurd d (hd k),fun k d=>absurd d (hd k),fun id h=>absurd h (Nat.not_lt_zero _),
  fun id b l h hh=>(by cases hh),fun i j b l h l' h' _ hh=>(by cases hh),fun id _=>rfl,fun a ha=>⟨ha.1,ha.2,fun k d=>absurd d (hd k),fun id l h hh=>(by cases hh)⟩,fun b hb=>hb.elim,fun id b l h hh=>(by cases hh),fun id b l h T hh=>(by cases hh),fun b T hb=>absurd hb (Nat.not_lt_zero _),hG⟩
theorem Wj {f:FuncId} {args:List TV} (hcall:∀(vs:Array Value) (w:World),(callFunc f vs).run P w= .ok (.enter f vs) w) (h:FT P f args St.zero fun r _=>r= .bool true) (w:World) (hG:∀w',Below w.heap.size w w'->GlobOK w') (vargs:List Value) (hr:AM (Ghost.start w) w args vargs):
  Calls P f vargs.toArray w fun e w'=>e= .returned (.bool true)/\Below w.heap.size w w':=by
 have h1:=h.run (Ghost.start w) w vargs (Sim.start w hG) hr
 unfold Dz at h1
 rw[hcall]at h1
 refine Calls.mono h1 ?_
 rintro e w' ⟨v,rfl,r,st',g',rfl,s',hrel,e'⟩
 have hb:=s'.below
 rw[e'.base,e'.w0]at hb
 cases hrel
 exact⟨rfl,hb⟩
end
def Wn (fn:Func):Code:=match fn.body with | some c=>c | none=> .skip
def Fw (cfg:Cfg) (P:Program) (h:KG) (fn:Func) (args:List TV) (st:St) (R:TV->St->Prop):Prop:=
 cwp cfg P fn.ntmps cfg.loc.length (Wn fn) h (retQ P fn R) (IE cfg fn args) st
def fits (fn:Func) (args:List TV):Bool:=(fn.body.isSome).and (args.length.ble fn.ntmps)
theorem Ae {P:Program} (hm:P.follows .mixedOrders=true) {f:FuncId} {fn:Func} (hcall:∀(vs:Array Value) (w:World),(callFunc f vs).run P w= .ok (.enter f vs) w) (hf:P.funcs[f]? =some fn)
  {cfg:Cfg} {h:KG} {args:List TV} {st:St} {R:TV->St->Prop} (hn:fits fn args=true) {V:Prop} (he:Fw cfg P h fn args st R=V) (hV:V):FT P f args st R:=by
 simp only[fits,Bool.and_eq_true]at hn
 obtain⟨c,hc⟩:=Option.isSome_iff_exists.1 hn.1
 have hb:fn.body=some (Wn fn):=by rw[Wn,hc]
 rw[<-he]at hV
 exact Xq hm hcall hf hb cfg h (Nat.le_of_ble_eq_true hn.2) hV
def AO (cs:List CTy) (v:TV) (f:Fun cs Prop):Prop:=
 match v with
 | .agg l=>decL cs l f
 | _=>False
def stB (st:St) (p:TV) (xs:List TV) (k:St->Prop):Prop:=
 match p with
 | .box b off=>∃l,st.box b= .cells l/\off+xs.length<=l.length/\k (st.put b (.cells (setAll l off xs)))
 | _=>False
theorem Aa {p:Prop} [Decidable p] {x y:Prop} (h1:p->x) (h2:¬p->y):BIf (decide p) x y:=by
 by_cases h:p
 ·simp only[h,decide_true,BIf];exact h1 h
 ·simp only[h,decide_false,BIf];exact h2 h
theorem Aj {b:Bool} {x y:Prop} (h1:b=true->x) (h2:b=false->y):BIf b x y:=by
 cases b
 ·exact h2 rfl
 ·exact h1 rfl
end Go.TVF
end
section
namespace Go.TVF
open Go.IntKind(i64 u8)
structure Al (a b:St):Prop where
 nb:a.nb<=b.nb
 box:∀i,i<a.nb->b.box i=a.box i
 nt:a.nt<=b.nt
 live:∀i,i<a.nt->b.live i=a.live i
 ty:∀i,i<a.nt->b.ty i=a.ty i
 bt:∀i,i<a.nb->b.bt i=a.bt i
theorem Al.refl (a:St):Al a a:=⟨Nat.le_refl _,fun _ _=>rfl,Nat.le_refl _,fun _ _=>rfl,fun _ _=>rfl,fun _ _=>rfl⟩
theorem Al.trans {a b c:St} (h:Al a b) (k:Al b c):Al a c:=
 ⟨Nat.le_trans h.nb k.nb,fun i hi=>(k.box i (Nat.lt_of_lt_of_le hi h.nb)).trans (h.box i hi),Nat.le_trans h.nt k.nt,fun i hi=>(k.live i (Nat.lt_of_lt_of_le hi h.nt)).trans (h.live i hi),fun i hi=>(k.ty i (Nat.lt_of_lt_of_le hi h.nt)).trans (h.ty i hi),fun i hi=>(k.bt i (Nat.lt_of_lt_of_le hi h.nb)).trans (h.bt i hi)⟩
theorem Al.fresh {a b:St} (h:Al a b) (T:Option Nat):Al a (b.fresh T):=
 h.trans ⟨Nat.le_refl _,fun _ _=>rfl,Nat.le_succ _,fun i hi=>by simp only[St.fresh];rw[if_neg (by omega)],fun i hi=>by simp only[St.fresh];rw[if_neg (by omega)],fun _ _=>rfl⟩
theorem Al.push {a b:St} (h:Al a b) (o:LZ) (T:Option Nat):Al a (b.push o T):=
 h.trans ⟨Nat.le_succ _,fun i hi=>by simp only[St.push];rw[if_neg (by omega)],Nat.le_refl _,fun _ _=>rfl,fun _ _=>rfl,fun i hi=>by simp only[St.push];rw[if_neg (by omega)]⟩
theorem Al.retire {a b:St} (h:Al a b) {id:Nat} (hid:a.nt<=id):Al a (b.retire id):=
 ⟨h.nb,h.box,h.nt,fun i hi=>by simp only[St.retire];rw[if_neg (by omega)];exact h.live i hi,h.ty,h.bt⟩
theorem Al.put {a b:St} (h:Al a b) {i:Nat} (hi:a.nb<=i) (o:LZ):Al a (b.put i o):=
 ⟨h.nb,fun j hj=>by simp only[St.put];rw[if_neg (by omega)];exact h.box j hj,h.nt,h.live,h.ty,h.bt⟩
theorem Ee (l:B8):(AA l).length=l.length:=by simp[AA]
theorem BH:∀l:B8,EX (AA l)=some l
 | []=>rfl
 | c::l=>by
  have:=BH l
  simp only[AA]at this
  simp[AA,EX,FG,Wq,this]
theorem VA (l:B8):(AA l).all As=true:=by simp[AA,FG,As]
theorem Fu (a b:B8):AA a++AA b=AA (a++b):=by simp[AA]
def Rd (sz:Nat) (v:TV) (n:Nat) (xs:List TV):Prop:=
 (v= .nilSlice/\n=0/\xs=[])∨∃tip,v= .list sz tip n xs
def Own (b sz:Nat) (st:St) (v:TV) (n:Nat) (xs:List TV):Prop:=
 (v= .nilSlice/\n=0/\xs=[])∨∃tip,v= .list sz tip n xs/\(tip= .full∨∃id,tip= .own id/\b<=id/\id<st.nt/\st.live id=true)
theorem Own.rd {b sz:Nat} {st:St} {v:TV} {n:Nat} {xs:List TV} (h:Own b sz st v n xs):Rd sz v n xs:=by
 rcases h with h | ⟨tip,h,_⟩
 ·exact .inl h
 ·exact .inr ⟨tip,h⟩
theorem Own.ext {b sz:Nat} {st st':St} {v:TV} {n:Nat} {xs:List TV} (h:Own b sz st v n xs) (e:Al st st'):Own b sz st' v n xs:=by
 rcases h with h | ⟨tip,h,ht | ⟨id,h1,h2,h3,h4⟩⟩
 ·exact .inl h
 ·exact .inr ⟨tip,h,.inl ht⟩
 ·exact .inr ⟨tip,h,.inr ⟨id,h1,h2,Nat.lt_of_lt_of_le h3 e.nt,(e.live id h3).trans h4⟩⟩
theorem Own.nil (b sz:Nat) (st:St):Own b sz st .nilSlice 0 []:= .inl ⟨rfl,rfl,rfl⟩
theorem Own.full (b sz:Nat) (st:St) (n:Nat) (xs:List TV):Own b sz st (.list sz .full n xs) n xs:= .inr ⟨_,rfl,.inl rfl⟩
theorem Own.fresh {b sz:Nat} {st:St} {T:Option Nat} (n:Nat) (xs:List TV) (hb:b<=st.nt):Own b sz (st.fresh T) (.list sz (.own st.nt) n xs) n xs:=
 .inr ⟨_,rfl,.inr ⟨st.nt,rfl,hb,Nat.lt_succ_self _,by simp[St.fresh]⟩⟩
theorem Rd.isSl {sz:Nat} {v:TV} {n:Nat} {xs:List TV} (h:Rd sz v n xs):TVF.isSl v=true:=by
 rcases h with⟨rfl,_⟩ | ⟨tip,rfl⟩<;>rfl
theorem Rd.lenS {sz:Nat} {v:TV} {n:Nat} {xs:List TV} (h:Rd sz v n xs):TVF.lenS v=n:=by
 rcases h with⟨rfl,rfl,_⟩ | ⟨tip,rfl⟩<;>rfl
theorem Rd.lenZ {sz:Nat} {v:TV} {n:Nat} {xs:List TV} (h:Rd sz v n xs):TVF.lenZ sz v=n:=by
 rcases h with⟨rfl,rfl,_⟩ | ⟨tip,rfl⟩
 ·rfl
 ·simp[TVF.lenZ]
theorem Rd.one {sz:Nat} {v:TV} {n:Nat} {xs:List TV} (h:Rd sz v n xs):As v=true:=by
 rcases h with⟨rfl,rfl,_⟩ | ⟨tip,rfl⟩<;>rfl
theorem Rd.ld {sz:Nat} {v:TV} {n:Nat} {xs:List TV} (h:Rd sz v n xs) (st:St) (i j:Nat) (hi:i*sz+j<xs.length):Ad st [] (.t (ixT sz v i)) j=some xs[i*sz+j]:=by
 rcases h with⟨rfl,rfl,rfl⟩ | ⟨tip,rfl⟩
 ·simp at hi
 ·simp[Ad,ixT,hi]
theorem Rd.ldf {sz:Nat} {v:TV} {n:Nat} {xs:List TV} (h:Rd sz v n xs) (st:St) (i f:Nat) (hi:i*sz+f<xs.length):Ad st [] (.t (Ao (ixT sz v i) f)) 0=some xs[i*sz+f]:=by
 rcases h with⟨rfl,rfl,rfl⟩ | ⟨tip,rfl⟩
 ·simp at hi
 ·simp[Ad,ixT,Ao,hi]
theorem WK (st:St) (l:B8):Ky st 1 (.str l)=some (l.length,AA l):=rfl
theorem CJ {T b sz bytes:Nat} {st0 st:St} {v:TV} {n k:Nat} {xs ys:List TV} {K:TV->St->Prop} (e:Al st0 st) (hb:b=st0.nt) (h:Own b sz st v n xs) (hby:(n+k)*bytes<=140737488355328) (hys:k=0->ys=[])
  (hK:∀v' st',Al st0 st'->st'.box=st.box->Own b sz st' v' (n+k) (xs++ys)->K v' st'):Bs T sz bytes v k ys st K:=by
 subst hb
 rcases h with⟨rfl,rfl,rfl⟩ | ⟨tip,rfl,ht⟩
 ·simp only[Bs]
  cases k with
  | zero=>rw[hys rfl]at hK;exact hK _ _ e rfl (.nil _ _ _)
  | succ m=>
   simp only[Ar]
   refine⟨by simpa using hby,hK _ _ (e.fresh _) rfl ?_⟩
   simp only[List.nil_append,Nat.zero_add]
   exact Own.fresh _ _ e.nt
 ·simp only[Bs,Nat.beq_refl]
  refine⟨hby,?_⟩
  rcases ht with rfl | ⟨id,rfl,h1,h2,h3⟩
  ·cases k with
   | zero=>rw[hys rfl]at hK;simp only[List.append_nil]at hK;exact hK _ _ e rfl (Own.full _ _ _ _ _)
   | succ m=>exact hK _ _ (e.fresh _) rfl (Own.fresh _ _ e.nt)
  ·exact⟨h3,hK _ _ ((e.retire h1).fresh _) rfl (Own.fresh (st:=st.retire id) _ _ e.nt)⟩
theorem Ab {b:Bool} {k:Prop} (h:b=true) (hk:k):need b k:=Ar.2 ⟨h,hk⟩
theorem Ac {α:Type} {o:Option α} {x:α} {k:α->Prop} (h:o=some x) (hk:k x):Ah o k:=by rw[h];exact hk
theorem Af (x:Int) (h1: -9223372036854775808<=x) (h2:x<=9223372036854775807):IntKind.wrap .i64 x=x:=by
 unfold IntKind.wrap
 simp only[IntKind.signed,IntKind.bits]
 simp
 omega
theorem MN (x:Int) (h1:0<=x) (h2:x<=255):IntKind.wrap .u8 x=x:=by
 unfold IntKind.wrap
 simp only[IntKind.signed,IntKind.bits]
 simp
 omega
end Go.TVF
end
section
namespace Go.TVF
open Go.IntKind(i64 u8)
open Go.RowKit (Below)
theorem Z7 {r:TV} {st':St} (h:HC [.one .bool] r (fun (b:Bool) (_:St)=>b=true) (fun p=>p st')):r= .bool true:=by
 cases r<;>simp only[HC,GL,Ag]at h<;>first | exact h.elim | skip
 subst h;rfl
theorem calls_law {P:Program} {f:FuncId} {args:List TV} (hcall:∀(vs:Array Value) (w:World),(callFunc f vs).run P w= .ok (.enter f vs) w) (h:CallT P f args [.one .bool] St.zero (fun r _=>r=true)) (w:World) (hG:∀w',Below w.heap.size w w'->GlobOK w') (vargs:List Value) (hr:AM (Ghost.start w) w args vargs):
  Calls P f vargs.toArray w fun e w'=>e= .returned (.bool true)/\Below w.heap.size w w':=
 Wj hcall (FT.mono h fun r st' hd=>Z7 hd) w hG vargs hr
theorem Ps (g:Ghost) (w:World) (s:ByteArray):Rel g w (.str s.data.toList) (.string s):=by
 have:=Rel.str (g:=g) (w:=w) s.data.toList
 simpa using this
def flatIs:List CTy->List TV->Prop
 | [],xs=>xs=[]
 | .int k::cs,xs=>∃n ys,xs= .int k n::ys/\(Lit.int k n).wf=true/\flatIs cs ys
 | .str::cs,xs=>∃l ys,xs= .str l::ys/\l.length<=maxLen/\flatIs cs ys
 | .bool::cs,xs=>∃b ys,xs= .bool b::ys/\flatIs cs ys
 | .tv::_,_=>False
def WA (P:Program):CTy->TypeId->Prop
 | .int k,t=>P.underlying t=some (.int k)
 | .bool,t=>P.underlying t=some .bool
 | .str,t=>P.underlying t=some .string
 | .tv,_=>False
def FieldsTy (P:Program):List CTy->List Field->Nat->Prop
 | [],[],_=>True
 | c::cs,f::fs,o=>f.offset=o/\P.cellsOf f.type=1/\WA P c f.type/\FieldsTy P cs fs (o+1)
 | _,_,_=>False
section
variable {H:Type} {enc:TypeId×Value->H} {P:Program} {w:World} {base:Nat} {sp:Nat->Bool} {held:Bool}
theorem Rl {c:CTy} {t:TypeId} {fuel:Nat} {cs:List Value} {x:DataW H×List MemPlace} (g:Ghost) (hc:WA P c t) (h:DataW.trod enc P w base sp held fuel t cs=some x):
  ∃v u,cs=[u]/\Rel g w v u/\flatIs [c] [v]:=by
 cases c with
 | int k=>
  obtain⟨n,rfl,_,hw⟩:=DataW.trod_int hc h
  exact⟨_,_,rfl,.int k n,n,[],rfl,hw,rfl⟩
 | bool=>
  obtain⟨b,rfl,_⟩:=DataW.trod_bool hc h
  exact⟨_,_,rfl,.bool b,b,[],rfl,rfl⟩
 | str=>
  obtain⟨s,rfl,_,hs⟩:=DataW.trod_string hc h
  exact⟨_,_,rfl,Ps g w s,_,[],rfl,by rw[Array.length_toList];exact hs,rfl⟩
 | tv=>exact hc.elim
theorem flatIs.cons {c:CTy} {cs:List CTy} {v:TV} {xs:List TV} (h:flatIs [c] [v]) (k:flatIs cs xs):flatIs (c::cs) (v::xs):=by
 cases c with
 | int _=>
  obtain⟨n,ys,h1,h2,_⟩:=h
  simp only[List.cons.injEq]at h1
  exact⟨n,xs,by rw[h1.1],h2,k⟩
 | bool=>
  obtain⟨b,ys,h1,_⟩:=h
  simp only[List.cons.injEq]at h1
  exact⟨b,xs,by rw[h1.1],k⟩
 | str=>
  obtain⟨l,ys,h1,h2,_⟩:=h
  simp only[List.cons.injEq]at h1
  exact⟨l,xs,by rw[h1.1],h2,k⟩
 | tv=>exact h.elim
theorem N3 {n:Nat} {vs:List Value} (g:Ghost):∀(cs:List CTy) (fs:List Field) (o:Nat) (xs:List (DataW H×List MemPlace)),FieldsTy P cs fs o->xs.length=fs.length->vs.length=o+cs.length->
  (∀(i:Nat) (f:Field),fs[i]? =some f->DataW.trod enc P w base sp held n f.type ((vs.drop f.offset).take (P.cellsOf f.type))=xs[i]?)->∃tv,AM g w tv (vs.drop o)/\flatIs cs tv
 | [],[],o,xs,_,_,hl,_=>⟨[],by rw[List.drop_of_length_le (by simp at hl;omega)];exact .nil _ _,rfl⟩
 | c::cs,f::fs,o,[],_,hx,_,_=>by simp at hx
 | c::cs,f::fs,o,x::xs,ht,hx,hl,hd=>by
  obtain⟨h1,h2,h3,h4⟩:=ht
  have hd0:=hd 0 f rfl
  rw[h1,h2]at hd0
  obtain⟨v,u,hu,hr,hf⟩:=Rl g h3 hd0
  obtain⟨tv,hr',hf'⟩:=N3 (n:=n) (vs:=vs) g cs fs (o+1) xs h4 (by simpa using hx) (by simp at hl;omega) (fun i f' hi=>by simpa using hd (i+1) f' (by simpa using hi))
  refine⟨v::tv,?_,hf.cons hf'⟩
  have hlt:o<vs.length:=by simp at hl;omega
  rw[List.drop_eq_getElem_cons hlt]
  rw[List.drop_eq_getElem_cons hlt]at hu
  simp only[List.take_succ_cons,List.take_zero,List.cons.injEq]at hu
  rw[hu.1]
  exact .cons hr hr'
 | [],f::fs,o,xs,ht,_,_,_=>ht.elim
 | c::cs,[],o,xs,ht,_,_,_=>ht.elim
theorem Wu (b off i:Nat):(⟨b,off,none⟩:Addr).add i=⟨b,off+i,none⟩:=by
 unfold Addr.add;split
 ·rename_i h;subst h;rfl
 ·rfl
def Opens (enc:TypeId×Value->H) (P:Program) (w:World) (base:Nat) (sp:Nat->Bool) (held:Bool) (cs:List CTy) (e:TypeId):Prop:=
 ∀(g:Ghost) n vs x,DataW.trod enc P w base sp held n e vs=some x->∃tv,AM g w tv vs/\flatIs cs tv
theorem opens_struct {cs:List CTy} {e:TypeId} {fs:Array Field} (ht:P.underlying e=some (.struct fs)) (hf:FieldsTy P cs fs.toList 0) (hc:P.cellsOf e=cs.length):Opens enc P w base sp held cs e:=fun g n vs x hd=>by
 obtain⟨xs,m,rfl,_,hl,hx,hi⟩:=DataW.trod_struct ht hd
 have:=N3 (enc:=enc) (P:=P) (w:=w) (base:=base) (sp:=sp) (held:=held) (n:=m) (vs:=vs) g cs fs.toList 0 xs hf (by simpa using hx) (by omega) (fun i f h=>hi i f (by simpa using h))
 simpa using this
end
end Go.TVF
end
namespace Go.TVF
open Go.IntKind(i64 u8)
open Go Go.Proofs
theorem mixed:Tryz.prog.follows .mixedOrders=true:=by kernel_rfl
noncomputable def PR:Program:=Tryz.prog
abbrev V13(X:Type):=Int->Bool->Bool->B8->Int->Int->Int->Int->Int->B8->TV->TV->TV->X
abbrev sV:RTy:=.agg [.int .i64,.bool,.bool,.str,.int .i64,.int .i64,.int .i64,.int .i64,.int .i64,.str,.tv,.tv,.tv]
abbrev cV(a:Int)(b c:Bool)(d:B8)(e f g h i:Int)(j:B8)(k l m:TV):List TV:=[.int .i64 a,.bool b,.bool c,.str d,.int .i64 e,.int .i64 f,.int .i64 g,.int .i64 h,.int .i64 i,.str j,k,l,m]
abbrev BId(p:Prop)[Decidable p](a b:Prop):Prop:=BIf (decide p) a b
def fn_datakitlaw28_GridWrites:Nat:=11
def Dn:Nat:=32
def Ci:Nat:=33
def IK:Nat:=34
def Cq:Nat:=35
def CO:Nat:=37
def BF:Nat:=38
def IL:Nat:=39
def Hx:Nat:=42
def Hw:Nat:=49
def Dl:Nat:=50
def IM:Nat:=51
def Cr:Nat:=52
def GE:Nat:=53
def EQ:Nat:=55
def Hu:Nat:=56
def Ht:Nat:=57
def EK:Nat:=58
def Cb:Nat:=62
def Do:Nat:=63
def B3:Nat:=69
def GD:Nat:=70
def Bw:Nat:=71
def Be:Nat:=84
def Bl:Nat:=85
def Dm:Nat:=86
def DT:Nat:=87
def Cd:Nat:=88
def Cu:Nat:=89
def Ct:Nat:=90
def Bx:Nat:=91
def AD:Nat:=92
def Dg:Nat:=93
def Ln:Nat:=94
def Hr:Nat:=95
def CF:Nat:=96
def F8:Nat:=97
def Dc:Nat:=98
def Fp:Nat:=99
def Cw:Nat:=100
def Du:Nat:=101
def Dr:Nat:=102
def Fg:Nat:=105
def FO:Nat:=106
def Ga:Nat:=114
def Cp:Nat:=115
def Ca:Nat:=116
def Ff:Nat:=118
def CP:Nat:=119
def Eh:Nat:=120
def G4:Nat:=121
def Fs:Nat:=122
def AV:Nat:=123
def DF:Nat:=124
def B0:Nat:=128
def Bd:Nat:=129
def Fq:Nat:=133
def El:Nat:=143
def EN:Nat:=144
def CE:Nat:=145
def AF:Nat:=146
def Cs:Nat:=147
def BN:Nat:=148
def BY:Nat:=149
def Ce:Nat:=150
def DK:Nat:=151
def AC:Nat:=152
def A9:Nat:=153
def CS:Nat:=154
def AZ:Nat:=155
def A5:Nat:=156
def DI:Nat:=157
def Fh:Nat:=158
def D4:Nat:=159
def Dd:Nat:=160
def Dk:Nat:=161
def FQ:Nat:=162
def Az:Nat:=163
def BT:Nat:=164
def Ds:Nat:=165
def CU:Nat:=166
def Bf:Nat:=167
def AL:Nat:=168
def D7:Nat:=169
def At:Nat:=170
def AR:Nat:=171
def Ft:Nat:=173
def Dh:Nat:=174
def EL:Nat:=179
def GF:Nat:=182
def IJ:Nat:=183
def Dp:Nat:=184
def Bv:Nat:=191
def Am:Nat:=192
def AQ:Nat:=193
def AI:Nat:=194
def II:Nat:=195
def Av:Nat:=196
def GC:Nat:=197
def DV:Nat:=198
def Db:Nat:=199
def Hq:Nat:=200
def B4:Nat:=202
def FN:Nat:=203
def CR:Nat:=204
def Cc:Nat:=205
def Kt:Nat:=210
def Hs:Nat:=211
def IH:Nat:=212
def EM:Nat:=221
def DU:Nat:=222
def Bz:Nat:=223
def Bo:Nat:=224
def DH:Nat:=225
def D6:Nat:=227
def DJ:Nat:=228
def BO:Nat:=229
def Dq:Nat:=230
def BM:Nat:=231
def GG:Nat:=232
def Bm:Nat:=233
def AY:Nat:=234
def Ei:Nat:=235
def FM:Nat:=236
def FP:Nat:=241
def Bk:Nat:=242
def B9:Nat:=243
def AE:Nat:=244
def BL:Nat:=245
def AS:Nat:=246
def BP:Nat:=247
def Ch:Nat:=248
def Dv:Nat:=249
def Cf:Nat:=250
def CT:Nat:=251
def F9:Nat:=252
def LP:Nat:=256
def BS:Nat:=257
def Hz:Nat:=258
def Hv:Nat:=259
def AG:Nat:=260
def Co:Nat:=265
def AX:Nat:=266
def Ek:Nat:=267
def FL:Nat:=268
def IG:Nat:=269
def BX:Nat:=271
def EP:Nat:=277
def Fj:Nat:=278
def AH:Nat:=279
def D5:Nat:=283
def Dt:Nat:=284
def BG:Nat:=285
def Bg:Nat:=286
def DG:Nat:=289
def Ax:Nat:=290
def Ck:Nat:=291
def Dy:Nat:=292
def Fi:Nat:=293
def Cg:Nat:=294
def CQ:Nat:=299
def FR:Nat:=300
def Hy:Nat:=301
def BW:Nat:=302
def EO:Nat:=306
def G5:Nat:=307
def CV:Nat:=316
def Cl:Nat:=320
def str1:B8:=[10]
def Xu:B8:=[97,44,98,10,49,44,120,10,34,49,34,44,10]
def str10:B8:=[49]
def str11:B8:=[34,49,34]
def I0:B8:=[116,114,117,101]
def Q5:B8:=[102,97,108,115,101]
def Ka:B8:=[48]
def A3:B8:=[45]
def Da:B8:=[46]
def NW:B8:=[48,46]
def Mi:B8:=[101]
def GX:B8:=[84]
def Mh:B8:=[43]
def str21:B8:=[100,100,100,100,45,100,100,45,100,100]
def YH:B8:=[101,45]
def Bp:B8:=[58]
def YG:B8:=[90]
def str25:B8:=[84,116,32]
def str26:B8:=[100,100,58,100,100,58,100,100]
def Fz:B8:=[48,48,48,48,48,48,48,48,48]
def str28:B8:=[122]
def str29:B8:=[43,100,100,58,100,100]
def str30:B8:=[45,100,100,58,100,100]
def str31:B8:=[90,122,43,45]
def str32:B8:=[57,50,50,51,51,55,50,48,51,54,56,53,52,55,55,53,56,48,55]
theorem Gp (v_0:Int) (v_1:Bool) (v_2:Bool) (v_3:B8) (v_4:Int) (v_5:Int) (v_6:Int) (v_7:Int) (v_8:Int) (v_9:B8) (v_10:TV) (v_11:TV) (v_12:TV) (d_0:Int) (d_1:Int) (d_2:Bool) (d_3:Bool) (st:St) (K:Bool->St->Prop) (h:CallT PR Dn [(.agg (cV v_0 v_1 v_2 v_3 v_4 v_5 v_6 v_7 v_8 v_9 v_10 v_11 v_12))] [.one .bool] st (fun (b1:Bool) b=>BIf (!b1) (CallT PR Ci [] [.one .bool] b (fun (b2:Bool) e=>K b2 e)) (CallT PR Hw [(.agg (cV v_0 v_1 v_2 v_3 v_4 v_5 v_6 v_7 v_8 v_9 v_10 v_11 v_12)),(.agg [.int .u8 d_0,.int .u8 d_1,.bool d_2,.bool d_3])] [.one .str,.one (.int .i64)] b (fun (s1:B8) (n1:Int) f=>CallT PR Dl [(.agg (cV v_0 v_1 v_2 v_3 v_4 v_5 v_6 v_7 v_8 v_9 v_10 v_11 v_12)),(.agg [.int .u8 d_0,.int .u8 d_1,.bool d_2,.bool d_3])] [.one .str,.one (.int .i64)] f (fun (s2:B8) (n2:Int) a=>BId (s1=s2) (BId (n1=n2) (CallT PR IM [(.agg (cV v_0 v_1 v_2 v_3 v_4 v_5 v_6 v_7 v_8 v_9 v_10 v_11 v_12)),(.agg [.int .u8 d_0,.int .u8 d_1,.bool d_2,.bool d_3])] [.one (.int .i64)] a (fun (n3:Int) d=>CallT PR Cr [(.agg (cV v_0 v_1 v_2 v_3 v_4 v_5 v_6 v_7 v_8 v_9 v_10 v_11 v_12)),(.agg [.int .u8 d_0,.int .u8 d_1,.bool d_2,.bool d_3])] [.one (.int .i64)] d (fun (n4:Int) c=>BId (n3=n4) (CallT PR Ci [] [.one .bool] c (fun (b3:Bool) g=>K b3 g)) (K false c)))) (K false a)) (K false a)))))):CallT PR fn_datakitlaw28_GridWrites [(.agg (cV v_0 v_1 v_2 v_3 v_4 v_5 v_6 v_7 v_8 v_9 v_10 v_11 v_12)),(.agg [.int .u8 d_0,.int .u8 d_1,.bool d_2,.bool d_3])] [.one .bool] st K:=
 Ae (cfg:=⟨[2,3],[],[]⟩) (h:= .none) mixed (fun _ _=>Tryz.call11 _ _) Tryz.func11 (by kernel_rfl) (by kernel_rfl) h
theorem Jk (v_0:Int) (v_1:Bool) (v_2:Bool) (v_3:B8) (v_4:Int) (v_5:Int) (v_6:Int) (v_7:Int) (v_8:Int) (v_9:B8) (v_10:TV) (v_11:TV) (v_12:TV) (st:St) (K:Bool->St->Prop) (h:CallT PR Be [(.agg (cV v_0 v_1 v_2 v_3 v_4 v_5 v_6 v_7 v_8 v_9 v_10 v_11 v_12)),.int .i64 60,.int .i64 150,.int .i64 3000] [.one (.int .i64)] st (fun (n1:Int) a=>BId ((0:Int)<=n1) (CallT PR Bl [(.agg (cV v_0 v_1 v_2 v_3 v_4 v_5 v_6 v_7 v_8 v_9 v_10 v_11 v_12))] [.one (.int .i64)] a (fun (n2:Int) b=>K ((decide (n2<=20000))) b)) (K false a))):CallT PR Dn [(.agg (cV v_0 v_1 v_2 v_3 v_4 v_5 v_6 v_7 v_8 v_9 v_10 v_11 v_12))] [.one .bool] st K:=
 Ae (cfg:=⟨[1],[],[]⟩) (h:= .none) mixed (fun _ _=>Tryz.call32 _ _) Tryz.func32 (by kernel_rfl) (by kernel_rfl) h
theorem JC (st:St) (K:Bool->St->Prop) (h:CallT PR Cb [] [.agg [.int .u8,.int .u8,.bool,.bool]] st (fun (n1 n2:Int) (b1 b2:Bool) g=>CallT PR Dm [] [.agg [.int .i64,.int .i64,.int .i64,.int .i64,.int .i64]] g (fun (n3 n4 n5 n6 n7:Int) e=>CallT PR IL [.str Xu,(.agg [.int .u8 n1,.int .u8 n2,.bool b1,.bool b2]),(.agg [.int .i64 n3,.int .i64 n4,.int .i64 n5,.int .i64 n6,.int .i64 n7])] [sV,.one (.int .i64),.one (.int .i64)] e (fun (n8:Int) (b3 b4:Bool) (s1:B8) (n9 m n d b:Int) (s2:B8) (v1 v2 v3:TV) (q c:Int) j=>need (List.all (cV n8 b3 b4 s1 n9 m n d b s2 v1 v2 v3) As) (CallT PR Cb [] [.agg [.int .u8,.int .u8,.bool,.bool]] j (fun (p o:Int) (b5 b6:Bool) k=>CallT PR IK [(.agg (cV 4 false false [] 0 0 0 0 0 str10 .nilSlice .nilSlice .nilSlice)),(.agg [.int .u8 p,.int .u8 o,.bool b5,.bool b6])] [.one .str,.one (.int .i64)] k (fun (s3:B8) (i:Int) a=>BId (c=0) (need (isSl v2) (BId ((lenS v2:Int)=(2:Int)) (((0<=(1:Int)/\(1:Int)<(lenZ 13 v2:Int))/\need (isPtr (ixT 13 v2 (Int.toNat (1:Int)))) (Ah (Ad a [] (.t (Ao (ixT 13 v2 (Int.toNat (1:Int))) 12)) 0) (fun (v4:TV)=>need (isSl v4) (BId ((lenS v4:Int)=(2:Int)) (((0<=(1:Int)/\(1:Int)<(lenZ 13 v2:Int))/\need (isPtr (ixT 13 v2 (Int.toNat (1:Int)))) (Ah (Ad a [] (.t (Ao (ixT 13 v2 (Int.toNat (1:Int))) 12)) 0) (fun (v5:TV)=>((0<=(0:Int)/\(0:Int)<(lenZ 14 v5:Int))/\need (isPtr (ixT 14 v5 (Int.toNat (0:Int)))) (need (isPtr (Ao (ixT 14 v5 (Int.toNat (0:Int))) 1)) (Ah (Ad a [] (.t (Ao (Ao (ixT 14 v5 (Int.toNat (0:Int))) 1) 9)) 0) (fun (x3:TV)=>Ag .str x3 (fun (s4:B8)=>BId (s4=str10) (((0<=(0:Int)/\(0:Int)<(lenZ 13 v2:Int))/\need (isPtr (ixT 13 v2 (Int.toNat (0:Int)))) (Ah (Ad a [] (.t (Ao (ixT 13 v2 (Int.toNat (0:Int))) 12)) 0) (fun (v6:TV)=>((0<=(0:Int)/\(0:Int)<(lenZ 14 v6:Int))/\need (isPtr (ixT 14 v6 (Int.toNat (0:Int)))) (need (isPtr (Ao (ixT 14 v6 (Int.toNat (0:Int))) 1)) (Ah (Ad a [] (.t (Ao (Ao (ixT 14 v6 (Int.toNat (0:Int))) 1) 0)) 0) (fun (x5:TV)=>Ag (.int .i64) x5 (fun (l:Int)=>BId (l=2) (((0<=(1:Int)/\(1:Int)<(lenZ 13 v2:Int))/\need (isPtr (ixT 13 v2 (Int.toNat (1:Int)))) (Ah (Ad a [] (.t (Ao (ixT 13 v2 (Int.toNat (1:Int))) 12)) 0) (fun (v7:TV)=>((0<=(1:Int)/\(1:Int)<(lenZ 14 v7:Int))/\need (isPtr (ixT 14 v7 (Int.toNat (1:Int)))) (need (isPtr (Ao (ixT 14 v7 (Int.toNat (1:Int))) 1)) (Ah (Ad a [] (.t (Ao (Ao (ixT 14 v7 (Int.toNat (1:Int))) 1) 0)) 0) (fun (x7:TV)=>Ag (.int .i64) x7 (fun (f:Int)=>BId (f=0) (BId (s3=str11) (K ((decide (i=0))) a) (K false a)) (K false a)))))))))) (K false a)))))))))) (K false a)))))))))) (K false a)))))) (K false a))) (K false a)))))))):CallT PR Ci [] [.one .bool] st K:=
 Ae (cfg:=⟨[1],[],[]⟩) (h:= .none) mixed (fun _ _=>Tryz.call33 _ _) Tryz.func33 (by kernel_rfl) (by kernel_rfl) h
theorem Sb (v_0:Int) (v_1:Bool) (v_2:Bool) (v_3:B8) (v_4:Int) (v_5:Int) (v_6:Int) (v_7:Int) (v_8:Int) (v_9:B8) (v_10:TV) (v_11:TV) (v_12:TV) (d_0:Int) (d_1:Int) (d_2:Bool) (d_3:Bool) (st:St) (K:B8->Int->St->Prop) (h:CallT PR B3 [(.agg [.int .u8 d_0,.int .u8 d_1,.bool d_2,.bool d_3])] [.one .bool] st (fun (b1:Bool) a=>BIf (!b1) (K [] 1 a) (CallT PR EK [(.agg (cV v_0 v_1 v_2 v_3 v_4 v_5 v_6 v_7 v_8 v_9 v_10 v_11 v_12))] [.one (.int .i64)] a (fun (n1:Int) b=>BId (n1≠0) (K [] n1 b) (CallT PR DT [(.agg (cV v_0 v_1 v_2 v_3 v_4 v_5 v_6 v_7 v_8 v_9 v_10 v_11 v_12)),(.agg [.int .u8 d_0,.int .u8 d_1,.bool d_2,.bool d_3])] [.one .str,.one (.int .i64)] b (fun (s1:B8) (n2:Int) c=>K s1 n2 c)))))):CallT PR IK [(.agg (cV v_0 v_1 v_2 v_3 v_4 v_5 v_6 v_7 v_8 v_9 v_10 v_11 v_12)),(.agg [.int .u8 d_0,.int .u8 d_1,.bool d_2,.bool d_3])] [.one .str,.one (.int .i64)] st K:=
 Ae (cfg:=⟨[2,3],[],[]⟩) (h:= .none) mixed (fun _ _=>Tryz.call34 _ _) Tryz.func34 (by kernel_rfl) (by kernel_rfl) h
theorem JS (v_0:Int) (v_1:Bool) (v_2:Bool) (v_3:B8) (v_4:Int) (v_5:Int) (v_6:Int) (v_7:Int) (v_8:Int) (v_9:B8) (v_10:TV) (v_11:TV) (v_12:TV) (d_0:Int) (d_1:Int) (d_2:Bool) (d_3:Bool) (st:St) (K:B8->Int->St->Prop) (h:CallT PR Bw [(.agg [.int .u8 d_0,.int .u8 d_1,.bool d_2,.bool d_3])] [.one .bool] st (fun (b1:Bool) e=>BIf (!b1) (K [] 1 e) (CallT PR Cd [(.agg (cV v_0 v_1 v_2 v_3 v_4 v_5 v_6 v_7 v_8 v_9 v_10 v_11 v_12))] [.one (.int .i64)] e (fun (n1:Int) a=>BId (n1≠0) (K [] n1 a) (BId (v_0=6) (K [] 27 a) (BId (v_0=7) (K [] 27 a) (BId (v_0=5) (K [] 27 a) (BIf (!d_3) (BId (v_0≠4) (K [] 27 a) (BId (v_0=1) (BIf v_1 (K I0 0 a) (K Q5 0 a)) (BId (v_0=2) (CallT PR Cu [(.agg [.bool v_2,.str v_3,.int .i64 v_4])] [.one .str] a (fun (s1:B8) j=>K s1 0 j)) (BId (v_0=3) (CallT PR Ct [(.agg [.int .i64 v_5,.int .i64 v_6,.int .i64 v_7,.int .i64 v_8])] [.one .str] a (fun (s2:B8) l=>K s2 0 l)) (BId (v_0=4) (CallT PR Bx [.str v_9,(.agg [.int .u8 d_0,.int .u8 d_1,.bool d_2,.bool d_3])] [.one .str,.one (.int .i64)] a (fun (s3:B8) (n2:Int) d=>BId (s3=v_9) (CallT PR BF [.str s3,.bool false,(.agg [.int .u8 d_0,.int .u8 d_1,.bool d_2,.bool d_3])] [sV] d (fun (n3:Int) (b2 b3:Bool) (s4:B8) (n4 n5 n6 n7 n8:Int) (s5:B8) (v1 v2 v3:TV) f=>BId (n3≠4) (CallT PR AD [.str v_9,(.agg [.int .u8 d_0,.int .u8 d_1,.bool d_2,.bool d_3])] [.one .str] f (fun (s6:B8) m=>K s6 0 m)) (K s3 0 f))) (K s3 0 d))) (K [] 0 a)))))) (BId (v_0=1) (BIf v_1 (K I0 0 a) (K Q5 0 a)) (BId (v_0=2) (CallT PR Cu [(.agg [.bool v_2,.str v_3,.int .i64 v_4])] [.one .str] a (fun (s7:B8) n=>K s7 0 n)) (BId (v_0=3) (CallT PR Ct [(.agg [.int .i64 v_5,.int .i64 v_6,.int .i64 v_7,.int .i64 v_8])] [.one .str] a (fun (s8:B8) k=>K s8 0 k)) (BId (v_0=4) (CallT PR Bx [.str v_9,(.agg [.int .u8 d_0,.int .u8 d_1,.bool d_2,.bool d_3])] [.one .str,.one (.int .i64)] a (fun (s9:B8) (n9:Int) b=>BId (s9=v_9) (CallT PR BF [.str s9,.bool false,(.agg [.int .u8 d_0,.int .u8 d_1,.bool d_2,.bool d_3])] [sV] b (fun (o:Int) (b4 b5:Bool) (r:B8) (s q v p t:Int) (u:B8) (v4 v5 v6:TV) c=>BId (o≠4) (CallT PR AD [.str v_9,(.agg [.int .u8 d_0,.int .u8 d_1,.bool d_2,.bool d_3])] [.one .str] c (fun (i:B8) g=>K i 0 g)) (K s9 0 c))) (K s9 0 b))) (K [] 0 a))))))))))))):CallT PR Cq [(.agg (cV v_0 v_1 v_2 v_3 v_4 v_5 v_6 v_7 v_8 v_9 v_10 v_11 v_12)),(.agg [.int .u8 d_0,.int .u8 d_1,.bool d_2,.bool d_3])] [.one .str,.one (.int .i64)] st K:=
 Ae (cfg:=⟨[2,3],[],[]⟩) (h:= .none) mixed (fun _ _=>Tryz.call35 _ _) Tryz.func35 (by kernel_rfl) (by kernel_rfl) h
theorem Se (s:B8) (quoted:Bool) (d_0:Int) (d_1:Int) (d_2:Bool) (d_3:Bool) (st:St) (K:V13 (St->Prop)) (h:BIf (!d_3) (CallT PR Dg [.str s] [sV] st (fun (n1:Int) (b1 b2:Bool) (s1:B8) (n2 n3 n4 n5 n6:Int) (s2:B8) (v1 v2 v3:TV) k6=>need (List.all (cV n1 b1 b2 s1 n2 n3 n4 n5 n6 s2 v1 v2 v3) As) (K n1 b1 b2 s1 n2 n3 n4 n5 n6 s2 v1 v2 v3 k6))) (BIf quoted (CallT PR Dg [.str s] [sV] st (fun (n7:Int) (b3 b4:Bool) (s3:B8) (n8 n9 a4 h1 e7:Int) (s4:B8) (v4 v5 v6:TV) l6=>need (List.all (cV n7 b3 b4 s3 n8 n9 a4 h1 e7 s4 v4 v5 v6) As) (K n7 b3 b4 s3 n8 n9 a4 h1 e7 s4 v4 v5 v6 l6))) (BId (s=([]:B8)) (CallT PR Ln [] [sV] st (fun (u:Int) (b5 b6:Bool) (s5:B8) (g7 h6 i1 f8 c1:Int) (s6:B8) (v7 v8 v9:TV) l3=>need (List.all (cV u b5 b6 s5 g7 h6 i1 f8 c1 s6 v7 v8 v9) As) (K u b5 b6 s5 g7 h6 i1 f8 c1 s6 v7 v8 v9 l3))) (BId (s=I0) (BId (s=I0) (CallT PR Hr [(.bool (decide (s=I0)))] [sV] st (fun (y:Int) (b7 b8:Bool) (s7:B8) (h9 t j1 i3 c6:Int) (s8:B8) (d3 e d1:TV) m1=>need (List.all (cV y b7 b8 s7 h9 t j1 i3 c6 s8 d3 e d1) As) (K y b7 b8 s7 h9 t j1 i3 c6 s8 d3 e d1 m1))) (CallT PR CF [.str s] [.agg [.bool,.str,.int .i64],.one (.int .i64)] st (fun (b9:Bool) (s9:B8) (k5 k2:Int) i5=>BId (k2=0) (CallT PR F8 [(.agg [.bool b9,.str s9,.int .i64 k5])] [sV] i5 (fun (d2:Int) (c8 i0:Bool) (f:B8) (j4 e8 g3 d7 f5:Int) (c7:B8) (c2 h3 e4:TV) m4=>need (List.all (cV d2 c8 i0 f j4 e8 g3 d7 f5 c7 c2 h3 e4) As) (K d2 c8 i0 f j4 e8 g3 d7 f5 c7 c2 h3 e4 m4))) (CallT PR Dc [.str s] [.agg [.int .i64,.int .i64,.int .i64,.int .i64],.one (.int .i64)] i5 (fun (k8 l2 l9 k9 l7:Int) z=>BId (l7=0) (CallT PR Fp [(.agg [.int .i64 k8,.int .i64 l2,.int .i64 l9,.int .i64 k9])] [sV] z (fun (l:Int) (a6 k:Bool) (g9:B8) (a0 x h5 f3 i2:Int) (h0:B8) (a2 g5 f2:TV) m2=>need (List.all (cV l a6 k g9 a0 x h5 f3 i2 h0 a2 g5 f2) As) (K l a6 k g9 a0 x h5 f3 i2 h0 a2 g5 f2 m2))) (CallT PR Dg [.str s] [sV] z (fun (j0:Int) (g4 g:Bool) (j2:B8) (d o f0 j d8:Int) (c9:B8) (h7 e3 b0:TV) m0=>need (List.all (cV j0 g4 g j2 d o f0 j d8 c9 h7 e3 b0) As) (K j0 g4 g j2 d o f0 j d8 c9 h7 e3 b0 m0)))))))) (BId (s=Q5) (CallT PR Hr [(.bool (decide (s=I0)))] [sV] st (fun (i9:Int) (v c3:Bool) (a8:B8) (p w j5 c5 g2:Int) (f7:B8) (r i6 j7:TV) k0=>need (List.all (cV i9 v c3 a8 p w j5 c5 g2 f7 r i6 j7) As) (K i9 v c3 a8 p w j5 c5 g2 f7 r i6 j7 k0))) (CallT PR CF [.str s] [.agg [.bool,.str,.int .i64],.one (.int .i64)] st (fun (l5:Bool) (k4:B8) (l4 k7:Int) a=>BId (k7=0) (CallT PR F8 [(.agg [.bool l5,.str k4,.int .i64 l4])] [sV] a (fun (e1:Int) (f4 i:Bool) (f6:B8) (e2 h4 a9 h2 e9:Int) (d9:B8) (c0 a5 c:TV) j9=>need (List.all (cV e1 f4 i f6 e2 h4 a9 h2 e9 d9 c0 a5 c) As) (K e1 f4 i f6 e2 h4 a9 h2 e9 d9 c0 a5 c j9))) (CallT PR Dc [.str s] [.agg [.int .i64,.int .i64,.int .i64,.int .i64],.one (.int .i64)] a (fun (l8 m3 l0 l1 k3:Int) b=>BId (k3=0) (CallT PR Fp [(.agg [.int .i64 l8,.int .i64 m3,.int .i64 l0,.int .i64 l1])] [sV] b (fun (d6:Int) (a7 e5:Bool) (i7:B8) (g6 a3 d4 a1 j6:Int) (i8:B8) (d0 e6 m:TV) k1=>need (List.all (cV d6 a7 e5 i7 g6 a3 d4 a1 j6 i8 d0 e6 m) As) (K d6 a7 e5 i7 g6 a3 d4 a1 j6 i8 d0 e6 m k1))) (CallT PR Dg [.str s] [sV] b (fun (c4:Int) (f1 g1:Bool) (i4:B8) (d5 g0 f9 e0 q:Int) (g8:B8) (n h8 j3:TV) j8=>need (List.all (cV c4 f1 g1 i4 d5 g0 f9 e0 q g8 n h8 j3) As) (K c4 f1 g1 i4 d5 g0 f9 e0 q g8 n h8 j3 j8)))))))))))):CallT PR CO [.str s,.bool quoted,(.agg [.int .u8 d_0,.int .u8 d_1,.bool d_2,.bool d_3])] [sV] st K:=
 Ae (cfg:=⟨[5,6,7,9],[],[]⟩) (h:= .none) mixed (fun _ _=>Tryz.call37 _ _) Tryz.func37 (by kernel_rfl) (by kernel_rfl) h
theorem JT (s:B8) (quoted:Bool) (d_0:Int) (d_1:Int) (d_2:Bool) (d_3:Bool) (st:St) (K:V13 (St->Prop)) (h:BIf quoted (K 4 false false [] 0 0 0 0 0 s .nilSlice .nilSlice .nilSlice st) (BIf (!d_3) (K 4 false false [] 0 0 0 0 0 s .nilSlice .nilSlice .nilSlice st) (∃(C1:B8->V13 (V13 (St->Prop))),(BId (s=([]:B8)) (K 0 false false [] 0 0 0 0 0 [] .nilSlice .nilSlice .nilSlice st) (BId (s=I0) (BId (s=I0) (K 1 ((decide (s=I0))) false [] 0 0 0 0 0 [] .nilSlice .nilSlice .nilSlice st) (C1 s 0 false false [] 0 0 0 0 0 [] .nilSlice .nilSlice .nilSlice 4 false false [] 0 0 0 0 0 s .nilSlice .nilSlice .nilSlice st)) (BId (s=Q5) (K 1 ((decide (s=I0))) false [] 0 0 0 0 0 [] .nilSlice .nilSlice .nilSlice st) (C1 s 0 false false [] 0 0 0 0 0 [] .nilSlice .nilSlice .nilSlice 4 false false [] 0 0 0 0 0 s .nilSlice .nilSlice .nilSlice st))))/\∀d n1 b1 b2 s1 n2 n3 n4 n5 n6 s2 v1 v2 v3 n7 b3 b4 s3 n8 n9 b c a s4 v4 v5 v6 f,C1 d n1 b1 b2 s1 n2 n3 n4 n5 n6 s2 v1 v2 v3 n7 b3 b4 s3 n8 n9 b c a s4 v4 v5 v6 f->(CallT PR Cw [.str d] [.one .bool,.one .bool] f (fun (b5 b6:Bool) e=>BIf b5 (CallT PR Du [.str d] [.agg [.bool,.str,.int .i64],.one (.int .i64)] e (fun (b7:Bool) (s5:B8) (j l:Int) g=>BId (l=0) (K 2 false b7 s5 j 0 0 0 0 [] .nilSlice .nilSlice .nilSlice g) (need (List.all (cV n7 b3 b4 s3 n8 n9 b c a s4 v4 v5 v6) As) (K n7 b3 b4 s3 n8 n9 b c a s4 v4 v5 v6 g)))) (CallT PR Dr [.str d] [.agg [.int .i64,.int .i64,.int .i64,.int .i64],.one (.int .i64)] e (fun (k p o m n:Int) i=>BId (n=0) (K 3 false false [] 0 k p o m [] .nilSlice .nilSlice .nilSlice i) (need (List.all (cV n7 b3 b4 s3 n8 n9 b c a s4 v4 v5 v6) As) (K n7 b3 b4 s3 n8 n9 b c a s4 v4 v5 v6 i))))))))):CallT PR BF [.str s,.bool quoted,(.agg [.int .u8 d_0,.int .u8 d_1,.bool d_2,.bool d_3])] [sV] st K:=
 Ae (cfg:=⟨[5,6,7,10,12],[],[]⟩) (h:=(.seq .none (.seq .none (.seq .none (.cut ⟨[(0,.str)],[(6,1,0),(7,2,0)],[(1,13),(2,13)],[(1,0,.int .i64),(1,1,.bool),(1,2,.bool),(1,3,.str),(1,4,.int .i64),(1,5,.int .i64),(1,6,.int .i64),(1,7,.int .i64),(1,8,.int .i64),(1,9,.str),(1,10,.tv),(1,11,.tv),(1,12,.tv),(2,0,.int .i64),(2,1,.bool),(2,2,.bool),(2,3,.str),(2,4,.int .i64),(2,5,.int .i64),(2,6,.int .i64),(2,7,.int .i64),(2,8,.int .i64),(2,9,.str),(2,10,.tv),(2,11,.tv),(2,12,.tv)]⟩ .none .none))))) mixed (fun _ _=>Tryz.call38 _ _) Tryz.func38 (by kernel_rfl) (by kernel_rfl) h
theorem Sd (src:B8) (d_0:Int) (d_1:Int) (d_2:Bool) (d_3:Bool) (l_0:Int) (l_1:Int) (l_2:Int) (l_3:Int) (l_4:Int) (st:St) (K:V13 (Int->Int->St->Prop)) (h:CallT PR EQ [.str src,(.agg [.int .u8 d_0,.int .u8 d_1,.bool d_2,.bool d_3]),(.agg [.int .i64 l_0,.int .i64 l_1,.int .i64 l_2,.int .i64 l_3,.int .i64 l_4])] [.agg [.int .i64,.str,.str,.tv,.str],.one (.int .i64),.one (.int .i64)] st (fun (n1:Int) (s1 s2:B8) (v1:TV) (s3:B8) (n2 n3:Int) a=>need (List.all [.int .i64 n1,.str s1,.str s2,v1,.str s3] As) (BId (n3≠0) (K 0 false false [] 0 0 0 0 0 [] .nilSlice .nilSlice .nilSlice n2 n3 a) (CallT PR Hx [(.agg [.int .i64 n1,.str s1,.str s2,v1,.str s3]),(.agg [.int .u8 d_0,.int .u8 d_1,.bool d_2,.bool d_3])] [sV,.one (.int .i64)] a (fun (n4:Int) (b1 b2:Bool) (s4:B8) (n5 n6 n7 n8 n9:Int) (s5:B8) (v2 v3 v4:TV) (c:Int) b=>need (List.all (cV n4 b1 b2 s4 n5 n6 n7 n8 n9 s5 v2 v3 v4) As) (need (List.all (cV n4 b1 b2 s4 n5 n6 n7 n8 n9 s5 v2 v3 v4) As) (K n4 b1 b2 s4 n5 n6 n7 n8 n9 s5 v2 v3 v4 0 c b))))))):CallT PR IL [.str src,(.agg [.int .u8 d_0,.int .u8 d_1,.bool d_2,.bool d_3]),(.agg [.int .i64 l_0,.int .i64 l_1,.int .i64 l_2,.int .i64 l_3,.int .i64 l_4])] [sV,.one (.int .i64),.one (.int .i64)] st K:=
 Ae (cfg:=⟨[4,5,6,9,12],[],[]⟩) (h:= .none) mixed (fun _ _=>Tryz.call39 _ _) Tryz.func39 (by kernel_rfl) (by kernel_rfl) h
theorem QC (n_0:Int) (g:B8) (k:B8) (i:TV) (p:B8) (d_0:Int) (d_1:Int) (d_2:Bool) (d_3:Bool) (st:St) (K:V13 (Int->St->Prop)) (h:CallT PR Fg [(.agg [.int .i64 n_0,.str g,.str k,i,.str p]),(.agg [.int .u8 d_0,.int .u8 d_1,.bool d_2,.bool d_3])] [.one .tv,.one (.int .i64)] st (fun (v1:TV) (n1:Int) l8=>BId (n1≠0) (K 0 false false [] 0 0 0 0 0 [] .nilSlice .nilSlice .nilSlice n1 l8) (CallT PR FO [(.agg [.int .i64 n_0,.str g,.str k,i,.str p]),(.agg [.int .u8 d_0,.int .u8 d_1,.bool d_2,.bool d_3])] [.one .tv,.one (.int .i64)] l8 (fun (v2:TV) (n2:Int) p0=>need (isSl v1) (∃(I1:Int->TV->TV->TV->Int->Int->Int->Bool->Bool->V13 (V13 (St->Prop))) (M1:Int->TV->TV->TV->Int->Int->Int->Bool->Bool->V13 (V13 (St->Nat))),(I1 0 v1 v2 v1 ((lenS v1:Int)) d_0 d_1 d_2 d_3 0 false false [] 0 0 0 0 0 [] .nilSlice .nilSlice .nilSlice 6 false false [] 0 0 0 0 0 [] .nilSlice .nilSlice .nilSlice p0)/\∀g b e m k n3 n4 b1 b2 n5 b3 b4 s1 n6 n7 n8 n9 w s2 v3 v4 v5 r b5 b6 s3 n l q s u s4 v6 v7 v8 o,I1 g b e m k n3 n4 b1 b2 n5 b3 b4 s1 n6 n7 n8 n9 w s2 v3 v4 v5 r b5 b6 s3 n l q s u s4 v6 v7 v8 o->(BId (g<k) (((0<=g/\g<(lenZ 1 m:Int))/\Ah (Ad o [] (.t (ixT 1 m g.toNat)) 0) (fun (v9:TV)=>BIf (!b1) (need (isSl v9) (∃(I2:Int->TV->TV->Int->TV->Int->Int->TV->Int->Int->Int->Bool->Bool->V13 (V13 (V13 (St->Prop)))) (M2:Int->TV->TV->Int->TV->Int->Int->TV->Int->Int->Int->Bool->Bool->V13 (V13 (V13 (St->Nat)))),(I2 0 b e g m k g v9 ((lenS v9:Int)) n3 n4 b1 b2 n5 b3 b4 s1 n6 n7 n8 n9 w s2 v3 v4 v5 r b5 b6 s3 n l q s u s4 v6 v7 v8 6 false false [] 0 0 0 0 0 [] .nilSlice .nilSlice .nilSlice o)/\∀i f c x h2 p i4 i0 j1 a2 z b7 b8 d3 b9 e6 s5 i2 d0 i7 i5 e4 s6 f2 c0 e9 f3 i3 d7 s7 c9 f0 i9 g3 h5 s8 e2 j4 g1 f4 c4 h6 s9 g9 f7 g4 h9 g0 c1 d5 j3 g7 a5,I2 i f c x h2 p i4 i0 j1 a2 z b7 b8 d3 b9 e6 s5 i2 d0 i7 i5 e4 s6 f2 c0 e9 f3 i3 d7 s7 c9 f0 i9 g3 h5 s8 e2 j4 g1 f4 c4 h6 s9 g9 f7 g4 h9 g0 c1 d5 j3 g7 a5->(BId (i<j1) (((0<=i/\i<(lenZ 1 i0:Int))/\Ah (Ad a5 [] (.t (ixT 1 i0 i.toNat)) 0) (fun (x2:TV)=>Ag .str x2 (fun (o8:B8)=>((0<=x/\x<(lenZ 1 c:Int))/\Ah (Ad a5 [] (.t (ixT 1 c x.toNat)) 0) (fun (k3:TV)=>((0<=i/\i<(lenZ 1 k3:Int))/\Ah (Ad a5 [] (.t (ixT 1 k3 i.toNat)) 0) (fun (x4:TV)=>Ag .bool x4 (fun (o6:Bool)=>CallT PR CO [.str o8,.bool o6,(.agg [.int .u8 a2,.int .u8 z,.bool b7,.bool b8])] [sV] a5 (fun (m6:Int) (k9 l6:Bool) (m8:B8) (k7 l2 l0 n0 m4:Int) (m9:B8) (l9 l5 k8:TV) o2=>(Ad o2 [] (.t (ixT 1 c x.toNat)) 0=some k3/\need (List.all (cV m6 k9 l6 m8 k7 l2 l0 n0 m4 m9 l9 l5 k8) As) (Bs 63 13 168 j3 1 (cV m6 k9 l6 m8 k7 l2 l0 n0 m4 m9 l9 l5 k8) o2 (fun (k4:TV) o5=>need (List.all [k4] As) ((I2 ((i64.wrap (i+(1:Int)))) f c x h2 p i4 i0 j1 a2 z b7 b8 d3 b9 e6 s5 i2 d0 i7 i5 e4 s6 f2 c0 e9 f3 i3 d7 s7 c9 f0 i9 g3 h5 s8 e2 j4 g1 f4 c4 h6 s9 g9 f7 g4 h9 g0 c1 d5 k4 g7 o5/\M2 ((i64.wrap (i+(1:Int)))) f c x h2 p i4 i0 j1 a2 z b7 b8 d3 b9 e6 s5 i2 d0 i7 i5 e4 s6 f2 c0 e9 f3 i3 d7 s7 c9 f0 i9 g3 h5 s8 e2 j4 g1 f4 c4 h6 s9 g9 f7 g4 h9 g0 c1 d5 k4 g7 o5<M2 i f c x h2 p i4 i0 j1 a2 z b7 b8 d3 b9 e6 s5 i2 d0 i7 i5 e4 s6 f2 c0 e9 f3 i3 d7 s7 c9 f0 i9 g3 h5 s8 e2 j4 g1 f4 c4 h6 s9 g9 f7 g4 h9 g0 c1 d5 j3 g7 a5))))))))))))))) (need (List.all (cV f4 c4 h6 s9 g9 f7 g4 h9 g0 c1 d5 j3 g7) As) (Bs 63 13 168 j4 1 (cV f4 c4 h6 s9 g9 f7 g4 h9 g0 c1 d5 j3 g7) a5 (fun (k6:TV) l1=>need (List.all [k6] As) ((I1 ((i64.wrap (i4+(1:Int)))) f c h2 p a2 z b7 b8 d3 b9 e6 s5 i2 d0 i7 i5 e4 s6 f2 c0 e9 f3 i3 d7 s7 c9 f0 i9 g3 h5 s8 e2 k6 g1 l1/\M1 ((i64.wrap (i4+(1:Int)))) f c h2 p a2 z b7 b8 d3 b9 e6 s5 i2 d0 i7 i5 e4 s6 f2 c0 e9 f3 i3 d7 s7 c9 f0 i9 g3 h5 s8 e2 k6 g1 l1<M1 g b e m k n3 n4 b1 b2 n5 b3 b4 s1 n6 n7 n8 n9 w s2 v3 v4 v5 r b5 b6 s3 n l q s u s4 v6 v7 v8 o)))))))) (BId ((0:Int)<g) (need (isSl v9) (∃(I3:Int->TV->TV->Int->TV->Int->Int->TV->Int->Int->Int->Bool->Bool->V13 (V13 (V13 (St->Prop)))) (M3:Int->TV->TV->Int->TV->Int->Int->TV->Int->Int->Int->Bool->Bool->V13 (V13 (V13 (St->Nat)))),(I3 0 b e g m k g v9 ((lenS v9:Int)) n3 n4 b1 b2 n5 b3 b4 s1 n6 n7 n8 n9 w s2 v3 v4 v5 r b5 b6 s3 n l q s u s4 v6 v7 v8 7 false false [] 0 0 0 0 0 [] .nilSlice .nilSlice .nilSlice o)/\∀j a d y e5 b0 d1 a7 a0 a4 a6 a3 a1 a9 c2 d8 i8 c7 g5 c3 f5 i6 e7 e1 d6 a8 c8 g2 g6 d9 d2 j0 e3 h4 g8 h1 e8 j2 c5 f6 h3 d4 f1 f8 f9 h8 e0 h7 h0 c6 i1 j5 v,I3 j a d y e5 b0 d1 a7 a0 a4 a6 a3 a1 a9 c2 d8 i8 c7 g5 c3 f5 i6 e7 e1 d6 a8 c8 g2 g6 d9 d2 j0 e3 h4 g8 h1 e8 j2 c5 f6 h3 d4 f1 f8 f9 h8 e0 h7 h0 c6 i1 j5 v->(BId (j<a0) (((0<=j/\j<(lenZ 1 a7:Int))/\Ah (Ad v [] (.t (ixT 1 a7 j.toNat)) 0) (fun (x5:TV)=>Ag .str x5 (fun (o9:B8)=>((0<=(0:Int)/\(0:Int)<(lenZ 1 a:Int))/\Ah (Ad v [] (.t (ixT 1 a (Int.toNat (0:Int)))) 0) (fun (j7:TV)=>((0<=j/\j<(lenZ 1 j7:Int))/\Ah (Ad v [] (.t (ixT 1 j7 j.toNat)) 0) (fun (x7:TV)=>Ag .str x7 (fun (k5:B8)=>((0<=y/\y<(lenZ 1 d:Int))/\Ah (Ad v [] (.t (ixT 1 d y.toNat)) 0) (fun (j8:TV)=>((0<=j/\j<(lenZ 1 j8:Int))/\Ah (Ad v [] (.t (ixT 1 j8 j.toNat)) 0) (fun (x9:TV)=>Ag .bool x9 (fun (o7:Bool)=>CallT PR CO [.str o9,.bool o7,(.agg [.int .u8 a4,.int .u8 a6,.bool a3,.bool a1])] [sV] v (fun (m3:Int) (l3 l7:Bool) (o3:B8) (o0 o4 m1 m2 l4:Int) (o1:B8) (m7 m0 m5:TV) j6=>(Ad j6 [] (.t (ixT 1 d y.toNat)) 0=some j8/\(Ad j6 [] (.t (ixT 1 j7 j.toNat)) 0=some (.str k5)/\(Ad j6 [] (.t (ixT 1 a (Int.toNat (0:Int)))) 0=some j7/\need (List.all [.str k5,.int .i64 m3,.bool l3,.bool l7,.str o3,.int .i64 o0,.int .i64 o4,.int .i64 m1,.int .i64 m2,.int .i64 l4,.str o1,m7,m0,m5] As) (Bs 136 14 184 j5 1 [.str k5,.int .i64 m3,.bool l3,.bool l7,.str o3,.int .i64 o0,.int .i64 o4,.int .i64 m1,.int .i64 m2,.int .i64 l4,.str o1,m7,m0,m5] j6 (fun (k2:TV) k1=>need (List.all [k2] As) ((I3 ((i64.wrap (j+(1:Int)))) a d y e5 b0 d1 a7 a0 a4 a6 a3 a1 a9 c2 d8 i8 c7 g5 c3 f5 i6 e7 e1 d6 a8 c8 g2 g6 d9 d2 j0 e3 h4 g8 h1 e8 j2 c5 f6 h3 d4 f1 f8 f9 h8 e0 h7 h0 c6 i1 k2 k1/\M3 ((i64.wrap (j+(1:Int)))) a d y e5 b0 d1 a7 a0 a4 a6 a3 a1 a9 c2 d8 i8 c7 g5 c3 f5 i6 e7 e1 d6 a8 c8 g2 g6 d9 d2 j0 e3 h4 g8 h1 e8 j2 c5 f6 h3 d4 f1 f8 f9 h8 e0 h7 h0 c6 i1 k2 k1<M3 j a d y e5 b0 d1 a7 a0 a4 a6 a3 a1 a9 c2 d8 i8 c7 g5 c3 f5 i6 e7 e1 d6 a8 c8 g2 g6 d9 d2 j0 e3 h4 g8 h1 e8 j2 c5 f6 h3 d4 f1 f8 f9 h8 e0 h7 h0 c6 i1 j5 v)))))))))))))))))))))) (need (List.all (cV f6 h3 d4 f1 f8 f9 h8 e0 h7 h0 c6 i1 j5) As) (Bs 63 13 168 j2 1 (cV f6 h3 d4 f1 f8 f9 h8 e0 h7 h0 c6 i1 j5) v (fun (k0:TV) j9=>need (List.all [k0] As) ((I1 ((i64.wrap (d1+(1:Int)))) a d e5 b0 a4 a6 a3 a1 a9 c2 d8 i8 c7 g5 c3 f5 i6 e7 e1 d6 a8 c8 g2 g6 d9 d2 j0 e3 h4 g8 h1 e8 k0 c5 j9/\M1 ((i64.wrap (d1+(1:Int)))) a d e5 b0 a4 a6 a3 a1 a9 c2 d8 i8 c7 g5 c3 f5 i6 e7 e1 d6 a8 c8 g2 g6 d9 d2 j0 e3 h4 g8 h1 e8 k0 c5 j9<M1 g b e m k n3 n4 b1 b2 n5 b3 b4 s1 n6 n7 n8 n9 w s2 v3 v4 v5 r b5 b6 s3 n l q s u s4 v6 v7 v8 o)))))))) ((I1 ((i64.wrap (g+(1:Int)))) b e m k n3 n4 b1 b2 n5 b3 b4 s1 n6 n7 n8 n9 w s2 v3 v4 v5 r b5 b6 s3 n l q s u s4 v6 v7 v8 o/\M1 ((i64.wrap (g+(1:Int)))) b e m k n3 n4 b1 b2 n5 b3 b4 s1 n6 n7 n8 n9 w s2 v3 v4 v5 r b5 b6 s3 n l q s u s4 v6 v7 v8 o<M1 g b e m k n3 n4 b1 b2 n5 b3 b4 s1 n6 n7 n8 n9 w s2 v3 v4 v5 r b5 b6 s3 n l q s u s4 v6 v7 v8 o)))))) (need (List.all (cV r b5 b6 s3 n l q s u s4 v6 v7 v8) As) (K r b5 b6 s3 n l q s u s4 v6 v7 v8 0 o)))))))):CallT PR Hx [(.agg [.int .i64 n_0,.str g,.str k,i,.str p]),(.agg [.int .u8 d_0,.int .u8 d_1,.bool d_2,.bool d_3])] [sV,.one (.int .i64)] st K:=
 Ae (cfg:=⟨[2,3,4,10,13,16],[],[61,64,92,95,100,103]⟩) (h:=(.seq .none (.seq .none (.seq .none (.seq .none (.seq .none (.seq (.seq .none (.block (.loop ⟨[(38,.int .i64),(6,.tv),(8,.tv),(36,.tv),(37,.int .i64)],[(3,1,0),(4,2,0),(10,3,0)],[(1,4),(2,13),(3,13)],[(1,0,.int .u8),(1,1,.int .u8),(1,2,.bool),(1,3,.bool),(2,0,.int .i64),(2,1,.bool),(2,2,.bool),(2,3,.str),(2,4,.int .i64),(2,5,.int .i64),(2,6,.int .i64),(2,7,.int .i64),(2,8,.int .i64),(2,9,.str),(2,10,.tv),(2,11,.tv),(2,12,.tv),(3,0,.int .i64),(3,1,.bool),(3,2,.bool),(3,3,.str),(3,4,.int .i64),(3,5,.int .i64),(3,6,.int .i64),(3,7,.int .i64),(3,8,.int .i64),(3,9,.str),(3,10,.tv),(3,11,.tv),(3,12,.tv)]⟩ (.seq .none (.seq .none (.seq (.block (.seq .none (.block (.seq .none (.cond (.seq .none (.seq (.seq .none (.block (.loop ⟨[(50,.int .i64),(6,.tv),(8,.tv),(11,.int .i64),(36,.tv),(37,.int .i64),(38,.int .i64),(48,.tv),(49,.int .i64)],[(3,1,0),(4,2,0),(10,3,0),(13,4,0)],[(1,4),(2,13),(3,13),(4,13)],[(1,0,.int .u8),(1,1,.int .u8),(1,2,.bool),(1,3,.bool),(2,0,.int .i64),(2,1,.bool),(2,2,.bool),(2,3,.str),(2,4,.int .i64),(2,5,.int .i64),(2,6,.int .i64),(2,7,.int .i64),(2,8,.int .i64),(2,9,.str),(2,10,.tv),(2,11,.tv),(2,12,.tv),(3,0,.int .i64),(3,1,.bool),(3,2,.bool),(3,3,.str),(3,4,.int .i64),(3,5,.int .i64),(3,6,.int .i64),(3,7,.int .i64),(3,8,.int .i64),(3,9,.str),(3,10,.tv),(3,11,.tv),(3,12,.tv),(4,0,.int .i64),(4,1,.bool),(4,2,.bool),(4,3,.str),(4,4,.int .i64),(4,5,.int .i64),(4,6,.int .i64),(4,7,.int .i64),(4,8,.int .i64),(4,9,.str),(4,10,.tv),(4,11,.tv),(4,12,.tv)]⟩ .none))) .none)) (.seq .none (.cond (.seq .none (.seq (.seq .none (.block (.loop ⟨[(83,.int .i64),(6,.tv),(8,.tv),(11,.int .i64),(36,.tv),(37,.int .i64),(38,.int .i64),(81,.tv),(82,.int .i64)],[(3,1,0),(4,2,0),(10,3,0),(16,5,0)],[(1,4),(2,13),(3,13),(5,13)],[(1,0,.int .u8),(1,1,.int .u8),(1,2,.bool),(1,3,.bool),(2,0,.int .i64),(2,1,.bool),(2,2,.bool),(2,3,.str),(2,4,.int .i64),(2,5,.int .i64),(2,6,.int .i64),(2,7,.int .i64),(2,8,.int .i64),(2,9,.str),(2,10,.tv),(2,11,.tv),(2,12,.tv),(3,0,.int .i64),(3,1,.bool),(3,2,.bool),(3,3,.str),(3,4,.int .i64),(3,5,.int .i64),(3,6,.int .i64),(3,7,.int .i64),(3,8,.int .i64),(3,9,.str),(3,10,.tv),(3,11,.tv),(3,12,.tv),(5,0,.int .i64),(5,1,.bool),(5,2,.bool),(5,3,.str),(5,4,.int .i64),(5,5,.int .i64),(5,6,.int .i64),(5,7,.int .i64),(5,8,.int .i64),(5,9,.str),(5,10,.tv),(5,11,.tv),(5,12,.tv)]⟩ .none))) .none)) .none))))))) .none)))))) .none))))))) mixed (fun _ _=>Tryz.call42 _ _) Tryz.func42 (by kernel_rfl) (by kernel_rfl) h
theorem QB (v_0:Int) (v_1:Bool) (v_2:Bool) (v_3:B8) (v_4:Int) (v_5:Int) (v_6:Int) (v_7:Int) (v_8:Int) (v_9:B8) (v_10:TV) (v_11:TV) (v_12:TV) (d_0:Int) (d_1:Int) (d_2:Bool) (d_3:Bool) (st:St) (K:B8->Int->St->Prop) (h:CallT PR Ga [(.agg (cV v_0 v_1 v_2 v_3 v_4 v_5 v_6 v_7 v_8 v_9 v_10 v_11 v_12)),(.agg [.int .u8 d_0,.int .u8 d_1,.bool d_2,.bool d_3])] [.one .str,.one (.int .i64)] st (fun (s1:B8) (n1:Int) a=>BId (n1=0) (BId ((1048576:Int)<(s1.length:Int)) (K [] 10 a) (K s1 n1 a)) (K s1 n1 a))):CallT PR Hw [(.agg (cV v_0 v_1 v_2 v_3 v_4 v_5 v_6 v_7 v_8 v_9 v_10 v_11 v_12)),(.agg [.int .u8 d_0,.int .u8 d_1,.bool d_2,.bool d_3])] [.one .str,.one (.int .i64)] st K:=
 Ae (cfg:=⟨[2,3],[],[]⟩) (h:= .none) mixed (fun _ _=>Tryz.call49 _ _) Tryz.func49 (by kernel_rfl) (by kernel_rfl) h
theorem Jf (v_0:Int) (v_1:Bool) (v_2:Bool) (v_3:B8) (v_4:Int) (v_5:Int) (v_6:Int) (v_7:Int) (v_8:Int) (v_9:B8) (v_10:TV) (v_11:TV) (v_12:TV) (d_0:Int) (d_1:Int) (d_2:Bool) (d_3:Bool) (st:St) (K:B8->Int->St->Prop) (h:CallT PR Cr [(.agg (cV v_0 v_1 v_2 v_3 v_4 v_5 v_6 v_7 v_8 v_9 v_10 v_11 v_12)),(.agg [.int .u8 d_0,.int .u8 d_1,.bool d_2,.bool d_3])] [.one (.int .i64)] st (fun (n1:Int) e2=>BId (n1≠0) (K [] n1 e2) (∃(I1:B8->Int->V13 (Int->Int->Bool->Bool->St->Prop)) (M1:B8->Int->V13 (Int->Int->Bool->Bool->St->Nat)),(I1 [] 0 v_0 v_1 v_2 v_3 v_4 v_5 v_6 v_7 v_8 v_9 v_10 v_11 v_12 d_0 d_1 d_2 d_3 e2)/\∀a n n2 b1 b2 s1 n3 n4 n5 n6 n7 s2 v1 v2 v3 n8 n9 b3 b4 q,I1 a n n2 b1 b2 s1 n3 n4 n5 n6 n7 s2 v1 v2 v3 n8 n9 b3 b4 q->(need (isSl v2) (BId (n<(lenS v2:Int)) (∃(C1:B8->Int->V13 (Int->Int->Bool->Bool->St->Prop)),(BId (n=0) (BIf b3 (∃(I2:TV->Int->B8->Int->V13 (Int->Int->Bool->Bool->St->Prop)) (M2:TV->Int->B8->Int->V13 (Int->Int->Bool->Bool->St->Nat)),(I2 .nilSlice 0 a n n2 b1 b2 s1 n3 n4 n5 n6 n7 s2 v1 v2 v3 n8 n9 b3 b4 q)/\∀d f c c1 b0 b5 b6 s3 c3 c0 a9 c2 c4 s4 v4 v5 v6 r p b7 b8 o,I2 d f c c1 b0 b5 b6 s3 c3 c0 a9 c2 c4 s4 v4 v5 v6 r p b7 b8 o->(((0<=(0:Int)/\(0:Int)<(lenZ 13 v5:Int))/\need (isPtr (ixT 13 v5 (Int.toNat (0:Int)))) (Ah (Ad o [] (.t (Ao (ixT 13 v5 (Int.toNat (0:Int))) 12)) 0) (fun (v7:TV)=>need (isSl v7) (BId (f<(lenS v7:Int)) (((0<=(0:Int)/\(0:Int)<(lenZ 13 v5:Int))/\need (isPtr (ixT 13 v5 (Int.toNat (0:Int)))) (Ah (Ad o [] (.t (Ao (ixT 13 v5 (Int.toNat (0:Int))) 12)) 0) (fun (v8:TV)=>((0<=f/\f<(lenZ 14 v8:Int))/\need (isPtr (ixT 14 v8 f.toNat)) (Ah (Ad o [] (.t (Ao (ixT 14 v8 f.toNat) 0)) 0) (fun (x3:TV)=>Ag .str x3 (fun (s5:B8)=>CallT PR Bx [.str s5,(.agg [.int .u8 r,.int .u8 p,.bool b7,.bool b8])] [.one .str,.one (.int .i64)] o (fun (s6:B8) (j2:Int) e6=>(Ad e6 [] (.t (Ao (ixT 13 v5 (Int.toNat (0:Int))) 12)) 0=some v8/\Bs 9 1 16 d 1 [.str s6] e6 (fun (v9:TV) e5=>(I2 v9 ((i64.wrap (f+(1:Int)))) c c1 b0 b5 b6 s3 c3 c0 a9 c2 c4 s4 v4 v5 v6 r p b7 b8 e5/\M2 v9 ((i64.wrap (f+(1:Int)))) c c1 b0 b5 b6 s3 c3 c0 a9 c2 c4 s4 v4 v5 v6 r p b7 b8 e5<M2 d f c c1 b0 b5 b6 s3 c3 c0 a9 c2 c4 s4 v4 v5 v6 r p b7 b8 o)))))))))))) (CallT PR Cp [d,(.agg [.int .u8 r,.int .u8 p,.bool b7,.bool b8])] [.one .str] o (fun (s7:B8) j1=>(c.length+s7.length<=9223372036854775807/\C1 ((c++s7)) c1 b0 b5 b6 s3 c3 c0 a9 c2 c4 s4 v4 v5 v6 r p b7 b8 j1))))))))) (C1 a n n2 b1 b2 s1 n3 n4 n5 n6 n7 s2 v1 v2 v3 n8 n9 b3 b4 q)) (C1 a n n2 b1 b2 s1 n3 n4 n5 n6 n7 s2 v1 v2 v3 n8 n9 b3 b4 q))/\∀c7 a8 d6 b9 d9 s8 e3 d5 e7 e4 d8 s9 e1 s e0 d1 c8 d4 c9 c6,C1 c7 a8 d6 b9 d9 s8 e3 d5 e7 e4 d8 s9 e1 s e0 d1 c8 d4 c9 c6->(((0<=a8/\a8<(lenZ 13 s:Int))/\Ah ((Ai c6 [] (.t (ixT 13 s a8.toNat)) 0 13).map TV.agg) (fun (x4:TV)=>AO [.int .i64,.bool,.bool,.str,.int .i64,.int .i64,.int .i64,.int .i64,.int .i64,.str,.tv,.tv,.tv] x4 (fun (g2:Int) (f2 h8:Bool) (e9:B8) (i9 h0 h7 g4 h5:Int) (g1:B8) (g0 i3 g8:TV)=>((0<=(0:Int)/\(0:Int)<(lenZ 13 s:Int))/\Ah ((Ai c6 [] (.t (ixT 13 s (Int.toNat (0:Int)))) 0 13).map TV.agg) (fun (x5:TV)=>AO [.int .i64,.bool,.bool,.str,.int .i64,.int .i64,.int .i64,.int .i64,.int .i64,.str,.tv,.tv,.tv] x5 (fun (g6:Int) (f0 f5:Bool) (i1:B8) (h1 i5 g7 i0 f3:Int) (i2:B8) (f7 h9 h4:TV)=>CallT PR Ca [(.agg (cV g2 f2 h8 e9 i9 h0 h7 g4 h5 g1 g0 i3 g8)),(.agg (cV g6 f0 f5 i1 h1 i5 g7 i0 f3 i2 f7 h9 h4)),(.agg [.int .u8 d1,.int .u8 c8,.bool d4,.bool c9])] [.one .tv,.one .bool] c6 (fun (i4:TV) (j3:Bool) i8=>∃(I3:TV->Int->B8->Int->TV->V13 (Int->Int->Bool->Bool->St->Prop)) (M3:TV->Int->B8->Int->TV->V13 (Int->Int->Bool->Bool->St->Nat)),(I3 .nilSlice 0 c7 a8 i4 d6 b9 d9 s8 e3 d5 e7 e4 d8 s9 e1 s e0 d1 c8 d4 c9 i8)/\∀e m b z l w a3 a1 a7 v a4 a2 a5 a6 y a0 x u g j i k c5,I3 e m b z l w a3 a1 a7 v a4 a2 a5 a6 y a0 x u g j i k c5->(need (isSl l) (BId (m<(lenS l:Int)) (((0<=m/\m<(lenZ 13 l:Int))/\Ah ((Ai c5 [] (.t (ixT 13 l m.toNat)) 0 13).map TV.agg) (fun (x6:TV)=>AO [.int .i64,.bool,.bool,.str,.int .i64,.int .i64,.int .i64,.int .i64,.int .i64,.str,.tv,.tv,.tv] x6 (fun (h2:Int) (g9 h3:Bool) (f8:B8) (f1 g5 i7 f4 f6:Int) (h6:B8) (i6 j0 f9:TV)=>CallT PR Cq [(.agg (cV h2 g9 h3 f8 f1 g5 i7 f4 f6 h6 i6 j0 f9)),(.agg [.int .u8 g,.int .u8 j,.bool i,.bool k])] [.one .str,.one (.int .i64)] c5 (fun (g3:B8) (j4:Int) e8=>Bs 9 1 16 e 1 [.str g3] e8 (fun (d7:TV) d2=>(I3 d7 ((i64.wrap (m+(1:Int)))) b z l w a3 a1 a7 v a4 a2 a5 a6 y a0 x u g j i k d2/\M3 d7 ((i64.wrap (m+(1:Int)))) b z l w a3 a1 a7 v a4 a2 a5 a6 y a0 x u g j i k d2<M3 e m b z l w a3 a1 a7 v a4 a2 a5 a6 y a0 x u g j i k c5))))))) (CallT PR Cp [e,(.agg [.int .u8 g,.int .u8 j,.bool i,.bool k])] [.one .str] c5 (fun (d3:B8) d0=>(b.length+d3.length<=9223372036854775807/\(I1 ((b++d3)) ((i64.wrap (z+(1:Int)))) w a3 a1 a7 v a4 a2 a5 a6 y a0 x u g j i k d0/\M1 ((b++d3)) ((i64.wrap (z+(1:Int)))) w a3 a1 a7 v a4 a2 a5 a6 y a0 x u g j i k d0<M1 a n n2 b1 b2 s1 n3 n4 n5 n6 n7 s2 v1 v2 v3 n8 n9 b3 b4 q))))))))))))))) (BId ((1048576:Int)<(a.length:Int)) (K [] 10 q) (K a 0 q))))))):CallT PR Dl [(.agg (cV v_0 v_1 v_2 v_3 v_4 v_5 v_6 v_7 v_8 v_9 v_10 v_11 v_12)),(.agg [.int .u8 d_0,.int .u8 d_1,.bool d_2,.bool d_3])] [.one .str,.one (.int .i64)] st K:=
 Ae (cfg:=⟨[2,3],[],[53,57,76,80,95]⟩) (h:=(.seq .none (.seq .none (.seq .none (.seq (.seq .none (.block (.loop ⟨[(7,.str),(8,.int .i64)],[(2,0,0),(3,1,0)],[(0,13),(1,4)],[(0,0,.int .i64),(0,1,.bool),(0,2,.bool),(0,3,.str),(0,4,.int .i64),(0,5,.int .i64),(0,6,.int .i64),(0,7,.int .i64),(0,8,.int .i64),(0,9,.str),(0,10,.tv),(0,11,.tv),(0,12,.tv),(1,0,.int .u8),(1,1,.int .u8),(1,2,.bool),(1,3,.bool)]⟩ (.seq .none (.seq (.block (.cut ⟨[(7,.str),(8,.int .i64)],[(2,0,0),(3,1,0)],[(0,13),(1,4)],[(0,0,.int .i64),(0,1,.bool),(0,2,.bool),(0,3,.str),(0,4,.int .i64),(0,5,.int .i64),(0,6,.int .i64),(0,7,.int .i64),(0,8,.int .i64),(0,9,.str),(0,10,.tv),(0,11,.tv),(0,12,.tv),(1,0,.int .u8),(1,1,.int .u8),(1,2,.bool),(1,3,.bool)]⟩ (.seq .none (.cond (.seq .none (.seq (.seq .none (.block (.loop ⟨[(9,.tv),(10,.int .i64),(7,.str),(8,.int .i64)],[(2,0,0),(3,1,0)],[(0,13),(1,4)],[(0,0,.int .i64),(0,1,.bool),(0,2,.bool),(0,3,.str),(0,4,.int .i64),(0,5,.int .i64),(0,6,.int .i64),(0,7,.int .i64),(0,8,.int .i64),(0,9,.str),(0,10,.tv),(0,11,.tv),(0,12,.tv),(1,0,.int .u8),(1,1,.int .u8),(1,2,.bool),(1,3,.bool)]⟩ .none))) .none)) .none)) (.seq .none (.seq .none (.seq (.seq .none (.block (.loop ⟨[(15,.tv),(16,.int .i64),(7,.str),(8,.int .i64),(13,.tv)],[(2,0,0),(3,1,0)],[(0,13),(1,4)],[(0,0,.int .i64),(0,1,.bool),(0,2,.bool),(0,3,.str),(0,4,.int .i64),(0,5,.int .i64),(0,6,.int .i64),(0,7,.int .i64),(0,8,.int .i64),(0,9,.str),(0,10,.tv),(0,11,.tv),(0,12,.tv),(1,0,.int .u8),(1,1,.int .u8),(1,2,.bool),(1,3,.bool)]⟩ .none))) .none))))) .none))))) .none))))) mixed (fun _ _=>Tryz.call50 _ _) Tryz.func50 (by kernel_rfl) (by kernel_rfl) h
theorem Sf (v_0:Int) (v_1:Bool) (v_2:Bool) (v_3:B8) (v_4:Int) (v_5:Int) (v_6:Int) (v_7:Int) (v_8:Int) (v_9:B8) (v_10:TV) (v_11:TV) (v_12:TV) (d_0:Int) (d_1:Int) (d_2:Bool) (d_3:Bool) (st:St) (K:Int->St->Prop) (h:CallT PR Ga [(.agg (cV v_0 v_1 v_2 v_3 v_4 v_5 v_6 v_7 v_8 v_9 v_10 v_11 v_12)),(.agg [.int .u8 d_0,.int .u8 d_1,.bool d_2,.bool d_3])] [.one .str,.one (.int .i64)] st (fun (s1:B8) (n1:Int) a=>K n1 a)):CallT PR IM [(.agg (cV v_0 v_1 v_2 v_3 v_4 v_5 v_6 v_7 v_8 v_9 v_10 v_11 v_12)),(.agg [.int .u8 d_0,.int .u8 d_1,.bool d_2,.bool d_3])] [.one (.int .i64)] st K:=
 Ae (cfg:=⟨[2,3],[],[]⟩) (h:= .none) mixed (fun _ _=>Tryz.call51 _ _) Tryz.func51 (by kernel_rfl) (by kernel_rfl) h
theorem JU (v_0:Int) (v_1:Bool) (v_2:Bool) (v_3:B8) (v_4:Int) (v_5:Int) (v_6:Int) (v_7:Int) (v_8:Int) (v_9:B8) (v_10:TV) (v_11:TV) (v_12:TV) (d_0:Int) (d_1:Int) (d_2:Bool) (d_3:Bool) (st:St) (K:Int->St->Prop) (h:CallT PR Bw [(.agg [.int .u8 d_0,.int .u8 d_1,.bool d_2,.bool d_3])] [.one .bool] st (fun (b1:Bool) z=>BIf (!b1) (K 1 z) (CallT PR Cd [(.agg (cV v_0 v_1 v_2 v_3 v_4 v_5 v_6 v_7 v_8 v_9 v_10 v_11 v_12))] [.one (.int .i64)] z (fun (n1:Int) x=>BId (n1≠0) (K n1 x) (BId (v_0≠6) (K 27 x) (∃(I1:Int->V13 (Int->Int->Bool->Bool->St->Prop)) (M1:Int->V13 (Int->Int->Bool->Bool->St->Nat)),(I1 0 v_0 v_1 v_2 v_3 v_4 v_5 v_6 v_7 v_8 v_9 v_10 v_11 v_12 d_0 d_1 d_2 d_3 x)/\∀e n2 b2 b3 s1 n3 n4 n5 n6 n7 s2 v1 v2 v3 n8 n9 b4 b5 m,I1 e n2 b2 b3 s1 n3 n4 n5 n6 n7 s2 v1 v2 v3 n8 n9 b4 b5 m->(need (isSl v2) (BId (e<(lenS v2:Int)) (((0<=e/\e<(lenZ 13 v2:Int))/\Ah ((Ai m [] (.t (ixT 13 v2 e.toNat)) 0 13).map TV.agg) (fun (x1:TV)=>AO [.int .i64,.bool,.bool,.str,.int .i64,.int .i64,.int .i64,.int .i64,.int .i64,.str,.tv,.tv,.tv] x1 (fun (d6:Int) (b6 b7:Bool) (s3:B8) (a5 a1 c5 a2 a9:Int) (s4:B8) (v4 v5 v6:TV)=>((0<=(0:Int)/\(0:Int)<(lenZ 13 v2:Int))/\Ah ((Ai m [] (.t (ixT 13 v2 (Int.toNat (0:Int)))) 0 13).map TV.agg) (fun (x2:TV)=>AO [.int .i64,.bool,.bool,.str,.int .i64,.int .i64,.int .i64,.int .i64,.int .i64,.str,.tv,.tv,.tv] x2 (fun (c3:Int) (b8 b9:Bool) (s5:B8) (d0 a3 c9 c2 c4:Int) (s6:B8) (v7 v8 v9:TV)=>CallT PR Ca [(.agg (cV d6 b6 b7 s3 a5 a1 c5 a2 a9 s4 v4 v5 v6)),(.agg (cV c3 b8 b9 s5 d0 a3 c9 c2 c4 s6 v7 v8 v9)),(.agg [.int .u8 n8,.int .u8 n9,.bool b4,.bool b5])] [.one .tv,.one .bool] m (fun (c1:TV) (a8:Bool) a0=>BIf (!a8) (K 27 a0) (∃(I2:Int->Int->TV->V13 (Int->Int->Bool->Bool->St->Prop)) (M2:Int->Int->TV->V13 (Int->Int->Bool->Bool->St->Nat)),(I2 0 e c1 n2 b2 b3 s1 n3 n4 n5 n6 n7 s2 v1 v2 v3 n8 n9 b4 b5 a0)/\∀b w a u p v s7 r k q o n s8 j l i f c d g s,I2 b w a u p v s7 r k q o n s8 j l i f c d g s->(need (isSl a) (BId (b<(lenS a:Int)) (((0<=b/\b<(lenZ 13 a:Int))/\Ah ((Ai s [] (.t (ixT 13 a b.toNat)) 0 13).map TV.agg) (fun (x3:TV)=>AO [.int .i64,.bool,.bool,.str,.int .i64,.int .i64,.int .i64,.int .i64,.int .i64,.str,.tv,.tv,.tv] x3 (fun (d4:Int) (a6 c6:Bool) (s9:B8) (c8 c7 d1 b0 c0:Int) (a4:B8) (a7 d5 d3:TV)=>CallT PR Cq [(.agg (cV d4 a6 c6 s9 c8 c7 d1 b0 c0 a4 a7 d5 d3)),(.agg [.int .u8 f,.int .u8 c,.bool d,.bool g])] [.one .str,.one (.int .i64)] s (fun (d7:B8) (d2:Int) y=>BId (d2≠0) (K 27 y) ((I2 ((i64.wrap (b+(1:Int)))) w a u p v s7 r k q o n s8 j l i f c d g y/\M2 ((i64.wrap (b+(1:Int)))) w a u p v s7 r k q o n s8 j l i f c d g y<M2 b w a u p v s7 r k q o n s8 j l i f c d g s))))))) ((I1 ((i64.wrap (w+(1:Int)))) u p v s7 r k q o n s8 j l i f c d g s/\M1 ((i64.wrap (w+(1:Int)))) u p v s7 r k q o n s8 j l i f c d g s<M1 e n2 b2 b3 s1 n3 n4 n5 n6 n7 s2 v1 v2 v3 n8 n9 b4 b5 m))))))))))))) (K 0 m))))))))):CallT PR Cr [(.agg (cV v_0 v_1 v_2 v_3 v_4 v_5 v_6 v_7 v_8 v_9 v_10 v_11 v_12)),(.agg [.int .u8 d_0,.int .u8 d_1,.bool d_2,.bool d_3])] [.one (.int .i64)] st K:=
 Ae (cfg:=⟨[2,3],[],[35,39,56]⟩) (h:=(.seq .none (.seq .none (.seq .none (.seq .none (.seq (.seq .none (.block (.loop ⟨[(6,.int .i64)],[(2,0,0),(3,1,0)],[(0,13),(1,4)],[(0,0,.int .i64),(0,1,.bool),(0,2,.bool),(0,3,.str),(0,4,.int .i64),(0,5,.int .i64),(0,6,.int .i64),(0,7,.int .i64),(0,8,.int .i64),(0,9,.str),(0,10,.tv),(0,11,.tv),(0,12,.tv),(1,0,.int .u8),(1,1,.int .u8),(1,2,.bool),(1,3,.bool)]⟩ (.seq .none (.seq (.block (.seq .none (.seq .none (.seq .none (.block (.loop ⟨[(9,.int .i64),(6,.int .i64),(7,.tv)],[(2,0,0),(3,1,0)],[(0,13),(1,4)],[(0,0,.int .i64),(0,1,.bool),(0,2,.bool),(0,3,.str),(0,4,.int .i64),(0,5,.int .i64),(0,6,.int .i64),(0,7,.int .i64),(0,8,.int .i64),(0,9,.str),(0,10,.tv),(0,11,.tv),(0,12,.tv),(1,0,.int .u8),(1,1,.int .u8),(1,2,.bool),(1,3,.bool)]⟩ .none)))))) .none))))) .none)))))) mixed (fun _ _=>Tryz.call52 _ _) Tryz.func52 (by kernel_rfl) (by kernel_rfl) h
theorem OW (v_0:Int) (v_1:Bool) (v_2:Bool) (v_3:B8) (v_4:Int) (v_5:Int) (v_6:Int) (v_7:Int) (v_8:Int) (v_9:B8) (v_10:TV) (v_11:TV) (v_12:TV) (st:St) (K:Int->St->Prop) (h:stB (st.push (.cells [.int .i64 0]) (some 3)) (.box st.nb 0) [.int .i64 0] (fun a=>CallT PR DF [(.agg (cV v_0 v_1 v_2 v_3 v_4 v_5 v_6 v_7 v_8 v_9 v_10 v_11 v_12)),.int .i64 1,(.box st.nb 0)] [.one (.int .i64)] a (fun (n1:Int) b=>K n1 b))):CallT PR EK [(.agg (cV v_0 v_1 v_2 v_3 v_4 v_5 v_6 v_7 v_8 v_9 v_10 v_11 v_12))] [.one (.int .i64)] st K:=
 Ae (cfg:=⟨[1],[],[]⟩) (h:= .none) mixed (fun _ _=>Tryz.call58 _ _) Tryz.func58 (by kernel_rfl) (by kernel_rfl) h
theorem JW (v_0:Int) (v_1:Bool) (v_2:Bool) (v_3:B8) (v_4:Int) (v_5:Int) (v_6:Int) (v_7:Int) (v_8:Int) (v_9:B8) (v_10:TV) (v_11:TV) (v_12:TV) (depth:Int) (n:Int) (bytes:Int) (st:St) (K:Int->St->Prop) (h:BId (depth<1) (K (-1) st) (BId (n<1) (K (-1) st) (BId (bytes<(v_9.length:Int)) (K (-1) st) (need (isSl v_10) (BId (bytes<(lenS v_10:Int)) (K (-1) st) (BId (bytes<(v_3.length:Int)) (K (-1) st) (need (isSl v_11) (BId (n<(lenS v_11:Int)) (K (-1) st) (need (isSl v_12) (BId (n<(lenS v_12:Int)) (K (-1) st) (∃(I1:Int->Int->Int->Int->V13 (St->Prop)) (M1:Int->Int->Int->Int->V13 (St->Nat)),(I1 ((i64.wrap (n-(1:Int)))) 0 depth bytes v_0 v_1 v_2 v_3 v_4 v_5 v_6 v_7 v_8 v_9 v_10 v_11 v_12 st)/\∀r k a b n1 b1 b2 s1 n2 n3 n4 n5 n6 s2 v1 v2 v3 q,I1 r k a b n1 b1 b2 s1 n2 n3 n4 n5 n6 s2 v1 v2 v3 q->(need (isSl v2) (BId (k<(lenS v2:Int)) (BId ((0:Int)<=r) (((0<=k/\k<(lenZ 13 v2:Int))/\Ah ((Ai q [] (.t (ixT 13 v2 k.toNat)) 0 13).map TV.agg) (fun (x1:TV)=>AO [.int .i64,.bool,.bool,.str,.int .i64,.int .i64,.int .i64,.int .i64,.int .i64,.str,.tv,.tv,.tv] x1 (fun (n7:Int) (b3 b4:Bool) (s3:B8) (n8 n9 e9 d1 c7:Int) (s4:B8) (v4 v5 v6:TV)=>CallT PR Be [(.agg (cV n7 b3 b4 s3 n8 n9 e9 d1 c7 s4 v4 v5 v6)),(.int .i64 (i64.wrap (a-(1:Int)))),.int .i64 r,.int .i64 b] [.one (.int .i64)] q (fun (c0:Int) c2=>(I1 c0 ((i64.wrap (k+(1:Int)))) a b n1 b1 b2 s1 n2 n3 n4 n5 n6 s2 v1 v2 v3 c2/\M1 c0 ((i64.wrap (k+(1:Int)))) a b n1 b1 b2 s1 n2 n3 n4 n5 n6 s2 v1 v2 v3 c2<M1 r k a b n1 b1 b2 s1 n2 n3 n4 n5 n6 s2 v1 v2 v3 q)))))) (∃(I2:Int->Int->Int->Int->V13 (St->Prop)) (M2:Int->Int->Int->Int->V13 (St->Nat)),(I2 r 0 a b n1 b1 b2 s1 n2 n3 n4 n5 n6 s2 v1 v2 v3 q)/\∀p i g d s b5 b6 s5 a1 a3 a7 v a6 s6 v7 v8 v9 l,I2 p i g d s b5 b6 s5 a1 a3 a7 v a6 s6 v7 v8 v9 l->(need (isSl v9) (BId (i<(lenS v9:Int)) (BId ((0:Int)<=p) (((0<=i/\i<(lenZ 14 v9:Int))/\need (isPtr (ixT 14 v9 i.toNat)) (Ah (Ad l [] (.t (Ao (ixT 14 v9 i.toNat) 0)) 0) (fun (x2:TV)=>Ag .str x2 (fun (s7:B8)=>BId (d<(s7.length:Int)) (K (-1) l) (((0<=i/\i<(lenZ 14 v9:Int))/\need (isPtr (ixT 14 v9 i.toNat)) (Ah ((Ai l [] (.t (Ao (ixT 14 v9 i.toNat) 1)) 0 13).map TV.agg) (fun (x3:TV)=>AO [.int .i64,.bool,.bool,.str,.int .i64,.int .i64,.int .i64,.int .i64,.int .i64,.str,.tv,.tv,.tv] x3 (fun (d9:Int) (b7 b8:Bool) (s8:B8) (e1 e5 e2 d2 e3:Int) (s9:B8) (d8 d0 d6:TV)=>CallT PR Be [(.agg (cV d9 b7 b8 s8 e1 e5 e2 d2 e3 s9 d8 d0 d6)),(.int .i64 (i64.wrap (g-(1:Int)))),.int .i64 p,.int .i64 d] [.one (.int .i64)] l (fun (b0:Int) c1=>(I2 b0 ((i64.wrap (i+(1:Int)))) g d s b5 b6 s5 a1 a3 a7 v a6 s6 v7 v8 v9 c1/\M2 b0 ((i64.wrap (i+(1:Int)))) g d s b5 b6 s5 a1 a3 a7 v a6 s6 v7 v8 v9 c1<M2 p i g d s b5 b6 s5 a1 a3 a7 v a6 s6 v7 v8 v9 l)))))))))))) (K p l)) (K p l))))) (∃(I3:Int->Int->Int->Int->V13 (St->Prop)) (M3:Int->Int->Int->Int->V13 (St->Nat)),(I3 r 0 a b n1 b1 b2 s1 n2 n3 n4 n5 n6 s2 v1 v2 v3 q)/\∀o e f c a2 b9 a0 x a8 u a9 a5 a4 z w y j m,I3 o e f c a2 b9 a0 x a8 u a9 a5 a4 z w y j m->(need (isSl j) (BId (e<(lenS j:Int)) (BId ((0:Int)<=o) (((0<=e/\e<(lenZ 14 j:Int))/\need (isPtr (ixT 14 j e.toNat)) (Ah (Ad m [] (.t (Ao (ixT 14 j e.toNat) 0)) 0) (fun (x4:TV)=>Ag .str x4 (fun (c8:B8)=>BId (c<(c8.length:Int)) (K (-1) m) (((0<=e/\e<(lenZ 14 j:Int))/\need (isPtr (ixT 14 j e.toNat)) (Ah ((Ai m [] (.t (Ao (ixT 14 j e.toNat) 1)) 0 13).map TV.agg) (fun (x5:TV)=>AO [.int .i64,.bool,.bool,.str,.int .i64,.int .i64,.int .i64,.int .i64,.int .i64,.str,.tv,.tv,.tv] x5 (fun (e4:Int) (e0 f0:Bool) (c9:B8) (d4 d7 e7 c6 d3:Int) (e6:B8) (e8 c5 d5:TV)=>CallT PR Be [(.agg (cV e4 e0 f0 c9 d4 d7 e7 c6 d3 e6 e8 c5 d5)),(.int .i64 (i64.wrap (f-(1:Int)))),.int .i64 o,.int .i64 c] [.one (.int .i64)] m (fun (c3:Int) c4=>(I3 c3 ((i64.wrap (e+(1:Int)))) f c a2 b9 a0 x a8 u a9 a5 a4 z w y j c4/\M3 c3 ((i64.wrap (e+(1:Int)))) f c a2 b9 a0 x a8 u a9 a5 a4 z w y j c4<M3 o e f c a2 b9 a0 x a8 u a9 a5 a4 z w y j m)))))))))))) (K o m)) (K o m))))))))))))))))):CallT PR Be [(.agg (cV v_0 v_1 v_2 v_3 v_4 v_5 v_6 v_7 v_8 v_9 v_10 v_11 v_12)),.int .i64 depth,.int .i64 n,.int .i64 bytes] [.one (.int .i64)] st K:=
 Ae (cfg:=⟨[4],[],[]⟩) (h:=(.seq .none (.seq .none (.seq .none (.seq (.seq .none (.block (.loop ⟨[(2,.int .i64),(9,.int .i64),(1,.int .i64),(3,.int .i64)],[(4,0,0)],[(0,13)],[(0,0,.int .i64),(0,1,.bool),(0,2,.bool),(0,3,.str),(0,4,.int .i64),(0,5,.int .i64),(0,6,.int .i64),(0,7,.int .i64),(0,8,.int .i64),(0,9,.str),(0,10,.tv),(0,11,.tv),(0,12,.tv)]⟩ .none))) (.seq (.seq .none (.block (.loop ⟨[(2,.int .i64),(10,.int .i64),(1,.int .i64),(3,.int .i64)],[(4,0,0)],[(0,13)],[(0,0,.int .i64),(0,1,.bool),(0,2,.bool),(0,3,.str),(0,4,.int .i64),(0,5,.int .i64),(0,6,.int .i64),(0,7,.int .i64),(0,8,.int .i64),(0,9,.str),(0,10,.tv),(0,11,.tv),(0,12,.tv)]⟩ .none))) .none)))))) mixed (fun _ _=>Tryz.call84 _ _) Tryz.func84 (by kernel_rfl) (by kernel_rfl) h
theorem Ie (v_0:Int) (v_1:Bool) (v_2:Bool) (v_3:B8) (v_4:Int) (v_5:Int) (v_6:Int) (v_7:Int) (v_8:Int) (v_9:B8) (v_10:TV) (v_11:TV) (v_12:TV) (st:St) (K:Int->St->Prop) (h:need (isSl v_10) (∃(I1:Int->Int->V13 (St->Prop)) (M1:Int->Int->V13 (St->Nat)),(I1 ((i64.wrap ((i64.wrap ((v_9.length:Int)+(lenS v_10:Int)))+(v_3.length:Int)))) 0 v_0 v_1 v_2 v_3 v_4 v_5 v_6 v_7 v_8 v_9 v_10 v_11 v_12 st)/\∀f b n1 b1 b2 s1 n2 n3 n4 n5 n6 s2 v1 v2 v3 e,I1 f b n1 b1 b2 s1 n2 n3 n4 n5 n6 s2 v1 v2 v3 e->(need (isSl v2) (BId (b<(lenS v2:Int)) (((0<=b/\b<(lenZ 13 v2:Int))/\Ah ((Ai e [] (.t (ixT 13 v2 b.toNat)) 0 13).map TV.agg) (fun (x1:TV)=>AO [.int .i64,.bool,.bool,.str,.int .i64,.int .i64,.int .i64,.int .i64,.int .i64,.str,.tv,.tv,.tv] x1 (fun (n7:Int) (b3 b4:Bool) (s3:B8) (n8 n9 a3 u r:Int) (s4:B8) (v4 v5 v6:TV)=>CallT PR Bl [(.agg (cV n7 b3 b4 s3 n8 n9 a3 u r s4 v4 v5 v6))] [.one (.int .i64)] e (fun (p:Int) q=>(I1 ((i64.wrap (f+p))) ((i64.wrap (b+(1:Int)))) n1 b1 b2 s1 n2 n3 n4 n5 n6 s2 v1 v2 v3 q/\M1 ((i64.wrap (f+p))) ((i64.wrap (b+(1:Int)))) n1 b1 b2 s1 n2 n3 n4 n5 n6 s2 v1 v2 v3 q<M1 f b n1 b1 b2 s1 n2 n3 n4 n5 n6 s2 v1 v2 v3 e)))))) (∃(I2:Int->Int->V13 (St->Prop)) (M2:Int->Int->V13 (St->Nat)),(I2 f 0 n1 b1 b2 s1 n2 n3 n4 n5 n6 s2 v1 v2 v3 e)/\∀d a g b5 b6 s5 j k m i l s6 v7 v8 v9 c,I2 d a g b5 b6 s5 j k m i l s6 v7 v8 v9 c->(need (isSl v9) (BId (a<(lenS v9:Int)) (((0<=a/\a<(lenZ 14 v9:Int))/\need (isPtr (ixT 14 v9 a.toNat)) (Ah (Ad c [] (.t (Ao (ixT 14 v9 a.toNat) 0)) 0) (fun (x2:TV)=>Ag .str x2 (fun (s7:B8)=>((0<=a/\a<(lenZ 14 v9:Int))/\need (isPtr (ixT 14 v9 a.toNat)) (Ah ((Ai c [] (.t (Ao (ixT 14 v9 a.toNat) 1)) 0 13).map TV.agg) (fun (x3:TV)=>AO [.int .i64,.bool,.bool,.str,.int .i64,.int .i64,.int .i64,.int .i64,.int .i64,.str,.tv,.tv,.tv] x3 (fun (x:Int) (b7 b8:Bool) (s8:B8) (z a2 a0 v a1:Int) (s9:B8) (y s w:TV)=>CallT PR Bl [(.agg (cV x b7 b8 s8 z a2 a0 v a1 s9 y s w))] [.one (.int .i64)] c (fun (o:Int) n=>(Ad n [] (.t (Ao (ixT 14 v9 a.toNat) 0)) 0=some (.str s7)/\(I2 ((i64.wrap ((i64.wrap (d+(s7.length:Int)))+o))) ((i64.wrap (a+(1:Int)))) g b5 b6 s5 j k m i l s6 v7 v8 v9 n/\M2 ((i64.wrap ((i64.wrap (d+(s7.length:Int)))+o))) ((i64.wrap (a+(1:Int)))) g b5 b6 s5 j k m i l s6 v7 v8 v9 n<M2 d a g b5 b6 s5 j k m i l s6 v7 v8 v9 c)))))))))))) (K d c)))))))):CallT PR Bl [(.agg (cV v_0 v_1 v_2 v_3 v_4 v_5 v_6 v_7 v_8 v_9 v_10 v_11 v_12))] [.one (.int .i64)] st K:=
 Ae (cfg:=⟨[1],[],[46,54]⟩) (h:=(.seq .none (.seq .none (.seq (.seq .none (.block (.loop ⟨[(3,.int .i64),(4,.int .i64)],[(1,0,0)],[(0,13)],[(0,0,.int .i64),(0,1,.bool),(0,2,.bool),(0,3,.str),(0,4,.int .i64),(0,5,.int .i64),(0,6,.int .i64),(0,7,.int .i64),(0,8,.int .i64),(0,9,.str),(0,10,.tv),(0,11,.tv),(0,12,.tv)]⟩ .none))) (.seq (.seq .none (.block (.loop ⟨[(3,.int .i64),(5,.int .i64)],[(1,0,0)],[(0,13)],[(0,0,.int .i64),(0,1,.bool),(0,2,.bool),(0,3,.str),(0,4,.int .i64),(0,5,.int .i64),(0,6,.int .i64),(0,7,.int .i64),(0,8,.int .i64),(0,9,.str),(0,10,.tv),(0,11,.tv),(0,12,.tv)]⟩ .none))) .none))))) mixed (fun _ _=>Tryz.call85 _ _) Tryz.func85 (by kernel_rfl) (by kernel_rfl) h
theorem R9 (v_0:Int) (v_1:Bool) (v_2:Bool) (v_3:B8) (v_4:Int) (v_5:Int) (v_6:Int) (v_7:Int) (v_8:Int) (v_9:B8) (v_10:TV) (v_11:TV) (v_12:TV) (d_0:Int) (d_1:Int) (d_2:Bool) (d_3:Bool) (st:St) (K:B8->Int->St->Prop) (h:BIf (!d_3) (BId (v_0≠4) (K [] 27 st) (BId (v_0=0) (K [] 0 st) (BId (v_0=1) (BIf v_1 (K I0 0 st) (K Q5 0 st)) (BId (v_0=2) (CallT PR El [(.agg [.bool v_2,.str v_3,.int .i64 v_4])] [.one .str] st (fun (s1:B8) k=>K s1 0 k)) (BId (v_0=3) (CallT PR EN [(.agg [.int .i64 v_5,.int .i64 v_6,.int .i64 v_7,.int .i64 v_8])] [.one .str] st (fun (s2:B8) m=>K s2 0 m)) (BId (v_0=4) (CallT PR CE [.str v_9,(.agg [.int .u8 d_0,.int .u8 d_1,.bool d_2,.bool d_3])] [.one .str,.one (.int .i64)] st (fun (s3:B8) (n1:Int) c=>BId (n1≠0) (K s3 n1 c) (BId (s3≠v_9) (K s3 n1 c) (CallT PR CO [.str s3,.bool false,(.agg [.int .u8 d_0,.int .u8 d_1,.bool d_2,.bool d_3])] [sV] c (fun (n2:Int) (b1 b2:Bool) (s4:B8) (n3 n4 n5 n6 n7:Int) (s5:B8) (v1 v2 v3:TV) e=>BId (n2=4) (K s3 n1 e) (Ah ((toBytes e (.list 1 .full 1 [.int .u8 d_1])).map TV.str) (fun (x1:TV)=>Ag .str x1 (fun (s6:B8)=>(s6.length+s6.length<=9223372036854775807/\CallT PR AF [.str s3,.str s6,(.str (s6++s6))] [.one .str] e (fun (s7:B8) j=>(s6.length+s7.length<=9223372036854775807/\(((s6++s7)).length+s6.length<=9223372036854775807/\K (((s6++s7)++s6)) 0 j)))))))))))) (K [] 27 st))))))) (BId (v_0=0) (K [] 0 st) (BId (v_0=1) (BIf v_1 (K I0 0 st) (K Q5 0 st)) (BId (v_0=2) (CallT PR El [(.agg [.bool v_2,.str v_3,.int .i64 v_4])] [.one .str] st (fun (s8:B8) n=>K s8 0 n)) (BId (v_0=3) (CallT PR EN [(.agg [.int .i64 v_5,.int .i64 v_6,.int .i64 v_7,.int .i64 v_8])] [.one .str] st (fun (s9:B8) l=>K s9 0 l)) (BId (v_0=4) (CallT PR CE [.str v_9,(.agg [.int .u8 d_0,.int .u8 d_1,.bool d_2,.bool d_3])] [.one .str,.one (.int .i64)] st (fun (b:B8) (n8:Int) g=>BId (n8≠0) (K b n8 g) (BId (b≠v_9) (K b n8 g) (CallT PR CO [.str b,.bool false,(.agg [.int .u8 d_0,.int .u8 d_1,.bool d_2,.bool d_3])] [sV] g (fun (n9:Int) (b3 b4:Bool) (s:B8) (u r p t o:Int) (q:B8) (v4 v5 v6:TV) d=>BId (n9=4) (K b n8 d) (Ah ((toBytes d (.list 1 .full 1 [.int .u8 d_1])).map TV.str) (fun (x2:TV)=>Ag .str x2 (fun (a:B8)=>(a.length+a.length<=9223372036854775807/\CallT PR AF [.str b,.str a,(.str (a++a))] [.one .str] d (fun (f:B8) i=>(a.length+f.length<=9223372036854775807/\(((a++f)).length+a.length<=9223372036854775807/\K (((a++f)++a)) 0 i)))))))))))) (K [] 27 st))))))):CallT PR DT [(.agg (cV v_0 v_1 v_2 v_3 v_4 v_5 v_6 v_7 v_8 v_9 v_10 v_11 v_12)),(.agg [.int .u8 d_0,.int .u8 d_1,.bool d_2,.bool d_3])] [.one .str,.one (.int .i64)] st K:=
 Ae (cfg:=⟨[2,3],[],[]⟩) (h:= .none) mixed (fun _ _=>Tryz.call87 _ _) Tryz.func87 (by kernel_rfl) (by kernel_rfl) h
theorem Jo (v_0:Int) (v_1:Bool) (v_2:Bool) (v_3:B8) (v_4:Int) (v_5:Int) (v_6:Int) (v_7:Int) (v_8:Int) (v_9:B8) (v_10:TV) (v_11:TV) (v_12:TV) (st:St) (K:Int->St->Prop) (h:CallT PR Cs [(.agg (cV v_0 v_1 v_2 v_3 v_4 v_5 v_6 v_7 v_8 v_9 v_10 v_11 v_12)),.int .i64 1,.int .i64 0] [.one (.int .i64),.one (.int .i64)] st (fun (n1 n2:Int) a=>K n2 a)):CallT PR Cd [(.agg (cV v_0 v_1 v_2 v_3 v_4 v_5 v_6 v_7 v_8 v_9 v_10 v_11 v_12))] [.one (.int .i64)] st K:=
 Ae (cfg:=⟨[1],[],[]⟩) (h:= .none) mixed (fun _ _=>Tryz.call88 _ _) Tryz.func88 (by kernel_rfl) (by kernel_rfl) h
theorem Fx (d_0:Bool) (d_1:B8) (d_2:Int) (st:St) (K:B8->St->Prop) (h:BId (d_1=([]:B8)) (K Ka st) (∃(C1:B8->Bool->B8->Int->St->Prop),(BIf d_0 (C1 A3 d_0 d_1 d_2 st) (C1 [] d_0 d_1 d_2 st))/\∀e b1 s1 n1 i,C1 e b1 s1 n1 i->(∃(C2:B8->Int->Bool->B8->Int->St->Prop),(BId ((0:Int)<=n1) (BId ((i64.wrap ((s1.length:Int)+n1))<=(21:Int)) ((e.length+s1.length<=9223372036854775807/\CallT PR BN [.int .i64 n1] [.one .str] i (fun (s2:B8) o=>(((e++s1)).length+s2.length<=9223372036854775807/\K (((e++s1)++s2)) o)))) (C2 e ((i64.wrap ((s1.length:Int)+n1))) b1 s1 n1 i)) (C2 e ((i64.wrap ((s1.length:Int)+n1))) b1 s1 n1 i))/\∀c a b2 s3 n2 g,C2 c a b2 s3 n2 g->(∃(C3:B8->Int->Bool->B8->Int->St->Prop),(BId (n2<0) (BId ((1:Int)<=a) (BId (a<=21) (((0<=a/\a<=(s3.length:Int))/\(c.length+((List.take a.toNat s3)).length<=9223372036854775807/\(((c++(List.take a.toNat s3))).length+Da.length<=9223372036854775807/\((0<=a/\a<=(s3.length:Int))/\((((c++(List.take a.toNat s3))++Da)).length+((List.drop a.toNat s3)).length<=9223372036854775807/\K ((((c++(List.take a.toNat s3))++Da)++(List.drop a.toNat s3))) g)))))) (C3 c a b2 s3 n2 g)) (C3 c a b2 s3 n2 g)) (C3 c a b2 s3 n2 g))/\∀d f b3 s4 n3 j,C3 d f b3 s4 n3 j->(∃(C4:B8->Int->Bool->B8->Int->St->Prop),(BId ((-5:Int)<=f) (BId (f<=0) ((d.length+NW.length<=9223372036854775807/\CallT PR BN [(.int .i64 (i64.wrap (0-f)))] [.one .str] j (fun (s5:B8) m=>(((d++NW)).length+s5.length<=9223372036854775807/\((((d++NW)++s5)).length+s4.length<=9223372036854775807/\K ((((d++NW)++s5)++s4)) m))))) (C4 d f b3 s4 n3 j)) (C4 d f b3 s4 n3 j))/\∀b k b4 s6 n4 l,C4 b k b4 s6 n4 l->(((0<=(1:Int)/\(1:Int)<=(s6.length:Int))/\(b.length+((List.take (Int.toNat (1:Int)) s6)).length<=9223372036854775807/\BId ((1:Int)<(s6.length:Int)) ((((b++(List.take (Int.toNat (1:Int)) s6))).length+Da.length<=9223372036854775807/\((0<=(1:Int)/\(1:Int)<=(s6.length:Int))/\((((b++(List.take (Int.toNat (1:Int)) s6))++Da)).length+((List.drop (Int.toNat (1:Int)) s6)).length<=9223372036854775807/\(((((b++(List.take (Int.toNat (1:Int)) s6))++Da)++(List.drop (Int.toNat (1:Int)) s6))).length+Mi.length<=9223372036854775807/\CallT PR BY [(.int .i64 (i64.wrap (k-(1:Int))))] [.one .str] l (fun (s7:B8) p=>((((((b++(List.take (Int.toNat (1:Int)) s6))++Da)++(List.drop (Int.toNat (1:Int)) s6))++Mi)).length+s7.length<=9223372036854775807/\K ((((((b++(List.take (Int.toNat (1:Int)) s6))++Da)++(List.drop (Int.toNat (1:Int)) s6))++Mi)++s7)) p))))))) ((((b++(List.take (Int.toNat (1:Int)) s6))).length+Mi.length<=9223372036854775807/\CallT PR BY [(.int .i64 (i64.wrap (k-(1:Int))))] [.one .str] l (fun (s8:B8) n=>((((b++(List.take (Int.toNat (1:Int)) s6))++Mi)).length+s8.length<=9223372036854775807/\K ((((b++(List.take (Int.toNat (1:Int)) s6))++Mi)++s8)) n)))))))))))):CallT PR Cu [(.agg [.bool d_0,.str d_1,.int .i64 d_2])] [.one .str] st K:=
 Ae (cfg:=⟨[1],[],[]⟩) (h:=(.seq .none (.seq .none (.seq .none (.cut ⟨[(3,.str)],[(1,0,0)],[(0,3)],[(0,0,.bool),(0,1,.str),(0,2,.int .i64)]⟩ .none (.seq .none (.cut ⟨[(3,.str),(4,.int .i64)],[(1,0,0)],[(0,3)],[(0,0,.bool),(0,1,.str),(0,2,.int .i64)]⟩ .none (.cut ⟨[(3,.str),(4,.int .i64)],[(1,0,0)],[(0,3)],[(0,0,.bool),(0,1,.str),(0,2,.int .i64)]⟩ .none (.cut ⟨[(3,.str),(4,.int .i64)],[(1,0,0)],[(0,3)],[(0,0,.bool),(0,1,.str),(0,2,.int .i64)]⟩ .none .none))))))))) mixed (fun _ _=>Tryz.call89 _ _) Tryz.func89 (by kernel_rfl) (by kernel_rfl) h
theorem J1 (t_0:Int) (t_1:Int) (t_2:Int) (t_3:Int) (st:St) (K:B8->St->Prop) (h:CallT PR Ce [(.agg [.int .i64 t_0,.int .i64 t_1,.int .i64 t_2,.int .i64 t_3])] [.one .bool] st (fun (b1:Bool) b=>BIf (!b1) (K [] b) (CallT PR DK [.int .i64 t_1] [.one (.int .i64),.one (.int .i64),.one (.int .i64),.one (.int .i64)] b (fun (n1 n2 n3 n4:Int) e=>CallT PR AC [.int .i64 n1,.int .i64 4] [.one .str] e (fun (s1:B8) f=>(s1.length+A3.length<=9223372036854775807/\CallT PR AC [.int .i64 n2,.int .i64 2] [.one .str] f (fun (s2:B8) g=>(((s1++A3)).length+s2.length<=9223372036854775807/\((((s1++A3)++s2)).length+A3.length<=9223372036854775807/\CallT PR AC [.int .i64 n3,.int .i64 2] [.one .str] g (fun (s3:B8) a=>(((((s1++A3)++s2)++A3)).length+s3.length<=9223372036854775807/\BId (t_0=1) (K (((((s1++A3)++s2)++A3)++s3)) a) (BId (t_0=2) (CallT PR A9 [.int .i64 t_2] [.one .str] a (fun (s4:B8) i=>K s4 i)) (BId (t_0=3) (((((((s1++A3)++s2)++A3)++s3)).length+GX.length<=9223372036854775807/\CallT PR A9 [.int .i64 t_2] [.one .str] a (fun (s5:B8) j=>(((((((s1++A3)++s2)++A3)++s3)++GX)).length+s5.length<=9223372036854775807/\K (((((((s1++A3)++s2)++A3)++s3)++GX)++s5)) j)))) (((((((s1++A3)++s2)++A3)++s3)).length+GX.length<=9223372036854775807/\CallT PR A9 [.int .i64 t_2] [.one .str] a (fun (s6:B8) d=>(((((((s1++A3)++s2)++A3)++s3)++GX)).length+s6.length<=9223372036854775807/\CallT PR CS [.int .i64 t_3] [.one .str] d (fun (s7:B8) c=>((((((((s1++A3)++s2)++A3)++s3)++GX)++s6)).length+s7.length<=9223372036854775807/\K ((((((((s1++A3)++s2)++A3)++s3)++GX)++s6)++s7)) c))))))))))))))))))):CallT PR Ct [(.agg [.int .i64 t_0,.int .i64 t_1,.int .i64 t_2,.int .i64 t_3])] [.one .str] st K:=
 Ae (cfg:=⟨[1],[],[]⟩) (h:= .none) mixed (fun _ _=>Tryz.call90 _ _) Tryz.func90 (by kernel_rfl) (by kernel_rfl) h
theorem Hf (s:B8) (st:St) (K:V13 (St->Prop)) (h:K 4 false false [] 0 0 0 0 0 s .nilSlice .nilSlice .nilSlice st):CallT PR Dg [.str s] [sV] st K:=
 Ae (cfg:=⟨[2],[],[]⟩) (h:= .none) mixed (fun _ _=>Tryz.call93 _ _) Tryz.func93 (by kernel_rfl) (by kernel_rfl) h
theorem Qu (st:St) (K:V13 (St->Prop)) (h:K 0 false false [] 0 0 0 0 0 [] .nilSlice .nilSlice .nilSlice st):CallT PR Ln [] [sV] st K:=
 Ae (cfg:=⟨[0],[],[]⟩) (h:= .none) mixed (fun _ _=>Tryz.call94 _ _) Tryz.func94 (by kernel_rfl) (by kernel_rfl) h
theorem Lc (b:Bool) (st:St) (K:V13 (St->Prop)) (h:K 1 b false [] 0 0 0 0 0 [] .nilSlice .nilSlice .nilSlice st):CallT PR Hr [.bool b] [sV] st K:=
 Ae (cfg:=⟨[2],[],[]⟩) (h:= .none) mixed (fun _ _=>Tryz.call95 _ _) Tryz.func95 (by kernel_rfl) (by kernel_rfl) h
theorem MW (s:B8) (st:St) (K:Bool->B8->Int->Int->St->Prop) (h:CallT PR A5 [.str s,.str A3] [.one .bool] st (fun (b1:Bool) a1=>∃(C1:B8->Bool->Bool->B8->Int->St->Prop),(BIf b1 (((0<=(1:Int)/\(1:Int)<=(s.length:Int))/\C1 ((List.drop (Int.toNat (1:Int)) s)) b1 false [] 0 a1)) (C1 s b1 false [] 0 a1))/\∀l n b2 s1 n1 a4,C1 l n b2 s1 n1 a4->(CallT PR DI [.str l] [.one (.int .i64)] a4 (fun (n2:Int) v=>∃(C2:B8->Bool->Int->Bool->B8->Int->St->Prop),(BId (n2=0) (K false [] 0 3 v) (BId ((1:Int)<n2) (((0<=(0:Int)/\(0:Int)<(l.length:Int))/\BId (((List.getD l (Int.toNat (0:Int)) 0).toNat:Int)=(48:Int)) (K false [] 0 3 v) (C2 l n n2 b2 s1 n1 v))) (C2 l n n2 b2 s1 n1 v)))/\∀b m a b3 s2 n3 a2,C2 b m a b3 s2 n3 a2->(((0<=a/\a<=(b.length:Int))/\((0<=a/\a<=(b.length:Int))/\∃(C3:B8->B8->Int->Bool->Bool->B8->Int->St->Prop),(CallT PR A5 [(.str (List.drop a.toNat b)),.str Da] [.one .bool] a2 (fun (b4:Bool) a0=>BIf b4 (((0<=(1:Int)/\(1:Int)<=(((List.drop a.toNat b)).length:Int))/\CallT PR DI [(.str (List.drop (Int.toNat (1:Int)) (List.drop a.toNat b)))] [.one (.int .i64)] a0 (fun (n4:Int) a5=>BId (n4=0) (K false [] 0 3 a5) (((0<=(1:Int)/\(1:Int)<=(i64.wrap (n4+(1:Int)))/\(i64.wrap (n4+(1:Int)))<=(((List.drop a.toNat b)).length:Int))/\(((List.take a.toNat b)).length+((List.drop (Int.toNat (1:Int)) (List.take (Int.toNat (i64.wrap (n4+(1:Int)))) (List.drop a.toNat b)))).length<=9223372036854775807/\((0<=(i64.wrap (n4+(1:Int)))/\(i64.wrap (n4+(1:Int)))<=(((List.drop a.toNat b)).length:Int))/\C3 ((List.drop (Int.toNat (i64.wrap (n4+(1:Int)))) (List.drop a.toNat b))) (((List.take a.toNat b)++(List.drop (Int.toNat (1:Int)) (List.take (Int.toNat (i64.wrap (n4+(1:Int)))) (List.drop a.toNat b))))) ((i64.wrap (0-n4))) m b3 s2 n3 a5))))))) (C3 ((List.drop a.toNat b)) ((List.take a.toNat b)) 0 m b3 s2 n3 a0)))/\∀d k f g b5 s3 n5 q,C3 d k f g b5 s3 n5 q->(BId (d≠([]:B8)) (∃(C4:B8->Bool->B8->Int->Bool->B8->Int->St->Prop),(((0<=(0:Int)/\(0:Int)<(d.length:Int))/\BId (((List.getD d (Int.toNat (0:Int)) 0).toNat:Int)≠(101:Int)) (((0<=(0:Int)/\(0:Int)<(d.length:Int))/\BId (((List.getD d (Int.toNat (0:Int)) 0).toNat:Int)≠(69:Int)) (K false [] 0 3 q) (C4 d g k f b5 s3 n5 q))) (C4 d g k f b5 s3 n5 q)))/\∀c j i e b6 s4 n6 a3,C4 c j i e b6 s4 n6 a3->(((0<=(1:Int)/\(1:Int)<=(c.length:Int))/\CallT PR A5 [(.str (List.drop (Int.toNat (1:Int)) c)),.str A3] [.one .bool] a3 (fun (b7:Bool) z=>∃(C5:B8->Bool->B8->Int->Bool->Bool->B8->Int->St->Prop),(BIf b7 (((0<=(1:Int)/\(1:Int)<=(((List.drop (Int.toNat (1:Int)) c)).length:Int))/\C5 ((List.drop (Int.toNat (1:Int)) (List.drop (Int.toNat (1:Int)) c))) j i e b7 b6 s4 n6 z)) (CallT PR A5 [(.str (List.drop (Int.toNat (1:Int)) c)),.str Mh] [.one .bool] z (fun (b8:Bool) y=>BIf b8 (((0<=(1:Int)/\(1:Int)<=(((List.drop (Int.toNat (1:Int)) c)).length:Int))/\C5 ((List.drop (Int.toNat (1:Int)) (List.drop (Int.toNat (1:Int)) c))) j i e b7 b6 s4 n6 y)) (C5 ((List.drop (Int.toNat (1:Int)) c)) j i e b7 b6 s4 n6 y))))/\∀o t u w p b9 s5 n7 r,C5 o t u w p b9 s5 n7 r->(BId (o=([]:B8)) (K false [] 0 3 r) (CallT PR DI [.str o] [.one (.int .i64)] r (fun (n8:Int) x=>BId (n8≠(o.length:Int)) (K false [] 0 3 x) (CallT PR D4 [.str o,.str Ka] [.one .str] x (fun (s6:B8) a8=>CallT PR Fh [.int .i64 w,.bool p,.str s6] [.one (.int .i64)] a8 (fun (n9:Int) a7=>CallT PR Dd [.bool t,.str u,.int .i64 n9] [.agg [.bool,.str,.int .i64],.one (.int .i64)] a7 (fun (c1:Bool) (s7:B8) (c4 c0:Int) a6=>K c1 s7 c4 c0 a6))))))))))) (CallT PR Dd [.bool g,.str k,.int .i64 f] [.agg [.bool,.str,.int .i64],.one (.int .i64)] q (fun (c2:Bool) (s8:B8) (b0 c3:Int) a9=>K c2 s8 b0 c3 a9)))))))))):CallT PR CF [.str s] [.agg [.bool,.str,.int .i64],.one (.int .i64)] st K:=
 Ae (cfg:=⟨[2],[],[]⟩) (h:=(.seq .none (.seq .none (.cut ⟨[(0,.str),(4,.bool)],[(2,0,0)],[(0,3)],[(0,0,.bool),(0,1,.str),(0,2,.int .i64)]⟩ .none (.seq .none (.cut ⟨[(0,.str),(4,.bool),(5,.int .i64)],[(2,0,0)],[(0,3)],[(0,0,.bool),(0,1,.str),(0,2,.int .i64)]⟩ .none (.seq .none (.seq .none (.seq .none (.cut ⟨[(0,.str),(6,.str),(7,.int .i64),(4,.bool)],[(2,0,0)],[(0,3)],[(0,0,.bool),(0,1,.str),(0,2,.int .i64)]⟩ .none (.seq (.seq .none (.cond (.cut ⟨[(0,.str),(4,.bool),(6,.str),(7,.int .i64)],[(2,0,0)],[(0,3)],[(0,0,.bool),(0,1,.str),(0,2,.int .i64)]⟩ .none (.seq .none (.seq .none (.cut ⟨[(0,.str),(4,.bool),(6,.str),(7,.int .i64),(8,.bool)],[(2,0,0)],[(0,3)],[(0,0,.bool),(0,1,.str),(0,2,.int .i64)]⟩ .none .none)))) .none)) .none))))))))))) mixed (fun _ _=>Tryz.call96 _ _) Tryz.func96 (by kernel_rfl) (by kernel_rfl) h
theorem R3 (d_0:Bool) (d_1:B8) (d_2:Int) (st:St) (K:V13 (St->Prop)) (h:K 2 false d_0 d_1 d_2 0 0 0 0 [] .nilSlice .nilSlice .nilSlice st):CallT PR F8 [(.agg [.bool d_0,.str d_1,.int .i64 d_2])] [sV] st K:=
 Ae (cfg:=⟨[1,2],[],[]⟩) (h:= .none) mixed (fun _ _=>Tryz.call97 _ _) Tryz.func97 (by kernel_rfl) (by kernel_rfl) h
theorem On (s:B8) (st:St) (K:Int->Int->Int->Int->Int->St->Prop) (h:CallT PR Dk [(.box st.nb 0),(.box (st.push (.cells [.str s,.bool false]) (some 220)).nb 0)] [.one (.int .i64)] ((st.push (.cells [.str s,.bool false]) (some 220)).push (.cells [.int .i64 0,.int .i64 0,.int .i64 0,.int .i64 0,.int .i64 0,.int .i64 0,.int .i64 0,.int .u8 0,.int .i64 0,.int .i64 0]) (some 222)) (fun (n1:Int) a=>Ah (Ad a [] (.t (.box st.nb 1)) 0) (fun (x1:TV)=>Ag .bool x1 (fun (b1:Bool)=>BIf b1 (K 0 0 0 0 3 a) (Ah (Ad a [] (.t (.box st.nb 0)) 0) (fun (x2:TV)=>Ag .str x2 (fun (s1:B8)=>BId (s1≠([]:B8)) (K 0 0 0 0 3 a) (BId (n1≠2) (Ah (Ad a [] (.t (.box (st.push (.cells [.str s,.bool false]) (some 220)).nb 0)) 0) (fun (x3:TV)=>Ag (.int .i64) x3 (fun (n2:Int)=>Ah (Ad a [] (.t (.box (st.push (.cells [.str s,.bool false]) (some 220)).nb 1)) 0) (fun (x4:TV)=>Ag (.int .i64) x4 (fun (n3:Int)=>Ah (Ad a [] (.t (.box (st.push (.cells [.str s,.bool false]) (some 220)).nb 2)) 0) (fun (x5:TV)=>Ag (.int .i64) x5 (fun (n4:Int)=>CallT PR FQ [.int .i64 n2,.int .i64 n3,.int .i64 n4] [.one (.int .i64),.one (.int .i64)] a (fun (n5 n6:Int) b=>BId (n6≠0) (K 0 0 0 0 2 b) (Ah (Ad b [] (.t (.box (st.push (.cells [.str s,.bool false]) (some 220)).nb 3)) 0) (fun (x6:TV)=>Ag (.int .i64) x6 (fun (n7:Int)=>BId ((23:Int)<n7) (K 0 0 0 0 2 b) (Ah (Ad b [] (.t (.box (st.push (.cells [.str s,.bool false]) (some 220)).nb 4)) 0) (fun (x7:TV)=>Ag (.int .i64) x7 (fun (n8:Int)=>BId ((59:Int)<n8) (K 0 0 0 0 2 b) (Ah (Ad b [] (.t (.box (st.push (.cells [.str s,.bool false]) (some 220)).nb 5)) 0) (fun (x8:TV)=>Ag (.int .i64) x8 (fun (n9:Int)=>BId ((59:Int)<n9) (K 0 0 0 0 2 b) (Ah (Ad b [] (.t (.box (st.push (.cells [.str s,.bool false]) (some 220)).nb 8)) 0) (fun (x9:TV)=>Ag (.int .i64) x9 (fun (b9:Int)=>BId ((23:Int)<b9) (K 0 0 0 0 2 b) (Ah (Ad b [] (.t (.box (st.push (.cells [.str s,.bool false]) (some 220)).nb 9)) 0) (fun (a1:TV)=>Ag (.int .i64) a1 (fun (w:Int)=>BId ((59:Int)<w) (K 0 0 0 0 2 b) (Ah (Ad b [] (.t (.box (st.push (.cells [.str s,.bool false]) (some 220)).nb 3)) 0) (fun (b5:TV)=>Ag (.int .i64) b5 (fun (d:Int)=>Ah (Ad b [] (.t (.box (st.push (.cells [.str s,.bool false]) (some 220)).nb 4)) 0) (fun (p:TV)=>Ag (.int .i64) p (fun (l:Int)=>Ah (Ad b [] (.t (.box (st.push (.cells [.str s,.bool false]) (some 220)).nb 5)) 0) (fun (b8:TV)=>Ag (.int .i64) b8 (fun (c:Int)=>Ah (Ad b [] (.t (.box (st.push (.cells [.str s,.bool false]) (some 220)).nb 6)) 0) (fun (c0:TV)=>Ag (.int .i64) c0 (fun (g:Int)=>Ah (Ad b [] (.t (.box (st.push (.cells [.str s,.bool false]) (some 220)).nb 8)) 0) (fun (a2:TV)=>Ag (.int .i64) a2 (fun (k:Int)=>Ah (Ad b [] (.t (.box (st.push (.cells [.str s,.bool false]) (some 220)).nb 9)) 0) (fun (b0:TV)=>Ag (.int .i64) b0 (fun (n:Int)=>Ah (Ad b [] (.t (.box (st.push (.cells [.str s,.bool false]) (some 220)).nb 7)) 0) (fun (y:TV)=>Ag (.int .u8) y (fun (u:Int)=>BId (u=45) (K n1 n5 ((i64.wrap ((i64.wrap ((i64.wrap ((i64.wrap ((i64.wrap ((i64.wrap (d*(60:Int)))+l))*(60:Int)))+c))*(1000000000:Int)))+g))) ((i64.wrap (0-(i64.wrap ((i64.wrap (k*(60:Int)))+n))))) 0 b) (K n1 n5 ((i64.wrap ((i64.wrap ((i64.wrap ((i64.wrap ((i64.wrap ((i64.wrap (d*(60:Int)))+l))*(60:Int)))+c))*(1000000000:Int)))+g))) ((i64.wrap ((i64.wrap (k*(60:Int)))+n))) 0 b))))))))))))))))))))))))))))))))))))))) (Ah (Ad a [] (.t (.box (st.push (.cells [.str s,.bool false]) (some 220)).nb 3)) 0) (fun (a0:TV)=>Ag (.int .i64) a0 (fun (b2:Int)=>BId ((23:Int)<b2) (K 0 0 0 0 2 a) (Ah (Ad a [] (.t (.box (st.push (.cells [.str s,.bool false]) (some 220)).nb 4)) 0) (fun (a6:TV)=>Ag (.int .i64) a6 (fun (a4:Int)=>BId ((59:Int)<a4) (K 0 0 0 0 2 a) (Ah (Ad a [] (.t (.box (st.push (.cells [.str s,.bool false]) (some 220)).nb 5)) 0) (fun (r:TV)=>Ag (.int .i64) r (fun (a5:Int)=>BId ((59:Int)<a5) (K 0 0 0 0 2 a) (Ah (Ad a [] (.t (.box (st.push (.cells [.str s,.bool false]) (some 220)).nb 8)) 0) (fun (a8:TV)=>Ag (.int .i64) a8 (fun (b4:Int)=>BId ((23:Int)<b4) (K 0 0 0 0 2 a) (Ah (Ad a [] (.t (.box (st.push (.cells [.str s,.bool false]) (some 220)).nb 9)) 0) (fun (v:TV)=>Ag (.int .i64) v (fun (a7:Int)=>BId ((59:Int)<a7) (K 0 0 0 0 2 a) (Ah (Ad a [] (.t (.box (st.push (.cells [.str s,.bool false]) (some 220)).nb 3)) 0) (fun (x:TV)=>Ag (.int .i64) x (fun (f:Int)=>Ah (Ad a [] (.t (.box (st.push (.cells [.str s,.bool false]) (some 220)).nb 4)) 0) (fun (b6:TV)=>Ag (.int .i64) b6 (fun (m:Int)=>Ah (Ad a [] (.t (.box (st.push (.cells [.str s,.bool false]) (some 220)).nb 5)) 0) (fun (a9:TV)=>Ag (.int .i64) a9 (fun (j:Int)=>Ah (Ad a [] (.t (.box (st.push (.cells [.str s,.bool false]) (some 220)).nb 6)) 0) (fun (b3:TV)=>Ag (.int .i64) b3 (fun (i:Int)=>Ah (Ad a [] (.t (.box (st.push (.cells [.str s,.bool false]) (some 220)).nb 8)) 0) (fun (z:TV)=>Ag (.int .i64) z (fun (o:Int)=>Ah (Ad a [] (.t (.box (st.push (.cells [.str s,.bool false]) (some 220)).nb 9)) 0) (fun (q:TV)=>Ag (.int .i64) q (fun (e:Int)=>Ah (Ad a [] (.t (.box (st.push (.cells [.str s,.bool false]) (some 220)).nb 7)) 0) (fun (a3:TV)=>Ag (.int .u8) a3 (fun (b7:Int)=>BId (b7=45) (K n1 0 ((i64.wrap ((i64.wrap ((i64.wrap ((i64.wrap ((i64.wrap ((i64.wrap (f*(60:Int)))+m))*(60:Int)))+j))*(1000000000:Int)))+i))) ((i64.wrap (0-(i64.wrap ((i64.wrap (o*(60:Int)))+e))))) 0 a) (K n1 0 ((i64.wrap ((i64.wrap ((i64.wrap ((i64.wrap ((i64.wrap ((i64.wrap (f*(60:Int)))+m))*(60:Int)))+j))*(1000000000:Int)))+i))) ((i64.wrap ((i64.wrap (o*(60:Int)))+e))) 0 a))))))))))))))))))))))))))))))))))))))):CallT PR Dc [.str s] [.agg [.int .i64,.int .i64,.int .i64,.int .i64],.one (.int .i64)] st K:=
 Ae (cfg:=⟨[2,7],[],[]⟩) (h:= .none) mixed (fun _ _=>Tryz.call98 _ _) Tryz.func98 (by kernel_rfl) (by kernel_rfl) h
theorem Qt (t_0:Int) (t_1:Int) (t_2:Int) (t_3:Int) (st:St) (K:V13 (St->Prop)) (h:K 3 false false [] 0 t_0 t_1 t_2 t_3 [] .nilSlice .nilSlice .nilSlice st):CallT PR Fp [(.agg [.int .i64 t_0,.int .i64 t_1,.int .i64 t_2,.int .i64 t_3])] [sV] st K:=
 Ae (cfg:=⟨[1,2],[],[]⟩) (h:= .none) mixed (fun _ _=>Tryz.call99 _ _) Tryz.func99 (by kernel_rfl) (by kernel_rfl) h
theorem Hi (s:B8) (st:St) (K:Bool->Bool->St->Prop) (h:∃(C1:Int->B8->St->Prop),(BId ((0:Int)<(s.length:Int)) (((0<=(0:Int)/\(0:Int)<(s.length:Int))/\BId (((List.getD s (Int.toNat (0:Int)) 0).toNat:Int)=(45:Int)) (C1 ((i64.wrap ((0:Int)+(1:Int)))) s st) (C1 0 s st))) (C1 0 s st))/\∀f g m,C1 f g m->(BId (f=(g.length:Int)) (K false true m) (CallT PR Az [.str g,.int .i64 f] [.one (.int .i64)] m (fun (n1:Int) j=>∃(C2:B8->Int->St->Prop),(BId (n1=f) (K false false j) (((0<=f/\f<(g.length:Int))/\BId (((List.getD g f.toNat 0).toNat:Int)=(48:Int)) (BId ((i64.wrap (f+(1:Int)))<n1) (K false false j) (C2 g n1 j)) (C2 g n1 j))))/\∀e d i,C2 e d i->(∃(C3:Int->B8->St->Prop),(BId (d<(e.length:Int)) (((0<=d/\d<(e.length:Int))/\BId (((List.getD e d.toNat 0).toNat:Int)=(46:Int)) (CallT PR Az [.str e,(.int .i64 (i64.wrap (d+(1:Int))))] [.one (.int .i64)] i (fun (n2:Int) r=>BId (n2=(i64.wrap (d+(1:Int)))) (K false ((decide (n2=(e.length:Int)))) r) (C3 n2 e r))) (C3 d e i))) (C3 d e i))/\∀b a c,C3 b a c->(BId (b<(a.length:Int)) (((0<=b/\b<(a.length:Int))/\BId (((List.getD a b.toNat 0).toNat:Int)=(101:Int)) (BId ((i64.wrap (b+(1:Int)))<(a.length:Int)) (((0<=(i64.wrap (b+(1:Int)))/\(i64.wrap (b+(1:Int)))<(a.length:Int))/\BId (((List.getD a (Int.toNat (i64.wrap (b+(1:Int)))) 0).toNat:Int)=(43:Int)) (CallT PR Az [.str a,(.int .i64 (i64.wrap ((i64.wrap (b+(1:Int)))+(1:Int))))] [.one (.int .i64)] c (fun (n3:Int) v=>BId (n3=(i64.wrap ((i64.wrap (b+(1:Int)))+(1:Int)))) (K false ((decide (n3=(a.length:Int)))) v) (K ((decide (n3=(a.length:Int)))) ((decide (n3=(a.length:Int)))) v))) (((0<=(i64.wrap (b+(1:Int)))/\(i64.wrap (b+(1:Int)))<(a.length:Int))/\BId (((List.getD a (Int.toNat (i64.wrap (b+(1:Int)))) 0).toNat:Int)=(45:Int)) (CallT PR Az [.str a,(.int .i64 (i64.wrap ((i64.wrap (b+(1:Int)))+(1:Int))))] [.one (.int .i64)] c (fun (n4:Int) t=>BId (n4=(i64.wrap ((i64.wrap (b+(1:Int)))+(1:Int)))) (K false ((decide (n4=(a.length:Int)))) t) (K ((decide (n4=(a.length:Int)))) ((decide (n4=(a.length:Int)))) t))) (CallT PR Az [.str a,(.int .i64 (i64.wrap (b+(1:Int))))] [.one (.int .i64)] c (fun (n5:Int) u=>BId (n5=(i64.wrap (b+(1:Int)))) (K false ((decide (n5=(a.length:Int)))) u) (K ((decide (n5=(a.length:Int)))) ((decide (n5=(a.length:Int)))) u))))))) (CallT PR Az [.str a,(.int .i64 (i64.wrap (b+(1:Int))))] [.one (.int .i64)] c (fun (n6:Int) q=>BId (n6=(i64.wrap (b+(1:Int)))) (K false ((decide (n6=(a.length:Int)))) q) (K ((decide (n6=(a.length:Int)))) ((decide (n6=(a.length:Int)))) q)))) (((0<=b/\b<(a.length:Int))/\BId (((List.getD a b.toNat 0).toNat:Int)=(69:Int)) (BId ((i64.wrap (b+(1:Int)))<(a.length:Int)) (((0<=(i64.wrap (b+(1:Int)))/\(i64.wrap (b+(1:Int)))<(a.length:Int))/\BId (((List.getD a (Int.toNat (i64.wrap (b+(1:Int)))) 0).toNat:Int)=(43:Int)) (CallT PR Az [.str a,(.int .i64 (i64.wrap ((i64.wrap (b+(1:Int)))+(1:Int))))] [.one (.int .i64)] c (fun (n7:Int) o=>BId (n7=(i64.wrap ((i64.wrap (b+(1:Int)))+(1:Int)))) (K false ((decide (n7=(a.length:Int)))) o) (K ((decide (n7=(a.length:Int)))) ((decide (n7=(a.length:Int)))) o))) (((0<=(i64.wrap (b+(1:Int)))/\(i64.wrap (b+(1:Int)))<(a.length:Int))/\BId (((List.getD a (Int.toNat (i64.wrap (b+(1:Int)))) 0).toNat:Int)=(45:Int)) (CallT PR Az [.str a,(.int .i64 (i64.wrap ((i64.wrap (b+(1:Int)))+(1:Int))))] [.one (.int .i64)] c (fun (n8:Int) p=>BId (n8=(i64.wrap ((i64.wrap (b+(1:Int)))+(1:Int)))) (K false ((decide (n8=(a.length:Int)))) p) (K ((decide (n8=(a.length:Int)))) ((decide (n8=(a.length:Int)))) p))) (CallT PR Az [.str a,(.int .i64 (i64.wrap (b+(1:Int))))] [.one (.int .i64)] c (fun (n9:Int) l=>BId (n9=(i64.wrap (b+(1:Int)))) (K false ((decide (n9=(a.length:Int)))) l) (K ((decide (n9=(a.length:Int)))) ((decide (n9=(a.length:Int)))) l))))))) (CallT PR Az [.str a,(.int .i64 (i64.wrap (b+(1:Int))))] [.one (.int .i64)] c (fun (k:Int) n=>BId (k=(i64.wrap (b+(1:Int)))) (K false ((decide (k=(a.length:Int)))) n) (K ((decide (k=(a.length:Int)))) ((decide (k=(a.length:Int)))) n)))) (K ((decide (b=(a.length:Int)))) ((decide (b=(a.length:Int)))) c))))) (K ((decide (b=(a.length:Int)))) ((decide (b=(a.length:Int)))) c))))))):CallT PR Cw [.str s] [.one .bool,.one .bool] st K:=
 Ae (cfg:=⟨[],[],[]⟩) (h:=(.seq .none (.seq .none (.cut ⟨[(4,.int .i64),(0,.str)],[],[],[]⟩ .none (.seq .none (.seq .none (.cut ⟨[(0,.str),(5,.int .i64)],[],[],[]⟩ .none (.seq .none (.cut ⟨[(4,.int .i64),(0,.str)],[],[],[]⟩ .none .none))))))))) mixed (fun _ _=>Tryz.call100 _ _) Tryz.func100 (by kernel_rfl) (by kernel_rfl) h
theorem Jx (s:B8) (st:St) (K:Bool->B8->Int->Int->St->Prop) (h:∃(C1:Int->B8->Bool->B8->Int->St->Prop),(BId ((0:Int)<(s.length:Int)) (((0<=(0:Int)/\(0:Int)<(s.length:Int))/\BId (((List.getD s (Int.toNat (0:Int)) 0).toNat:Int)=(45:Int)) (C1 1 s false [] 0 st) (C1 0 s false [] 0 st))) (C1 0 s false [] 0 st))/\∀i a0 b1 s1 n1 d7,C1 i a0 b1 s1 n1 d7->(CallT PR BT [.str a0,.int .i64 i] [.one (.int .i64)] d7 (fun (n2:Int) c5=>∃(C2:B8->Int->Bool->Int->Bool->B8->Int->St->Prop),(BId (n2=i) (K false [] 0 3 c5) (((0<=i/\i<(a0.length:Int))/\BId (((List.getD a0 i.toNat 0).toNat:Int)=(48:Int)) (BId ((i64.wrap (i+(1:Int)))<n2) (K false [] 0 3 c5) (C2 a0 i ((decide (i=1))) n2 b1 s1 n1 c5)) (C2 a0 i ((decide (i=1))) n2 b1 s1 n1 c5))))/\∀p b0 a7 j b2 s2 n3 c7,C2 p b0 a7 j b2 s2 n3 c7->(((0<=b0/\b0<=j/\j<=(p.length:Int))/\∃(C3:Int->B8->Int->B8->Bool->Bool->B8->Int->St->Prop),(∃(C4:Bool->B8->Bool->Int->B8->Int->Bool->B8->Int->St->Prop),(BId (j<(p.length:Int)) (((0<=j/\j<(p.length:Int))/\C4 ((decide (((List.getD p j.toNat 0).toNat:Int)=(46:Int)))) p a7 j ((List.drop b0.toNat (List.take j.toNat p))) 0 b2 s2 n3 c7)) (C4 false p a7 j ((List.drop b0.toNat (List.take j.toNat p))) 0 b2 s2 n3 c7))/\∀d3 y a5 o c c3 b3 s3 n4 c8,C4 d3 y a5 o c c3 b3 s3 n4 c8->(BIf d3 (CallT PR BT [.str y,(.int .i64 (i64.wrap (o+(1:Int))))] [.one (.int .i64)] c8 (fun (n5:Int) d5=>BId (n5=(i64.wrap (o+(1:Int)))) (K false [] 0 3 d5) (((0<=(i64.wrap (o+(1:Int)))/\(i64.wrap (o+(1:Int)))<=n5/\n5<=(y.length:Int))/\(c.length+((List.drop (Int.toNat (i64.wrap (o+(1:Int)))) (List.take n5.toNat y))).length<=9223372036854775807/\C3 n5 ((c++(List.drop (Int.toNat (i64.wrap (o+(1:Int)))) (List.take n5.toNat y)))) ((i64.wrap ((i64.wrap (o+(1:Int)))-n5))) y a5 b3 s3 n4 d5))))) (C3 o c c3 y a5 b3 s3 n4 c8)))/\∀g b t q u b4 s4 n6 c2,C3 g b t q u b4 s4 n6 c2->(∃(C5:Int->Int->B8->Bool->B8->Bool->B8->Int->St->Prop),(∃(C6:Bool->B8->Bool->Int->B8->Int->Bool->B8->Int->St->Prop),(BId (g<(q.length:Int)) (((0<=g/\g<(q.length:Int))/\BId (((List.getD q g.toNat 0).toNat:Int)=(101:Int)) (C6 true q u g b t b4 s4 n6 c2) (((0<=g/\g<(q.length:Int))/\C6 ((decide (((List.getD q g.toNat 0).toNat:Int)=(69:Int)))) q u g b t b4 s4 n6 c2)))) (C6 false q u g b t b4 s4 n6 c2))/\∀d2 z w r d v b5 s5 n7 c4,C6 d2 z w r d v b5 s5 n7 c4->(BIf d2 (∃(C7:Bool->B8->Bool->Int->B8->Int->Bool->B8->Int->St->Prop),(BId ((i64.wrap (r+(1:Int)))<(z.length:Int)) (((0<=(i64.wrap (r+(1:Int)))/\(i64.wrap (r+(1:Int)))<(z.length:Int))/\C7 ((decide (((List.getD z (Int.toNat (i64.wrap (r+(1:Int)))) 0).toNat:Int)=(45:Int)))) z w ((i64.wrap (r+(1:Int)))) d v b5 s5 n7 c4)) (C7 false z w ((i64.wrap (r+(1:Int)))) d v b5 s5 n7 c4))/\∀f k m e a n b6 s6 n8 a9,C7 f k m e a n b6 s6 n8 a9->(∃(C8:Int->B8->Bool->B8->Int->Bool->Bool->B8->Int->St->Prop),(BId (e<(k.length:Int)) (((0<=e/\e<(k.length:Int))/\BId (((List.getD k e.toNat 0).toNat:Int)=(45:Int)) (C8 ((i64.wrap (e+(1:Int)))) k m a n f b6 s6 n8 a9) (((0<=e/\e<(k.length:Int))/\BId (((List.getD k e.toNat 0).toNat:Int)=(43:Int)) (C8 ((i64.wrap (e+(1:Int)))) k m a n f b6 s6 n8 a9) (C8 e k m a n f b6 s6 n8 a9))))) (C8 e k m a n f b6 s6 n8 a9))/\∀a2 a1 a4 l a6 a8 b7 s7 n9 d4,C8 a2 a1 a4 l a6 a8 b7 s7 n9 d4->(CallT PR BT [.str a1,.int .i64 a2] [.one (.int .i64)] d4 (fun (a3:Int) c9=>BId (a3=a2) (K false [] 0 3 c9) (((0<=a2/\a2<=a3/\a3<=(a1.length:Int))/\CallT PR Ds [(.str (List.drop a2.toNat (List.take a3.toNat a1)))] [.one (.int .i64)] c9 (fun (d1:Int) d0=>BIf a8 (C5 a3 ((i64.wrap (a6+(i64.wrap (0-d1))))) a1 a4 l b7 s7 n9 d0) (C5 a3 ((i64.wrap (a6+d1))) a1 a4 l b7 s7 n9 d0)))))))) (C5 r v z w d b5 s5 n7 c4)))/\∀d8 c1 d6 c6 x b8 s8 e0 c0,C5 d8 c1 d6 c6 x b8 s8 e0 c0->(BId (d8<(d6.length:Int)) (K false [] 0 3 c0) (CallT PR CU [.bool c6,.str x,.int .i64 c1] [.agg [.bool,.str,.int .i64],.one (.int .i64)] c0 (fun (b9:Bool) (s9:B8) (e2 e1:Int) d9=>K b9 s9 e2 e1 d9))))))))):CallT PR Du [.str s] [.agg [.bool,.str,.int .i64],.one (.int .i64)] st K:=
 Ae (cfg:=⟨[2],[],[]⟩) (h:=(.seq .none (.seq .none (.cut ⟨[(4,.int .i64),(0,.str)],[(2,0,0)],[(0,3)],[(0,0,.bool),(0,1,.str),(0,2,.int .i64)]⟩ .none (.seq .none (.seq .none (.cut ⟨[(0,.str),(4,.int .i64),(5,.bool),(6,.int .i64)],[(2,0,0)],[(0,3)],[(0,0,.bool),(0,1,.str),(0,2,.int .i64)]⟩ .none (.seq .none (.seq .none (.cut ⟨[(6,.int .i64),(7,.str),(8,.int .i64),(0,.str),(5,.bool)],[(2,0,0)],[(0,3)],[(0,0,.bool),(0,1,.str),(0,2,.int .i64)]⟩ (.cut ⟨[(55,.bool),(0,.str),(5,.bool),(6,.int .i64),(7,.str),(8,.int .i64)],[(2,0,0)],[(0,3)],[(0,0,.bool),(0,1,.str),(0,2,.int .i64)]⟩ .none .none) (.cut ⟨[(6,.int .i64),(8,.int .i64),(0,.str),(5,.bool),(7,.str)],[(2,0,0)],[(0,3)],[(0,0,.bool),(0,1,.str),(0,2,.int .i64)]⟩ (.cut ⟨[(92,.bool),(0,.str),(5,.bool),(6,.int .i64),(7,.str),(8,.int .i64)],[(2,0,0)],[(0,3)],[(0,0,.bool),(0,1,.str),(0,2,.int .i64)]⟩ .none (.cond (.seq .none (.cut ⟨[(10,.bool),(0,.str),(5,.bool),(6,.int .i64),(7,.str),(8,.int .i64)],[(2,0,0)],[(0,3)],[(0,0,.bool),(0,1,.str),(0,2,.int .i64)]⟩ .none (.cut ⟨[(6,.int .i64),(0,.str),(5,.bool),(7,.str),(8,.int .i64),(10,.bool)],[(2,0,0)],[(0,3)],[(0,0,.bool),(0,1,.str),(0,2,.int .i64)]⟩ .none .none))) .none)) .none))))))))))) mixed (fun _ _=>Tryz.call101 _ _) Tryz.func101 (by kernel_rfl) (by kernel_rfl) h
theorem Js (s:B8) (st:St) (K:Int->Int->Int->Int->Int->St->Prop) (h:CallT PR Bf [.str s,.str str21] [.one .bool] st (fun (b1:Bool) l=>BIf (!b1) (CallT PR AL [.str s] [.one (.int .i64),.one .str,.one .bool,.one .bool] l (fun (n1:Int) (s1:B8) (b2 b3:Bool) i=>BIf (!b2) (K 0 0 0 0 3 i) (BId (s1≠([]:B8)) (K 0 0 0 0 3 i) (BIf (!b3) (K 0 0 0 0 2 i) (K 2 0 n1 0 0 i))))) (((0<=(4:Int)/\(4:Int)<=(s.length:Int))/\((0<=(5:Int)/\(5:Int)<=(7:Int)/\(7:Int)<=(s.length:Int))/\((0<=(8:Int)/\(8:Int)<=(10:Int)/\(10:Int)<=(s.length:Int))/\CallT PR At [(.str (List.take (Int.toNat (4:Int)) s))] [.one (.int .i64)] l (fun (n2:Int) p=>CallT PR At [(.str (List.drop (Int.toNat (5:Int)) (List.take (Int.toNat (7:Int)) s)))] [.one (.int .i64)] p (fun (n3:Int) t=>CallT PR At [(.str (List.drop (Int.toNat (8:Int)) (List.take (Int.toNat (10:Int)) s)))] [.one (.int .i64)] t (fun (n4:Int) r=>CallT PR D7 [.int .i64 n2,.int .i64 n3,.int .i64 n4] [.one (.int .i64),.one (.int .i64)] r (fun (n5 n6:Int) e=>((0<=(10:Int)/\(10:Int)<=(s.length:Int))/\BId ((List.drop (Int.toNat (10:Int)) s)=([]:B8)) (BId (n6≠0) (K 0 0 0 0 n6 e) (K 1 n5 0 0 0 e)) (((0<=(0:Int)/\(0:Int)<(((List.drop (Int.toNat (10:Int)) s)).length:Int))/\BId (((List.getD (List.drop (Int.toNat (10:Int)) s) (Int.toNat (0:Int)) 0).toNat:Int)≠(84:Int)) (((0<=(0:Int)/\(0:Int)<(((List.drop (Int.toNat (10:Int)) s)).length:Int))/\BId (((List.getD (List.drop (Int.toNat (10:Int)) s) (Int.toNat (0:Int)) 0).toNat:Int)≠(116:Int)) (((0<=(0:Int)/\(0:Int)<(((List.drop (Int.toNat (10:Int)) s)).length:Int))/\BId (((List.getD (List.drop (Int.toNat (10:Int)) s) (Int.toNat (0:Int)) 0).toNat:Int)≠(32:Int)) (K 0 0 0 0 3 e) (((0<=(1:Int)/\(1:Int)<=(((List.drop (Int.toNat (10:Int)) s)).length:Int))/\CallT PR AL [(.str (List.drop (Int.toNat (1:Int)) (List.drop (Int.toNat (10:Int)) s)))] [.one (.int .i64),.one .str,.one .bool,.one .bool] e (fun (n7:Int) (s2:B8) (b4 b5:Bool) g=>BIf (!b4) (K 0 0 0 0 3 g) (BId (s2≠([]:B8)) (CallT PR AR [.str s2] [.one (.int .i64),.one .bool,.one .bool] g (fun (n8:Int) (b6 b7:Bool) d=>BIf (!b6) (K 0 0 0 0 3 d) (BIf b5 (BId (n6≠0) (K 0 0 0 0 2 d) (BIf (!b7) (K 0 0 0 0 2 d) (K 4 n5 n7 n8 0 d))) (BId (n6≠0) (K 0 0 0 0 2 d) (K 0 0 0 0 2 d))))) (BId (n6≠0) (K 0 0 0 0 2 g) (BIf (!b5) (K 0 0 0 0 2 g) (K 3 n5 n7 0 0 g))))))))) (((0<=(1:Int)/\(1:Int)<=(((List.drop (Int.toNat (10:Int)) s)).length:Int))/\CallT PR AL [(.str (List.drop (Int.toNat (1:Int)) (List.drop (Int.toNat (10:Int)) s)))] [.one (.int .i64),.one .str,.one .bool,.one .bool] e (fun (n9:Int) (s3:B8) (b8 b9:Bool) f=>BIf (!b8) (K 0 0 0 0 3 f) (BId (s3≠([]:B8)) (CallT PR AR [.str s3] [.one (.int .i64),.one .bool,.one .bool] f (fun (u:Int) (o q:Bool) b=>BIf (!o) (K 0 0 0 0 3 b) (BIf b9 (BId (n6≠0) (K 0 0 0 0 2 b) (BIf (!q) (K 0 0 0 0 2 b) (K 4 n5 n9 u 0 b))) (BId (n6≠0) (K 0 0 0 0 2 b) (K 0 0 0 0 2 b))))) (BId (n6≠0) (K 0 0 0 0 2 f) (BIf (!b9) (K 0 0 0 0 2 f) (K 3 n5 n9 0 0 f))))))))) (((0<=(1:Int)/\(1:Int)<=(((List.drop (Int.toNat (10:Int)) s)).length:Int))/\CallT PR AL [(.str (List.drop (Int.toNat (1:Int)) (List.drop (Int.toNat (10:Int)) s)))] [.one (.int .i64),.one .str,.one .bool,.one .bool] e (fun (j:Int) (s4:B8) (w k:Bool) c=>BIf (!w) (K 0 0 0 0 3 c) (BId (s4≠([]:B8)) (CallT PR AR [.str s4] [.one (.int .i64),.one .bool,.one .bool] c (fun (m:Int) (v n:Bool) a=>BIf (!v) (K 0 0 0 0 3 a) (BIf k (BId (n6≠0) (K 0 0 0 0 2 a) (BIf (!n) (K 0 0 0 0 2 a) (K 4 n5 j m 0 a))) (BId (n6≠0) (K 0 0 0 0 2 a) (K 0 0 0 0 2 a))))) (BId (n6≠0) (K 0 0 0 0 2 c) (BIf (!k) (K 0 0 0 0 2 c) (K 3 n5 j 0 0 c)))))))))))))))))))):CallT PR Dr [.str s] [.agg [.int .i64,.int .i64,.int .i64,.int .i64],.one (.int .i64)] st K:=
 Ae (cfg:=⟨[2,14],[],[]⟩) (h:= .none) mixed (fun _ _=>Tryz.call102 _ _) Tryz.func102 (by kernel_rfl) (by kernel_rfl) h
theorem R8 (v_0:Int) (v_1:Bool) (v_2:Bool) (v_3:B8) (v_4:Int) (v_5:Int) (v_6:Int) (v_7:Int) (v_8:Int) (v_9:B8) (v_10:TV) (v_11:TV) (v_12:TV) (d_0:Int) (d_1:Int) (d_2:Bool) (d_3:Bool) (st:St) (K:B8->Int->St->Prop) (h:CallT PR B3 [(.agg [.int .u8 d_0,.int .u8 d_1,.bool d_2,.bool d_3])] [.one .bool] st (fun (b1:Bool) b=>BIf (!b1) (K [] 1 b) (CallT PR EK [(.agg (cV v_0 v_1 v_2 v_3 v_4 v_5 v_6 v_7 v_8 v_9 v_10 v_11 v_12))] [.one (.int .i64)] b (fun (n1:Int) c=>BId (n1≠0) (K [] n1 c) (CallT PR GF [(.agg (cV v_0 v_1 v_2 v_3 v_4 v_5 v_6 v_7 v_8 v_9 v_10 v_11 v_12)),(.agg [.int .u8 d_0,.int .u8 d_1,.bool d_2,.bool d_3])] [.one .bool] c (fun (b2:Bool) a=>BIf (!b2) (K [] 27 a) (CallT PR IJ [(.agg (cV v_0 v_1 v_2 v_3 v_4 v_5 v_6 v_7 v_8 v_9 v_10 v_11 v_12)),(.agg [.int .u8 d_0,.int .u8 d_1,.bool d_2,.bool d_3])] [.one .str,.one (.int .i64)] a (fun (s1:B8) (n2:Int) d=>K s1 n2 d)))))))):CallT PR Ga [(.agg (cV v_0 v_1 v_2 v_3 v_4 v_5 v_6 v_7 v_8 v_9 v_10 v_11 v_12)),(.agg [.int .u8 d_0,.int .u8 d_1,.bool d_2,.bool d_3])] [.one .str,.one (.int .i64)] st K:=
 Ae (cfg:=⟨[2,3],[],[]⟩) (h:= .none) mixed (fun _ _=>Tryz.call114 _ _) Tryz.func114 (by kernel_rfl) (by kernel_rfl) h
theorem JR (l:TV) (d_0:Int) (d_1:Int) (d_2:Bool) (d_3:Bool) (st:St) (K:B8->St->Prop) (h:∃(I1:B8->Int->TV->Int->Int->Bool->Bool->St->Prop) (M1:B8->Int->TV->Int->Int->Bool->Bool->St->Nat),(I1 [] 0 l d_0 d_1 d_2 d_3 st)/\∀a b c n1 n2 b1 b2 d,I1 a b c n1 n2 b1 b2 d->(need (isSl c) (BId (b<(lenS c:Int)) (BId ((0:Int)<b) (Ah ((toBytes d (.list 1 .full 1 [.int .u8 n1])).map TV.str) (fun (x1:TV)=>Ag .str x1 (fun (s1:B8)=>(a.length+s1.length<=9223372036854775807/\((0<=b/\b<(lenZ 1 c:Int))/\Ah (Ad d [] (.t (ixT 1 c b.toNat)) 0) (fun (x2:TV)=>Ag .str x2 (fun (s2:B8)=>(((a++s1)).length+s2.length<=9223372036854775807/\(I1 (((a++s1)++s2)) ((i64.wrap (b+(1:Int)))) c n1 n2 b1 b2 d/\M1 (((a++s1)++s2)) ((i64.wrap (b+(1:Int)))) c n1 n2 b1 b2 d<M1 a b c n1 n2 b1 b2 d))))))))) (((0<=b/\b<(lenZ 1 c:Int))/\Ah (Ad d [] (.t (ixT 1 c b.toNat)) 0) (fun (x3:TV)=>Ag .str x3 (fun (s3:B8)=>(a.length+s3.length<=9223372036854775807/\(I1 ((a++s3)) ((i64.wrap (b+(1:Int)))) c n1 n2 b1 b2 d/\M1 ((a++s3)) ((i64.wrap (b+(1:Int)))) c n1 n2 b1 b2 d<M1 a b c n1 n2 b1 b2 d))))))) ((a.length+str1.length<=9223372036854775807/\K ((a++str1)) d))))):CallT PR Cp [l,(.agg [.int .u8 d_0,.int .u8 d_1,.bool d_2,.bool d_3])] [.one .str] st K:=
 Ae (cfg:=⟨[3],[],[]⟩) (h:=(.seq .none (.seq .none (.seq (.seq .none (.block (.loop ⟨[(5,.str),(6,.int .i64),(0,.tv)],[(3,0,0)],[(0,4)],[(0,0,.int .u8),(0,1,.int .u8),(0,2,.bool),(0,3,.bool)]⟩ .none))) .none)))) mixed (fun _ _=>Tryz.call115 _ _) Tryz.func115 (by kernel_rfl) (by kernel_rfl) h
theorem Je (x_0:Int) (x_1:Bool) (x_2:Bool) (x_3:B8) (x_4:Int) (x_5:Int) (x_6:Int) (x_7:Int) (x_8:Int) (x_9:B8) (x_10:TV) (x_11:TV) (x_12:TV) (first_0:Int) (first_1:Bool) (first_2:Bool) (first_3:B8) (first_4:Int) (first_5:Int) (first_6:Int) (first_7:Int) (first_8:Int) (first_9:B8) (first_10:TV) (first_11:TV) (first_12:TV) (d_0:Int) (d_1:Int) (d_2:Bool) (d_3:Bool) (st:St) (K:TV->Bool->St->Prop) (h:BIf (!d_2) (BId (x_0=6) (need (isSl x_11) (BId ((0:Int)<(lenS x_11:Int)) (need (isSl x_11) (need (isSl first_11) (K x_11 ((decide ((lenS x_11:Int)=(lenS first_11:Int)))) st))) (K x_11 false st))) (K x_11 false st)) (∃(I1:TV->Int->V13 (V13 (St->Prop))) (M1:TV->Int->V13 (V13 (St->Nat))),(I1 .nilSlice 0 x_0 x_1 x_2 x_3 x_4 x_5 x_6 x_7 x_8 x_9 x_10 x_11 x_12 first_0 first_1 first_2 first_3 first_4 first_5 first_6 first_7 first_8 first_9 first_10 first_11 first_12 st)/\∀a b n1 b1 b2 s1 n2 n3 n4 n5 n6 s2 v1 v2 v3 n7 b3 b4 s3 n8 n9 e f d s4 v4 v5 v6 c,I1 a b n1 b1 b2 s1 n2 n3 n4 n5 n6 s2 v1 v2 v3 n7 b3 b4 s3 n8 n9 e f d s4 v4 v5 v6 c->(need (isSl v6) (BId (b<(lenS v6:Int)) (((0<=b/\b<(lenZ 14 v6:Int))/\need (isPtr (ixT 14 v6 b.toNat)) (Ah (Ad c [] (.t (Ao (ixT 14 v6 b.toNat) 0)) 0) (fun (x1:TV)=>Ag .str x1 (fun (s5:B8)=>CallT PR Dp [(.agg (cV n1 b1 b2 s1 n2 n3 n4 n5 n6 s2 v1 v2 v3)),.str s5] [sV,.one .bool] c (fun (g:Int) (b5 b6:Bool) (s6:B8) (j i m l k:Int) (s7:B8) (v7 v8 v9:TV) (b7:Bool) n=>need (List.all (cV g b5 b6 s6 j i m l k s7 v7 v8 v9) As) (BIf (!b7) (K .nilSlice false n) (need (List.all (cV g b5 b6 s6 j i m l k s7 v7 v8 v9) As) (Bs 63 13 168 a 1 (cV g b5 b6 s6 j i m l k s7 v7 v8 v9) n (fun (p:TV) o=>(I1 p ((i64.wrap (b+(1:Int)))) n1 b1 b2 s1 n2 n3 n4 n5 n6 s2 v1 v2 v3 n7 b3 b4 s3 n8 n9 e f d s4 v4 v5 v6 o/\M1 p ((i64.wrap (b+(1:Int)))) n1 b1 b2 s1 n2 n3 n4 n5 n6 s2 v1 v2 v3 n7 b3 b4 s3 n8 n9 e f d s4 v4 v5 v6 o<M1 a b n1 b1 b2 s1 n2 n3 n4 n5 n6 s2 v1 v2 v3 n7 b3 b4 s3 n8 n9 e f d s4 v4 v5 v6 c))))))))))) (BId (n1=7) (need (isSl a) (BId ((0:Int)<(lenS a:Int)) (need (isSl v3) (need (isSl a) (K a ((decide ((lenS v3:Int)=(lenS a:Int)))) c))) (K a false c))) (K a false c)))))):CallT PR Ca [(.agg (cV x_0 x_1 x_2 x_3 x_4 x_5 x_6 x_7 x_8 x_9 x_10 x_11 x_12)),(.agg (cV first_0 first_1 first_2 first_3 first_4 first_5 first_6 first_7 first_8 first_9 first_10 first_11 first_12)),(.agg [.int .u8 d_0,.int .u8 d_1,.bool d_2,.bool d_3])] [.one .tv,.one .bool] st K:=
 Ae (cfg:=⟨[3,4,5,10],[],[49]⟩) (h:=(.seq .none (.seq .none (.seq .none (.seq (.seq .none (.block (.loop ⟨[(8,.tv),(9,.int .i64)],[(3,0,0),(4,1,0)],[(0,13),(1,13)],[(0,0,.int .i64),(0,1,.bool),(0,2,.bool),(0,3,.str),(0,4,.int .i64),(0,5,.int .i64),(0,6,.int .i64),(0,7,.int .i64),(0,8,.int .i64),(0,9,.str),(0,10,.tv),(0,11,.tv),(0,12,.tv),(1,0,.int .i64),(1,1,.bool),(1,2,.bool),(1,3,.str),(1,4,.int .i64),(1,5,.int .i64),(1,6,.int .i64),(1,7,.int .i64),(1,8,.int .i64),(1,9,.str),(1,10,.tv),(1,11,.tv),(1,12,.tv)]⟩ .none))) .none))))) mixed (fun _ _=>Tryz.call116 _ _) Tryz.func116 (by kernel_rfl) (by kernel_rfl) h
theorem Bt (b:Nat) (st:St) (K:B8->St->Prop) (h:Ah (Ad st [] (.t (.box b 1)) 0) (fun (v1:TV)=>Ah (Nj v1) (fun (v2:TV)=>Ah (Ad st [] (.t (.box b 1)) 0) (fun (v3:TV)=>need (isSl v3) (usK 5 v2 (lenS v3:Int) st (fun (s1:B8) a=>K s1 a)))))):CallT PR AV [(.box b 0)] [.one .str] st K:=
 Ae (cfg:=⟨[],[],[]⟩) (h:= .none) mixed (fun _ _=>Tryz.call123 _ _) Tryz.func123 (by kernel_rfl) (by kernel_rfl) h
theorem OV (v_0:Int) (d:Bool) (e:Bool) (v_3:B8) (v_4:Int) (v_5:Int) (v_6:Int) (v_7:Int) (v_8:Int) (v_9:B8) (v_10:TV) (v_11:TV) (v_12:TV) (depth:Int) (n:Nat) (st:St) (K:Int->St->Prop) (h:Ah (Ad st [] (.t (.box n 0)) 0) (fun (x1:TV)=>Ag (.int .i64) x1 (fun (n1:Int)=>stB st (.box n 0) [(.int .i64 (i64.wrap (n1+(1:Int))))] (fun o=>∃(C1:Int->TV->V13 (St->Prop)),(BId ((48:Int)<depth) (K 9 o) (Ah (Ad o [] (.t (.box n 0)) 0) (fun (x2:TV)=>Ag (.int .i64) x2 (fun (n2:Int)=>BId ((65536:Int)<n2) (K 10 o) (∃(C2:Bool->Int->TV->V13 (St->Prop)),(BId (v_0<0) (C2 true depth ((.box n 0)) v_0 d e v_3 v_4 v_5 v_6 v_7 v_8 v_9 v_10 v_11 v_12 o) (BId ((8:Int)<=v_0) (C2 true depth ((.box n 0)) v_0 d e v_3 v_4 v_5 v_6 v_7 v_8 v_9 v_10 v_11 v_12 o) (CallT PR GC [(.agg (cV v_0 d e v_3 v_4 v_5 v_6 v_7 v_8 v_9 v_10 v_11 v_12))] [.one .bool] o (fun (b1:Bool) g8=>C2 b1 depth ((.box n 0)) v_0 d e v_3 v_4 v_5 v_6 v_7 v_8 v_9 v_10 v_11 v_12 g8))))/\∀e9 b q n3 b2 b3 s1 n4 n5 n6 n7 n8 s2 v1 v2 v3 w,C2 e9 b q n3 b2 b3 s1 n4 n5 n6 n7 n8 s2 v1 v2 v3 w->(BIf e9 (K 6 w) (∃(C3:Bool->Int->TV->V13 (St->Prop)),(BId (n3=2) (CallT PR DV [(.agg [.bool b3,.str s1,.int .i64 n4])] [.one .bool] w (fun (b4:Bool) c6=>BIf (!b4) (C3 true b q n3 b2 b3 s1 n4 n5 n6 n7 n8 s2 v1 v2 v3 c6) (BId (n3=3) (CallT PR Db [(.agg [.int .i64 n5,.int .i64 n6,.int .i64 n7,.int .i64 n8])] [.one .bool] c6 (fun (b5:Bool) g9=>C3 ((!b5)) b q n3 b2 b3 s1 n4 n5 n6 n7 n8 s2 v1 v2 v3 g9)) (C3 false b q n3 b2 b3 s1 n4 n5 n6 n7 n8 s2 v1 v2 v3 c6)))) (BId (n3=3) (CallT PR Db [(.agg [.int .i64 n5,.int .i64 n6,.int .i64 n7,.int .i64 n8])] [.one .bool] w (fun (b6:Bool) h0=>C3 ((!b6)) b q n3 b2 b3 s1 n4 n5 n6 n7 n8 s2 v1 v2 v3 h0)) (C3 false b q n3 b2 b3 s1 n4 n5 n6 n7 n8 s2 v1 v2 v3 w)))/\∀e0 f c5 n9 b7 b8 s3 c0 c4 c1 b0 c3 s4 v4 v5 v6 m,C3 e0 f c5 n9 b7 b8 s3 c0 c4 c1 b0 c3 s4 v4 v5 v6 m->(BIf e0 (K 2 m) (BId (n9=4) (CallT PR EL [.str s4] [.one .bool] m (fun (b9:Bool) a9=>BIf (!b9) (K 5 a9) (BId ((65536:Int)<(s4.length:Int)) (K 10 a9) (need (isSl v4) (BId ((65536:Int)<(lenS v4:Int)) (K 10 a9) (C1 f c5 n9 b7 b8 s3 c0 c4 c1 b0 c3 s4 v4 v5 v6 a9)))))) (BId ((65536:Int)<(s4.length:Int)) (K 10 m) (need (isSl v4) (BId ((65536:Int)<(lenS v4:Int)) (K 10 m) (C1 f c5 n9 b7 b8 s3 c0 c4 c1 b0 c3 s4 v4 v5 v6 m)))))))))))))/\∀p e5 g0 d9 g3 s5 g4 f1 d6 d3 g2 s6 v7 v8 v9 g5,C1 p e5 g0 d9 g3 s5 g4 f1 d6 d3 g2 s6 v7 v8 v9 g5->(CallT PR Hq [v9] [.one (.int .i64)] g5 (fun (d0:Int) c2=>BId (d0≠0) (K d0 c2) (need (isSl v8) (∃(I1:Int->Int->TV->TV->Int->V13 (St->Prop)) (M1:Int->Int->TV->TV->Int->V13 (St->Nat)),(I1 0 p e5 v8 ((lenS v8:Int)) g0 d9 g3 s5 g4 f1 d6 d3 g2 s6 v7 v8 v9 c2)/\∀i a r d v a8 a2 a0 s7 a7 a3 a6 a1 a4 s8 a5 z j k,I1 i a r d v a8 a2 a0 s7 a7 a3 a6 a1 a4 s8 a5 z j k->(BId (i<v) (((0<=i/\i<(lenZ 13 d:Int))/\Ah ((Ai k [] (.t (ixT 13 d i.toNat)) 0 13).map TV.agg) (fun (x3:TV)=>AO [.int .i64,.bool,.bool,.str,.int .i64,.int .i64,.int .i64,.int .i64,.int .i64,.str,.tv,.tv,.tv] x3 (fun (g6:Int) (f3 c8:Bool) (s9:B8) (e6 f2 e1 f0 e2:Int) (c7:B8) (d7 f8 e4:TV)=>need (List.all (cV g6 f3 c8 s9 e6 f2 e1 f0 e2 c7 d7 f8 e4) As) (CallT PR DF [(.agg (cV g6 f3 c8 s9 e6 f2 e1 f0 e2 c7 d7 f8 e4)),(.int .i64 (i64.wrap (a+(1:Int)))),r] [.one (.int .i64)] k (fun (e7:Int) x=>BId (e7≠0) (K e7 x) ((I1 ((i64.wrap (i+(1:Int)))) a r d v a8 a2 a0 s7 a7 a3 a6 a1 a4 s8 a5 z j x/\M1 ((i64.wrap (i+(1:Int)))) a r d v a8 a2 a0 s7 a7 a3 a6 a1 a4 s8 a5 z j x<M1 i a r d v a8 a2 a0 s7 a7 a3 a6 a1 a4 s8 a5 z j k)))))))) (need (isSl j) (∃(I2:Int->Int->TV->TV->Int->St->Prop) (M2:Int->Int->TV->TV->Int->St->Nat),(I2 0 a r j ((lenS j:Int)) k)/\∀g c s e u l,I2 g c s e u l->(BId (g<u) (((0<=g/\g<(lenZ 14 e:Int))/\Ah ((Ai l [] (.t (ixT 14 e g.toNat)) 0 14).map TV.agg) (fun (x4:TV)=>AO [.str,.int .i64,.bool,.bool,.str,.int .i64,.int .i64,.int .i64,.int .i64,.int .i64,.str,.tv,.tv,.tv] x4 (fun (g7:B8) (g1:Int) (d1 d8:Bool) (f6:B8) (e3 f5 c9 d4 d2:Int) (f7:B8) (d5 f4 e8:TV)=>need (List.all [.str g7,.int .i64 g1,.bool d1,.bool d8,.str f6,.int .i64 e3,.int .i64 f5,.int .i64 c9,.int .i64 d4,.int .i64 d2,.str f7,d5,f4,e8] As) (CallT PR DF [(.agg (cV g1 d1 d8 f6 e3 f5 c9 d4 d2 f7 d5 f4 e8)),(.int .i64 (i64.wrap (c+(1:Int)))),s] [.one (.int .i64)] l (fun (f9:Int) y=>BId (f9≠0) (K f9 y) ((I2 ((i64.wrap (g+(1:Int)))) c s e u y/\M2 ((i64.wrap (g+(1:Int)))) c s e u y<M2 g c s e u l)))))))) (K 0 l))))))))))))):CallT PR DF [(.agg (cV v_0 d e v_3 v_4 v_5 v_6 v_7 v_8 v_9 v_10 v_11 v_12)),.int .i64 depth,(.box n 0)] [.one (.int .i64)] st K:=
 Ae (cfg:=⟨[3,9,12],[],[]⟩) (h:=(.seq .none (.seq .none (.cut ⟨[(1,.int .i64),(2,.tv)],[(3,0,0)],[(0,13)],[(0,0,.int .i64),(0,1,.bool),(0,2,.bool),(0,3,.str),(0,4,.int .i64),(0,5,.int .i64),(0,6,.int .i64),(0,7,.int .i64),(0,8,.int .i64),(0,9,.str),(0,10,.tv),(0,11,.tv),(0,12,.tv)]⟩ (.block (.seq .none (.cond .none (.seq .none (.cond .none (.cut ⟨[(27,.bool),(1,.int .i64),(2,.tv)],[(3,0,0)],[(0,13)],[(0,0,.int .i64),(0,1,.bool),(0,2,.bool),(0,3,.str),(0,4,.int .i64),(0,5,.int .i64),(0,6,.int .i64),(0,7,.int .i64),(0,8,.int .i64),(0,9,.str),(0,10,.tv),(0,11,.tv),(0,12,.tv)]⟩ .none (.cond .none (.cut ⟨[(40,.bool),(1,.int .i64),(2,.tv)],[(3,0,0)],[(0,13)],[(0,0,.int .i64),(0,1,.bool),(0,2,.bool),(0,3,.str),(0,4,.int .i64),(0,5,.int .i64),(0,6,.int .i64),(0,7,.int .i64),(0,8,.int .i64),(0,9,.str),(0,10,.tv),(0,11,.tv),(0,12,.tv)]⟩ .none .none)))))))) (.seq .none (.seq (.seq .none (.block (.loop ⟨[(91,.int .i64),(1,.int .i64),(2,.tv),(89,.tv),(90,.int .i64)],[(3,0,0)],[(0,13)],[(0,0,.int .i64),(0,1,.bool),(0,2,.bool),(0,3,.str),(0,4,.int .i64),(0,5,.int .i64),(0,6,.int .i64),(0,7,.int .i64),(0,8,.int .i64),(0,9,.str),(0,10,.tv),(0,11,.tv),(0,12,.tv)]⟩ .none))) (.seq (.seq .none (.block (.loop ⟨[(107,.int .i64),(1,.int .i64),(2,.tv),(105,.tv),(106,.int .i64)],[],[],[]⟩ .none))) .none))))))) mixed (fun _ _=>Tryz.call124 _ _) Tryz.func124 (by kernel_rfl) (by kernel_rfl) h
theorem Qw (s:B8) (atx:Int) (st:St) (K:Int->Int->St->Prop) (h:BId (atx<0) (K 0 0 st) (BId ((s.length:Int)<=atx) (K 0 0 st) (((0<=atx/\atx<(s.length:Int))/\CallT PR Kt [(.int .u8 ((List.getD s atx.toNat 0).toNat:Int))] [.one (.int .i64),.one (.int .i64)] st (fun (n1 n2:Int) g=>BId (n1=0) (K 0 0 g) (BId ((i64.wrap ((s.length:Int)-atx))<n1) (K 0 0 g) (∃(I1:Int->Int->B8->Int->Int->St->Prop) (M1:Int->Int->B8->Int->Int->St->Nat),(I1 n2 1 s atx n1 g)/\∀e b c a d f,I1 e b c a d f->(BId (b<d) (((0<=(i64.wrap (a+b))/\(i64.wrap (a+b))<(c.length:Int))/\BId ((AN .and .u8 ((List.getD c (Int.toNat (i64.wrap (a+b))) 0).toNat:Int) (192:Int))≠(128:Int)) (K 0 0 f) ((I1 ((AN .or .i64 (i64.wrap (e*2^(min (Int.toNat (6:Int)) (IntKind.bits .i64)))) (i64.wrap (AN .and .u8 ((List.getD c (Int.toNat (i64.wrap (a+b))) 0).toNat:Int) (63:Int))))) ((i64.wrap (b+(1:Int)))) c a d f/\M1 ((AN .or .i64 (i64.wrap (e*2^(min (Int.toNat (6:Int)) (IntKind.bits .i64)))) (i64.wrap (AN .and .u8 ((List.getD c (Int.toNat (i64.wrap (a+b))) 0).toNat:Int) (63:Int))))) ((i64.wrap (b+(1:Int)))) c a d f<M1 e b c a d f)))) (CallT PR Hs [.int .i64 e] [.one .bool] f (fun (b1:Bool) i=>BIf (!b1) (K 0 0 i) (CallT PR IH [.int .i64 e] [.one (.int .i64)] i (fun (n3:Int) j=>BId (n3≠d) (K 0 0 j) (K e d j))))))))))))):CallT PR Fq [.str s,.int .i64 atx] [.one (.int .i64),.one (.int .i64)] st K:=
 Ae (cfg:=⟨[],[],[]⟩) (h:=(.seq .none (.seq .none (.seq .none (.seq .none (.seq (.seq .none (.block (.loop ⟨[(4,.int .i64),(7,.int .i64),(0,.str),(1,.int .i64),(6,.int .i64)],[],[],[]⟩ .none))) .none)))))) mixed (fun _ _=>Tryz.call133 _ _) Tryz.func133 (by kernel_rfl) (by kernel_rfl) h
end Go.TVF
