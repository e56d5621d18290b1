/- What the laws below rest on: a framework for Go programs, and contracts of the functions that they reach. -/
import Derived.Test.YtpfhcnpnngjpnaaGreatDoorGgB
import Derived.Deep.Slices
import Derived.WideShapes
import Derived.ChangeArms
import Derived.OpenShut
import Derived.Test.YtpfhcnpnngjpnaaGreatDoorProg
import Derived.KernelRfl
set_option maxRecDepth 20000
set_option linter.unusedVariables false
set_option linter.unusedSimpArgs false
section
namespace Go.TVF
open Go.IntKind(i64 u8)
open Go.RowKit (Below)
theorem Tu {P:Program} {Q:Exit->Act->World->Prop} {a:Act} {w:World} {c:Code} (I:Nat->Act->World->Prop) (h₀:∃m,I m a w)
  (round:∀m a w,I m a w->c.wp P (Exit.then (fun a' w'=>∃m',m'<m/\I m' a' w') Q) a w):(Code.loop c).wp P Q a w:=by
 intro b k cs
 have key:∀m a w,I m a w->∃e a' w',Q e a' w'/\Arrives P (lone (b.at a (.code c:: .inLoop c::k)) cs w) b k cs e a' w':=by
  intro m
  induction m using Nat.strongRecOn with
  | _ m ih=>
   intro a w hI
   obtain⟨e,a₁,w₁,hq,harr⟩:=round m a w hI b (.inLoop c::k) cs
   cases e with
   | normal=>
    obtain⟨m',hlt,hI₁⟩:=hq
    obtain⟨e₂,a₂,w₂,hq₂,harr₂⟩:=ih m' hlt a₁ w₁ hI₁
    exact⟨e₂,a₂,w₂,hq₂,.of_steps (Steps.trans harr (.one step_inLoop)) harr₂⟩
   | exit id=>exact⟨_,a₁,w₁,hq,.pass (x:= .inLoop c) rfl (fun _ _=> .inl (by simp)) harr⟩
   | goto l=>exact⟨_,a₁,w₁,hq,.pass (x:= .inLoop c) rfl (fun _ _=> .inl (by simp)) harr⟩
   | ret=>exact⟨_,a₁,w₁,hq,.pass (x:= .inLoop c) rfl (fun _ _=> .inl (by simp)) harr⟩
   | panic ch=>exact⟨_,a₁,w₁,hq,.pass (x:= .inLoop c) rfl (fun _ _=> .inl (by simp)) harr⟩
   | outgrown=>exact⟨_,a₁,w₁,hq,.pass (x:= .inLoop c) rfl (fun _ _=> .inl (by simp)) harr⟩
 obtain⟨m,hm⟩:=h₀
 obtain⟨e,a',w',hq,harr⟩:=key m a w hm
 exact⟨e,a',w',hq,.of_steps (.one step_loop) harr⟩
theorem P2:∀{cs:List CTy} {vs:List TV} {I:Fun cs (St->Prop)} {M:Fun cs (St->Nat)} {B:List TV->Nat->St->Prop} {st:St},AllC cs I M B->Kp cs vs I (fun p=>p st)->∃m,B vs m st
 | [],[],I,M,B,st,h,hd=>⟨_,h st hd⟩
 | [],_::_,I,M,B,st,h,hd=>hd.elim
 | _::_,[],I,M,B,st,h,hd=>hd.elim
 | c::cs,v::vs,I,M,B,st,h,hd=>by
  obtain⟨y,rfl,hd2⟩:=Ej hd
  exact P2 (B:=fun l=>B (enc c y::l)) (h y) hd2
theorem RY:∀{cs:List CTy} {vs:List TV} {I:Fun cs (St->Prop)} {M:Fun cs (St->Nat)} {B:List TV->Nat->St->Prop} {st:St} {m:Nat},AllC cs I M B->U4 cs vs I M (fun p q=>p st/\q st<m)->∃m',m'<m/\B vs m' st
 | [],[],I,M,B,st,m,h,hd=>⟨_,hd.2,h st hd.1⟩
 | [],_::_,I,M,B,st,m,h,hd=>hd.elim
 | _::_,[],I,M,B,st,m,h,hd=>hd.elim
 | c::cs,v::vs,I,M,B,st,m,h,hd=>by
  obtain⟨y,rfl,hd2⟩:=Ej hd
  exact RY (B:=fun l=>B (enc c y::l)) (h y) hd2
theorem Nq:∀{cs:List CTy} {vs:List TV} {I:Fun cs (St->Prop)} {B:List TV->St->Prop} {st:St},AllC1 cs I B->Kp cs vs I (fun p=>p st)->B vs st
 | [],[],I,B,st,h,hd=>h st hd
 | [],_::_,I,B,st,h,hd=>hd.elim
 | _::_,[],I,B,st,h,hd=>hd.elim
 | c::cs,v::vs,I,B,st,h,hd=>by
  obtain⟨y,rfl,hd2⟩:=Ej hd
  exact Nq (B:=fun l=>B (enc c y::l)) (h y) hd2
def QPost (g:Ghost) (w:World) (a0:Act) (Q:Exit->Fr->St->Prop) (e:Exit) (a:Act) (w':World):Prop:=Kr g w a0 (Q e) a w'
section
variable {P:Program} {cfg:Cfg} {ns nl:Nat}
theorem Y7 (hm:P.follows .mixedOrders=true):∀(c:Code) (h:JG) (Q:Exit->Fr->St->Prop) (fr:Fr) (st:St) (g:Ghost) (w:World) (a:Act),cwp cfg P ns nl c h Q fr st->Sim g st fr.loc w->Gv g w fr a.tmps->a.tmps.size=ns->
  c.wp P (QPost g w a Q) a w:=by
 intro c
 induction c with
 | skip=>intro h Q fr st g w a hc s hf hn;exact wp_skip ⟨fr,st,g,hc,s,hf,Ext.refl _ _,rfl,rfl⟩
 | region id ops draw=>
  intro h Q fr st g w a hc s hf hn
  cases draw with
  | false=>exact wp_region_list (M0 ops.toList fr st g w a hc s hf fun a' w' hp=>hp)
  | true=>exact SU hm hc s hf fun a' w' hp=>hp
 | seq x y ihx ihy=>
  intro h Q fr st g w a hc s hf hn
  have key:∀(hx hy:JG),cwp cfg P ns nl x hx (TN (cwp cfg P ns nl y hy Q) Q) fr st->(Code.seq x y).wp P (QPost g w a Q) a w:=by
   intro hx hy hcx
   refine wp_seq (wp_mono (ihx hx _ fr st g w a hcx s hf hn) fun e a' w' hq=>?_)
   obtain⟨fr',st',g',h1,h2,h3,h4,h5⟩:=hq
   cases e with
   | normal=>
    refine wp_mono (ihy hy Q fr' st' g' w' a' h1 h2 h3 (h5.2.trans hn)) fun e a'' w'' hq2=>?_
    exact hq2.ext h4 h5
   | _=>exact⟨fr',st',g',h1,h2,h3,h4,h5⟩
  cases h with
  | cut k hx hy=>
   obtain⟨R,h1,h2⟩:=hc
   refine wp_seq (wp_mono (ihx hx _ fr st g w a h1 s hf hn) fun e a' w' hq=>?_)
   obtain⟨fr',st',g',q1,q2,q3,q4,q5⟩:=hq
   cases e with
   | normal=>
    have q1':need (k.ok nl fr') (Kp k.tys (k.vals fr') R fun p=>p st'):=q1
    rw[At]at q1'
    obtain⟨w1,w2⟩:=Ft.weak (ns:=ns) q1'.1 q2 q3 (q5.2.trans hn)
    have hb:=Nq h2 q1'.2
    exact wp_mono (ihy hy Q _ st' g' w' a' hb w1 w2 (q5.2.trans hn)) fun e a'' w'' hq2=>hq2.ext q4 q5
   | _=>exact⟨fr',st',g',q1,q2,q3,q4,q5⟩
  | none=>exact key _ _ hc
  | seq p q=>exact key _ _ hc
  | cond p q=>exact key _ _ hc
  | block p=>exact key _ _ hc
  | loop k p=>exact key _ _ hc
 | cond c x y ihx ihy=>
  intro h Q fr st g w a hc s hf hn
  simp only[cwp]at hc
  split at hc
  ·rename_i b hb
   have hr:=Sx hf c
   rw[hb]at hr
   have hr':Rel g w (.bool b) (a.eval c):=hr
   have hev:a.eval c= .bool b:=by generalize a.eval c=q at hr';cases hr';rfl
   cases b with
   | true=>exact wp_cond_true hev (ihx h.l Q fr st g w a hc s hf hn)
   | false=>exact wp_cond_false hev (ihy h.r Q fr st g w a hc s hf hn)
  ·exact hc.elim
 | block id x ih=>
  intro h Q fr st g w a hc s hf hn
  refine wp_block (wp_mono (ih h.l (WZ id Q) fr st g w a hc s hf hn) fun e a' w' hq=>?_)
  obtain⟨fr',st',g',h1,h2,h3,h4,h5⟩:=hq
  cases e with
  | exit id'=>
   simp only[WZ]at h1
   by_cases hid:id'=id
   ·subst hid
    have hbe:(id'.beq id')=true:=Nat.beq_refl id'
    simp only[hbe]at h1
    simp only[Exit.inBlock,if_true]
    exact⟨fr',st',g',h1,h2,h3,h4,h5⟩
   ·have hbe:(id'.beq id)=false:=by
     cases hq:id'.beq id with
     | false=>rfl
     | true=>exact absurd (Nat.eq_of_beq_eq_true hq) hid
    simp only[hbe]at h1
    simp only[Exit.inBlock,hid,if_false]
    exact⟨fr',st',g',h1,h2,h3,h4,h5⟩
  | _=>exact⟨fr',st',g',h1,h2,h3,h4,h5⟩
 | loop x ih=>
  intro h Q fr st g w a hc s hf hn
  cases h with
  | loop k hx=>
   obtain⟨I,M,h1,h2⟩:=hc
   rw[At]at h1
   refine Tu (fun m a' w'=>∃vals st' g',cwp cfg P ns nl x hx (TN (fun fr st=>need (k.ok nl fr) (U4 k.tys (k.vals fr) I M fun p q=>p st/\q st<m)) Q) (k.frame ns nl vals) st'/\
    Sim g' st' (k.frame ns nl vals).loc w'/\Gv g' w' (k.frame ns nl vals) a'.tmps/\Ext g w g' w'/\a'.defers=a.defers/\a'.tmps.size=a.tmps.size) ?_ ?_
   ·obtain⟨m,hm⟩:=P2 h2 h1.2
    obtain⟨w1,w2⟩:=Ft.weak (ns:=ns) h1.1 s hf hn
    exact⟨m,_,st,g,hm,w1,w2,Ext.refl _ _,rfl,rfl⟩
   ·rintro m a' w' ⟨vals,st',g',q1,q2,q3,q4,q5⟩
    refine wp_mono (ih hx _ _ st' g' w' a' q1 q2 q3 (q5.2.trans hn)) fun e a'' w'' hq=>?_
    obtain⟨fr2,st2,g2,r1,r2,r3,r4,r5⟩:=hq
    cases e with
    | normal=>
     have r1':need (k.ok nl fr2) (U4 k.tys (k.vals fr2) I M fun p q=>p st2/\q st2<m):=r1
     rw[At]at r1'
     obtain⟨m',hlt,hB⟩:=RY h2 r1'.2
     obtain⟨w1,w2⟩:=Ft.weak (ns:=ns) r1'.1 r2 r3 (r5.2.trans (q5.2.trans hn))
     exact⟨m',hlt,_,st2,g2,hB,w1,w2,q4.trans r4,r5.1.trans q5.1,r5.2.trans q5.2⟩
    | _=>exact⟨fr2,st2,g2,r1,r2,r3,q4.trans r4,r5.1.trans q5.1,r5.2.trans q5.2⟩
  | _=>exact hc.elim
 | exit id=>intro h Q fr st g w a hc s hf hn;exact wp_exit ⟨fr,st,g,hc,s,hf,Ext.refl _ _,rfl,rfl⟩
 | ret=>intro h Q fr st g w a hc s hf hn;exact wp_ret ⟨fr,st,g,hc,s,hf,Ext.refl _ _,rfl,rfl⟩
 | _=>intro h Q fr st g w a hc s hf hn;exact hc.elim
def Mm (P:Program) (fr:Fr) (st:St):ResultVar->Option TV
 | .tmp t=>some (Mg fr t)
 | .cell a t=>match KR P t with
  | some true=>match P.cellsOf t with
   | 0=>none
   | n=>(Ah st fr.loc (fr.slots.f a) 0 n).map .agg
  | some false=>Ad st fr.loc (fr.slots.f a) 0
  | none=>none
def Jo (P:Program) (fr:Fr) (st:St):List ResultVar->Option (List TV)
 | []=>some []
 | r::rs=>match Mm P fr st r with
  | some v=>(Jo P fr st rs).map (v::·)
  | none=>none
def VG:List TV->TV
 | [v]=>v
 | vs=> .tuple vs
def resT (P:Program) (fn:Func) (fr:Fr) (st:St):Option TV:=(Jo P fr st fn.results.toList).map VG
def SA (P:Program) (fr:Fr) (st:St) (r:ResultVar) (k:TV->Prop):Prop:=
 match r with
 | .tmp t=>k (Mg fr t)
 | .cell a t=>match KR P t with
  | some true=>match P.cellsOf t with
   | 0=>False
   | n=>Ae ((Ah st fr.loc (fr.slots.f a) 0 n).map .agg) k
  | some false=>Ae (Ad st fr.loc (fr.slots.f a) 0) k
  | none=>False
def Lo (P:Program) (fr:Fr) (st:St):List ResultVar->(List TV->Prop)->Prop
 | [],k=>k []
 | r::rs,k=>SA P fr st r fun v=>Lo P fr st rs fun vs=>k (v::vs)
theorem Qw {P:Program} {fr:Fr} {st:St} {r:ResultVar} {k:TV->Prop} (h:SA P fr st r k):∃v,Mm P fr st r=some v/\k v:=by
 cases r with
 | tmp t=>exact⟨_,rfl,h⟩
 | cell a t=>
  unfold SA at h
  unfold Mm
  simp only at h⊢
  cases ha:KR P t with
  | none=>rw[ha]at h;exact h.elim
  | some b=>
   rw[ha]at h
   cases b with
   | true=>
    simp only at h⊢
    cases hn:P.cellsOf t with
    | zero=>rw[hn]at h;exact h.elim
    | succ n=>
     rw[hn]at h
     exact D1.1 h
   | false=>exact D1.1 h
theorem Kf {P:Program} {fr:Fr} {st:St}:∀{rs:List ResultVar} {k:List TV->Prop},Lo P fr st rs k->∃vs,Jo P fr st rs=some vs/\k vs
 | [],k,h=>⟨[],rfl,h⟩
 | r::rs,k,h=>by
  obtain⟨v,h1,h2⟩:=Qw h
  obtain⟨vs,h3,h4⟩:=Kf h2
  exact⟨v::vs,by simp[Jo,h1,h3],h4⟩
def retQ (P:Program) (fn:Func) (R:TV->St->Prop):Exit->Fr->St->Prop
 | .normal,fr,st=>Lo P fr st fn.results.toList fun vs=>R (VG vs) st
 | .ret,fr,st=>Lo P fr st fn.results.toList fun vs=>R (VG vs) st
 | _,_,_=>False
def Ig (cfg:Cfg) (fn:Func) (args:List TV):Fr:=⟨⟨fn.ntmps,fun i=>match args[i]? with | some v=> .t v | none=> .t .undef⟩,cfg.loc.map fun _=>none⟩
theorem Sz {g:Ghost} {st:St} {w:World} {fr:Fr} {tmps:Array Value} (s:Sim g st fr.loc w) (hf:Gv g w fr tmps) {r:ResultVar} {v:TV} (h:Mm P fr st r=some v):
  ∃u,(match r with | .tmp t=>pure (tmps.getD t Go.undef) | .cell a t=>do loadVar t (<-asAddr (tmps.getD a Go.undef)):Sem Value).run P w= .ok u w/\Rel g w v u:=by
 cases r with
 | tmp t=>
  simp only[Mm,Option.some.injEq]at h
  subst h
  exact⟨_,rfl,(hf.2 t).tv⟩
 | cell a t=>
  simp only[Mm]at h
  have hld:∀p,BA g w fr.loc p (tmps.getD a Go.undef)->(EB P st fr.loc t p).Is (.t v)->∃u,(do loadVar t (<-asAddr (tmps.getD a Go.undef)):Sem Value).run P w= .ok u w/\Rel g w v u:=by
   intro p hp hl
   have hl':=hl
   obtain⟨u,hu,hr⟩:=Ph (P:=P) s hp hl'
   have hsa:(Instr.loadAt t (tmps.getD a Go.undef)).run P w=(do loadVar t (<-asAddr (tmps.getD a Go.undef)):Sem Value).run P w:=by
    generalize hq:tmps.getD a Go.undef=q at hp hu
    simp only[Instr.loadAt,Sem.run_bind]
    cases q with
    | pointer o=>cases o with
     | none=>simp[Instr.loadAt,Instr.sureAddr]at hu
     | some ad=>simp[Instr.sureAddr,asAddr]
    | _=>simp[Instr.loadAt,Instr.sureAddr]at hu
   exact⟨u,by rw[<-hsa];exact hu,hr⟩
  split at h
  ·rename_i ha
   split at h
   ·cases h
   ·rename_i n hn
    refine hld _ (hf.2 a) ?_
    unfold EB
    rw[ha]
    exact⟨v,by
     split
     ·rename_i h0;exact absurd h0 hn
     ·exact h,rfl⟩
  ·rename_i ha
   refine hld _ (hf.2 a) ?_
   unfold EB
   rw[ha]
   exact⟨v,h,rfl⟩
  ·cases h
theorem Ln {g:Ghost} {st:St} {w:World} {fr:Fr} {tmps:Array Value} (s:Sim g st fr.loc w) (hf:Gv g w fr tmps):∀{rs:List ResultVar} {vs:List TV},Jo P fr st rs=some vs->
  ∃us:List Value,(rs.mapM (fun r=>match r with | .tmp t=>pure (tmps.getD t Go.undef) | .cell a t=>do loadVar t (<-asAddr (tmps.getD a Go.undef))):Sem (List Value)).run P w= .ok us w/\AR g w vs us
 | [],vs,h=>by simp only[Jo,Option.some.injEq]at h;subst h;exact⟨[],rfl,.nil _ _⟩
 | r::rs,vs,h=>by
  simp only[Jo]at h
  split at h
  ·rename_i v hv
   obtain⟨vs',hvs',rfl⟩:=Option.map_eq_some_iff.1 h
   obtain⟨u,hu,hr⟩:=Sz s hf hv
   obtain⟨us,hus,hrs⟩:=Ln s hf hvs'
   refine⟨u::us,?_,.cons hr hrs⟩
   rw[List.mapM_cons]
   simp only[Sem.run_bind,hu,Result.andThen_ok,hus,Sem.run_pure]
  ·cases h
theorem V0 {g:Ghost} {st:St} {w:World} {fr:Fr} {tmps:Array Value} (s:Sim g st fr.loc w) (hf:Gv g w fr tmps) {fn:Func} {v:TV} (h:resT P fn fr st=some v):∃u,(results fn tmps).run P w= .ok u w/\Rel g w v u:=by
 unfold resT at h
 cases hr:Jo P fr st fn.results.toList with
 | none=>rw[hr]at h;cases h
 | some vs=>
  rw[hr]at h
  obtain⟨us,hus,hrel⟩:=Ln s hf hr
  have hrun:(fn.results.mapM (fun r=>match r with | .tmp t=>pure (tmps.getD t Go.undef) | .cell a t=>do loadVar t (<-asAddr (tmps.getD a Go.undef))):Sem (Array Value)).run P w= .ok us.toArray w:=by
   rw[<-Array.toArray_toList (xs:=fn.results),List.mapM_toArray]
   simp only[Sem.run_map,hus,Result.andThen_ok]
  refine⟨if h:us.toArray.size=1 then us.toArray[0]else .tuple us.toArray,?_,?_⟩
  ·have hres:results fn tmps=(do
     let vs<-(fn.results.mapM (fun r=>match r with | .tmp t=>pure (tmps.getD t Go.undef) | .cell a t=>do loadVar t (<-asAddr (tmps.getD a Go.undef))):Sem (Array Value))
     pure (if h:vs.size=1 then vs[0]else .tuple vs)):=rfl
   rw[hres,Sem.run_bind,hrun]
   rfl
  ·cases vs with
   | nil=>
    simp only[Option.map_some,Option.some.injEq,VG]at h;subst h
    have:us=[]:=List.eq_nil_of_length_eq_zero hrel.1.symm
    subst this
    exact Rel.tuple [] [] rfl (fun i hi=>absurd hi (Nat.not_lt_zero _))
   | cons v1 vs1=>cases vs1 with
    | nil=>
     simp only[Option.map_some,Option.some.injEq,VG]at h;subst h
     cases us with
     | nil=>have:=hrel.1;simp at this
     | cons u1 us1=>
      have:us1=[]:=List.eq_nil_of_length_eq_zero (by have:=hrel.1;simpa using this.symm)
      subst this
      simpa using hrel.2 0 (by simp)
    | cons v2 vs2=>
     simp only[Option.map_some,Option.some.injEq,VG]at h;subst h
     have hl:us.toArray.size≠1:=by have:=hrel.1;simp at this⊢;omega
     rw[dif_neg hl]
     exact Rel.tuple _ us hrel.1 hrel.2
theorem Yj (hm:P.follows .mixedOrders=true) {f:FuncId} {fn:Func} {c:Code} (hcall:∀(vs:Array Value) (w:World),(callFunc f vs).run P w= .ok (.enter f vs) w) (hf:P.funcs[f]? =some fn) (hb:fn.body=some c)
  (cfg:Cfg) (h:JG) {args:List TV} {st:St} {R:TV->St->Prop} (hn:args.length<=fn.ntmps)
  (hc:cwp cfg P fn.ntmps cfg.loc.length c h (retQ P fn R) (Ig cfg fn args) st):FI P f args st R:=by
 refine CI hcall fun g w vargs s hr=>?_
 refine calls_of_wp hf hb ?_
 have hlen:vargs.length=args.length:=hr.1.symm
 have hsize:(vargs.toArray++Array.replicate (fn.ntmps-vargs.toArray.size) Go.undef).size=fn.ntmps:=by simp;omega
 have hsim:Sim g st (Ig cfg fn args).loc w:=s.weakLoc fun j x' hx'=>by
  simp only[Ig,List.getElem?_map]at hx'
  cases hq:cfg.loc[j]? with
  | none=>rw[hq]at hx';cases hx'
  | some q=>rw[hq]at hx';simp at hx'
 have hfr:Gv g w (Ig cfg fn args) (vargs.toArray++Array.replicate (fn.ntmps-vargs.toArray.size) Go.undef):=by
  refine⟨by rw[hsize];rfl,fun i=>?_⟩
  by_cases hia:i<args.length
  ·have h1:(Ig cfg fn args).slots.f i= .t args[i]:=by simp[Ig,hia]
   have h2:(vargs.toArray++Array.replicate (fn.ntmps-vargs.toArray.size) Go.undef).getD i Go.undef=vargs.getD i Go.undef:=by
    have:i<vargs.length:=by omega
    have hin:i<fn.ntmps:=by omega
    simp[Array.getD,Array.getElem_append,this,hin,List.getD_eq_getElem?_getD]
    omega
   rw[h1,h2]
   exact hr.2 i hia
  ·have h1:(Ig cfg fn args).slots.f i= .t .undef:=by simp[Ig,hia]
   have h2:(vargs.toArray++Array.replicate (fn.ntmps-vargs.toArray.size) Go.undef).getD i Go.undef=Go.undef:=by
    have:¬i<vargs.length:=by omega
    simp[Array.getD,Array.getElem_append,this]
   rw[h1,h2]
   exact Rel.undef
 refine wp_mono (Y7 hm c h _ _ st g w {tmps:=vargs.toArray++Array.replicate (fn.ntmps-vargs.toArray.size) Go.undef,defers:=[]} hc hsim hfr hsize) fun e a' w' hq=>?_
 obtain⟨fr',st',g',h1,h2,h3,h4,h5,h6⟩:=hq
 have fin:Lo P fr' st' fn.results.toList (fun vs=>R (VG vs) st')->a'.defers=[]/\∃v,(results fn a'.tmps).run P w'= .ok v w'/\∃v',Ending.returned v= .returned v'/\∃r st' g',R r st'/\Sim g' st' [] w'/\Rel g' w' r v'/\Ext g w g' w':=by
  intro ho
  obtain⟨vs,hvs,hR⟩:=Kf ho
  obtain⟨u,hu,hrel⟩:=V0 (fn:=fn) h2 h3 (by unfold resT;rw[hvs];rfl)
  exact⟨h5,u,hu,u,rfl,_,st',g',hR,h2.dropLoc (fun j x hx=>by simp at hx),hrel,h4⟩
 cases e with
 | normal=>exact fin h1
 | ret=>exact fin h1
 | _=>exact h1.elim
def St.zero:St:={nb:=0,box:=fun _=> .dead,nt:=0,live:=fun _=>false,ty:=fun _=>none,bt:=fun _=>none}
def Ghost.start (w:World):Ghost:={base:=w.heap.size,w0:=w,nb:=0,bk:=fun _=>0,lam:=fun _=>0,nt:=0,sp:=fun _=>none,S:=fun a=>a.spot=none/\∃v,w.cell? a=some v,prot:=fun _=>False}
theorem Sim.start (w:World) (hG:∀w',Below w.heap.size w w'->GlobOK w'):Sim (Ghost.start w) St.zero [] w:=by
 have hd:∀k,¬Dom St.zero [] k:=by
  intro k d
  cases k with
  | box i=>exact absurd d (Nat.not_lt_zero _)
  | loc i=>obtain⟨x,hx⟩:=d;simp at hx
 exact⟨rfl,rfl,Below.refl _ _,Nat.le_refl _,fun k d=>absurd d (hd k),fun k k' d=>absurd d (hd k),fun k d=>absurd d (hd k),fun id h=>absurd h (Nat.not_lt_zero _),
  fun id b l h hh=>(by cases hh),fun i j b l h l' h' _ hh=>(by cases hh),fun id _=>rfl,fun a ha=>⟨ha.1,ha.2,fun k d=>absurd d (hd k),fun id l h hh=>(by cases hh)⟩,fun b hb=>hb.elim,fun id b l h hh=>(by cases hh),fun id b l h T hh=>(by cases hh),fun b T hb=>absurd hb (Nat.not_lt_zero _),hG⟩
theorem WU {f:FuncId} {args:List TV} (hcall:∀(vs:Array Value) (w:World),(callFunc f vs).run P w= .ok (.enter f vs) w) (h:FI P f args St.zero fun r _=>r= .bool true) (w:World) (hG:∀w',Below w.heap.size w w'->GlobOK w') (vargs:List Value) (hr:AR (Ghost.start w) w args vargs):
  Calls P f vargs.toArray w fun e w'=>e= .returned (.bool true)/\Below w.heap.size w w':=by
 have h1:=h.run (Ghost.start w) w vargs (Sim.start w hG) hr
 unfold Dm at h1
 rw[hcall]at h1
 refine Calls.mono h1 ?_
 rintro e w' ⟨v,rfl,r,st',g',rfl,s',hrel,e'⟩
 have hb:=s'.below
 rw[e'.base,e'.w0]at hb
 cases hrel
 exact⟨rfl,hb⟩
end
def WY (fn:Func):Code:=match fn.body with | some c=>c | none=> .skip
def Fw (cfg:Cfg) (P:Program) (h:JG) (fn:Func) (args:List TV) (st:St) (R:TV->St->Prop):Prop:=
 cwp cfg P fn.ntmps cfg.loc.length (WY fn) h (retQ P fn R) (Ig cfg fn args) st
def fits (fn:Func) (args:List TV):Bool:=(fn.body.isSome).and (args.length.ble fn.ntmps)
theorem Ag {P:Program} (hm:P.follows .mixedOrders=true) {f:FuncId} {fn:Func} (hcall:∀(vs:Array Value) (w:World),(callFunc f vs).run P w= .ok (.enter f vs) w) (hf:P.funcs[f]? =some fn)
  {cfg:Cfg} {h:JG} {args:List TV} {st:St} {R:TV->St->Prop} (hn:fits fn args=true) {V:Prop} (he:Fw cfg P h fn args st R=V) (hV:V):FI P f args st R:=by
 simp only[fits,Bool.and_eq_true]at hn
 obtain⟨c,hc⟩:=Option.isSome_iff_exists.1 hn.1
 have hb:fn.body=some (WY fn):=by rw[WY,hc]
 rw[<-he]at hV
 exact Yj hm hcall hf hb cfg h (Nat.le_of_ble_eq_true hn.2) hV
def AK (cs:List CTy) (v:TV) (f:Fun cs Prop):Prop:=
 match v with
 | .agg l=>decL cs l f
 | _=>False
def stB (st:St) (p:TV) (xs:List TV) (k:St->Prop):Prop:=
 match p with
 | .box b off=>∃l,st.box b= .cells l/\off+xs.length<=l.length/\k (st.put b (.cells (setAll l off xs)))
 | _=>False
theorem Aa {p:Prop} [Decidable p] {x y:Prop} (h1:p->x) (h2:¬p->y):BIf (decide p) x y:=by
 by_cases h:p
 ·simp only[h,decide_true,BIf];exact h1 h
 ·simp only[h,decide_false,BIf];exact h2 h
theorem Ap {b:Bool} {x y:Prop} (h1:b=true->x) (h2:b=false->y):BIf b x y:=by
 cases b
 ·exact h2 rfl
 ·exact h1 rfl
end Go.TVF
end
section
namespace Go.TVF
open Go.IntKind(i64 u8)
structure Am (a b:St):Prop where
 nb:a.nb<=b.nb
 box:∀i,i<a.nb->b.box i=a.box i
 nt:a.nt<=b.nt
 live:∀i,i<a.nt->b.live i=a.live i
 ty:∀i,i<a.nt->b.ty i=a.ty i
 bt:∀i,i<a.nb->b.bt i=a.bt i
theorem Am.refl (a:St):Am a a:=⟨Nat.le_refl _,fun _ _=>rfl,Nat.le_refl _,fun _ _=>rfl,fun _ _=>rfl,fun _ _=>rfl⟩
theorem Am.trans {a b c:St} (h:Am a b) (k:Am b c):Am a c:=
 ⟨Nat.le_trans h.nb k.nb,fun i hi=>(k.box i (Nat.lt_of_lt_of_le hi h.nb)).trans (h.box i hi),Nat.le_trans h.nt k.nt,fun i hi=>(k.live i (Nat.lt_of_lt_of_le hi h.nt)).trans (h.live i hi),fun i hi=>(k.ty i (Nat.lt_of_lt_of_le hi h.nt)).trans (h.ty i hi),fun i hi=>(k.bt i (Nat.lt_of_lt_of_le hi h.nb)).trans (h.bt i hi)⟩
theorem Am.fresh {a b:St} (h:Am a b) (T:Option Nat):Am a (b.fresh T):=
 h.trans ⟨Nat.le_refl _,fun _ _=>rfl,Nat.le_succ _,fun i hi=>by simp only[St.fresh];rw[if_neg (by omega)],fun i hi=>by simp only[St.fresh];rw[if_neg (by omega)],fun _ _=>rfl⟩
theorem Am.push {a b:St} (h:Am a b) (o:J8) (T:Option Nat):Am a (b.push o T):=
 h.trans ⟨Nat.le_succ _,fun i hi=>by simp only[St.push];rw[if_neg (by omega)],Nat.le_refl _,fun _ _=>rfl,fun _ _=>rfl,fun i hi=>by simp only[St.push];rw[if_neg (by omega)]⟩
theorem Am.retire {a b:St} (h:Am a b) {id:Nat} (hid:a.nt<=id):Am a (b.retire id):=
 ⟨h.nb,h.box,h.nt,fun i hi=>by simp only[St.retire];rw[if_neg (by omega)];exact h.live i hi,h.ty,h.bt⟩
theorem Am.put {a b:St} (h:Am a b) {i:Nat} (hi:a.nb<=i) (o:J8):Am a (b.put i o):=
 ⟨h.nb,fun j hj=>by simp only[St.put];rw[if_neg (by omega)];exact h.box j hj,h.nt,h.live,h.ty,h.bt⟩
theorem D4 (l:B8):(AC l).length=l.length:=by simp[AC]
theorem DF:∀l:B8,F2 (AC l)=some l
 | []=>rfl
 | c::l=>by
  have:=DF l
  simp only[AC]at this
  simp[AC,F2,JE,W0,this]
theorem V8 (l:B8):(AC l).all As=true:=by simp[AC,JE,As]
theorem Fe (a b:B8):AC a++AC b=AC (a++b):=by simp[AC]
def Rd (sz:Nat) (v:TV) (n:Nat) (xs:List TV):Prop:=
 (v= .nilSlice/\n=0/\xs=[])∨∃tip,v= .list sz tip n xs
def Own (b sz:Nat) (st:St) (v:TV) (n:Nat) (xs:List TV):Prop:=
 (v= .nilSlice/\n=0/\xs=[])∨∃tip,v= .list sz tip n xs/\(tip= .full∨∃id,tip= .own id/\b<=id/\id<st.nt/\st.live id=true)
theorem Own.rd {b sz:Nat} {st:St} {v:TV} {n:Nat} {xs:List TV} (h:Own b sz st v n xs):Rd sz v n xs:=by
 rcases h with h | ⟨tip,h,_⟩
 ·exact .inl h
 ·exact .inr ⟨tip,h⟩
theorem Own.ext {b sz:Nat} {st st':St} {v:TV} {n:Nat} {xs:List TV} (h:Own b sz st v n xs) (e:Am st st'):Own b sz st' v n xs:=by
 rcases h with h | ⟨tip,h,ht | ⟨id,h1,h2,h3,h4⟩⟩
 ·exact .inl h
 ·exact .inr ⟨tip,h,.inl ht⟩
 ·exact .inr ⟨tip,h,.inr ⟨id,h1,h2,Nat.lt_of_lt_of_le h3 e.nt,(e.live id h3).trans h4⟩⟩
theorem Own.nil (b sz:Nat) (st:St):Own b sz st .nilSlice 0 []:= .inl ⟨rfl,rfl,rfl⟩
theorem Own.full (b sz:Nat) (st:St) (n:Nat) (xs:List TV):Own b sz st (.list sz .full n xs) n xs:= .inr ⟨_,rfl,.inl rfl⟩
theorem Own.fresh {b sz:Nat} {st:St} {T:Option Nat} (n:Nat) (xs:List TV) (hb:b<=st.nt):Own b sz (st.fresh T) (.list sz (.own st.nt) n xs) n xs:=
 .inr ⟨_,rfl,.inr ⟨st.nt,rfl,hb,Nat.lt_succ_self _,by simp[St.fresh]⟩⟩
theorem Rd.isSl {sz:Nat} {v:TV} {n:Nat} {xs:List TV} (h:Rd sz v n xs):TVF.isSl v=true:=by
 rcases h with⟨rfl,_⟩ | ⟨tip,rfl⟩<;>rfl
theorem Rd.lenS {sz:Nat} {v:TV} {n:Nat} {xs:List TV} (h:Rd sz v n xs):TVF.lenS v=n:=by
 rcases h with⟨rfl,rfl,_⟩ | ⟨tip,rfl⟩<;>rfl
theorem Rd.lenZ {sz:Nat} {v:TV} {n:Nat} {xs:List TV} (h:Rd sz v n xs):TVF.lenZ sz v=n:=by
 rcases h with⟨rfl,rfl,_⟩ | ⟨tip,rfl⟩
 ·rfl
 ·simp[TVF.lenZ]
theorem Rd.one {sz:Nat} {v:TV} {n:Nat} {xs:List TV} (h:Rd sz v n xs):As v=true:=by
 rcases h with⟨rfl,rfl,_⟩ | ⟨tip,rfl⟩<;>rfl
theorem Rd.ld {sz:Nat} {v:TV} {n:Nat} {xs:List TV} (h:Rd sz v n xs) (st:St) (i j:Nat) (hi:i*sz+j<xs.length):Ad st [] (.t (ixT sz v i)) j=some xs[i*sz+j]:=by
 rcases h with⟨rfl,rfl,rfl⟩ | ⟨tip,rfl⟩
 ·simp at hi
 ·simp[Ad,ixT,hi]
theorem Rd.ldf {sz:Nat} {v:TV} {n:Nat} {xs:List TV} (h:Rd sz v n xs) (st:St) (i f:Nat) (hi:i*sz+f<xs.length):Ad st [] (.t (Ao (ixT sz v i) f)) 0=some xs[i*sz+f]:=by
 rcases h with⟨rfl,rfl,rfl⟩ | ⟨tip,rfl⟩
 ·simp at hi
 ·simp[Ad,ixT,Ao,hi]
theorem Xm (st:St) (l:B8):FH st 1 (.str l)=some (l.length,AC l):=rfl
theorem Fs {T b sz bytes:Nat} {st0 st:St} {v:TV} {n k:Nat} {xs ys:List TV} {K:TV->St->Prop} (e:Am st0 st) (hb:b=st0.nt) (h:Own b sz st v n xs) (hby:(n+k)*bytes<=140737488355328) (hys:k=0->ys=[])
  (hK:∀v' st',Am st0 st'->st'.box=st.box->Own b sz st' v' (n+k) (xs++ys)->K v' st'):BH T sz bytes v k ys st K:=by
 subst hb
 rcases h with⟨rfl,rfl,rfl⟩ | ⟨tip,rfl,ht⟩
 ·simp only[BH]
  cases k with
  | zero=>rw[hys rfl]at hK;exact hK _ _ e rfl (.nil _ _ _)
  | succ m=>
   simp only[At]
   refine⟨by simpa using hby,hK _ _ (e.fresh _) rfl ?_⟩
   simp only[List.nil_append,Nat.zero_add]
   exact Own.fresh _ _ e.nt
 ·simp only[BH,Nat.beq_refl]
  refine⟨hby,?_⟩
  rcases ht with rfl | ⟨id,rfl,h1,h2,h3⟩
  ·cases k with
   | zero=>rw[hys rfl]at hK;simp only[List.append_nil]at hK;exact hK _ _ e rfl (Own.full _ _ _ _ _)
   | succ m=>exact hK _ _ (e.fresh _) rfl (Own.fresh _ _ e.nt)
  ·exact⟨h3,hK _ _ ((e.retire h1).fresh _) rfl (Own.fresh (st:=st.retire id) _ _ e.nt)⟩
theorem Ab {b:Bool} {k:Prop} (h:b=true) (hk:k):need b k:=At.2 ⟨h,hk⟩
theorem Ac {α:Type} {o:Option α} {x:α} {k:α->Prop} (h:o=some x) (hk:k x):Ae o k:=by rw[h];exact hk
theorem Ai (x:Int) (h1: -9223372036854775808<=x) (h2:x<=9223372036854775807):IntKind.wrap .i64 x=x:=by
 unfold IntKind.wrap
 simp only[IntKind.signed,IntKind.bits]
 simp
 omega
theorem N3 (x:Int) (h1:0<=x) (h2:x<=255):IntKind.wrap .u8 x=x:=by
 unfold IntKind.wrap
 simp only[IntKind.signed,IntKind.bits]
 simp
 omega
end Go.TVF
end
section
namespace Go.TVF
open Go.IntKind(i64 u8)
open Go.RowKit (Below)
theorem bool_ret {r:TV} {st':St} (h:Hf [.one .bool] r (fun (b:Bool) (_:St)=>b=true) (fun p=>p st')):r= .bool true:=by
 cases r<;>simp only[Hf,Gq,Af]at h<;>first | exact h.elim | skip
 subst h;rfl
theorem calls_law {P:Program} {f:FuncId} {args:List TV} (hcall:∀(vs:Array Value) (w:World),(callFunc f vs).run P w= .ok (.enter f vs) w) (h:CallT P f args [.one .bool] St.zero (fun r _=>r=true)) (w:World) (hG:∀w',Below w.heap.size w w'->GlobOK w') (vargs:List Value) (hr:AR (Ghost.start w) w args vargs):
  Calls P f vargs.toArray w fun e w'=>e= .returned (.bool true)/\Below w.heap.size w w':=
 WU hcall (FI.mono h fun r st' hd=>bool_ret hd) w hG vargs hr
theorem rel_string (g:Ghost) (w:World) (s:ByteArray):Rel g w (.str s.data.toList) (.string s):=by
 have:=Rel.str (g:=g) (w:=w) s.data.toList
 simpa using this
def flatIs:List CTy->List TV->Prop
 | [],xs=>xs=[]
 | .int k::cs,xs=>∃n ys,xs= .int k n::ys/\(Lit.int k n).wf=true/\flatIs cs ys
 | .str::cs,xs=>∃l ys,xs= .str l::ys/\l.length<=maxLen/\flatIs cs ys
 | .bool::cs,xs=>∃b ys,xs= .bool b::ys/\flatIs cs ys
 | .tv::_,_=>False
def Xb (P:Program):CTy->TypeId->Prop
 | .int k,t=>P.underlying t=some (.int k)
 | .bool,t=>P.underlying t=some .bool
 | .str,t=>P.underlying t=some .string
 | .tv,_=>False
def FieldsTy (P:Program):List CTy->List Field->Nat->Prop
 | [],[],_=>True
 | c::cs,f::fs,o=>f.offset=o/\P.cellsOf f.type=1/\Xb P c f.type/\FieldsTy P cs fs (o+1)
 | _,_,_=>False
section
variable {H:Type} {enc:TypeId×Value->H} {P:Program} {w:World} {base:Nat} {sp:Nat->Bool} {held:Bool}
theorem Rb {c:CTy} {t:TypeId} {fuel:Nat} {cs:List Value} {x:DataW H×List MemPlace} (g:Ghost) (hc:Xb P c t) (h:DataW.trod enc P w base sp held fuel t cs=some x):
  ∃v u,cs=[u]/\Rel g w v u/\flatIs [c] [v]:=by
 cases c with
 | int k=>
  obtain⟨n,rfl,_,hw⟩:=DataW.trod_int hc h
  exact⟨_,_,rfl,.int k n,n,[],rfl,hw,rfl⟩
 | bool=>
  obtain⟨b,rfl,_⟩:=DataW.trod_bool hc h
  exact⟨_,_,rfl,.bool b,b,[],rfl,rfl⟩
 | str=>
  obtain⟨s,rfl,_,hs⟩:=DataW.trod_string hc h
  exact⟨_,_,rfl,rel_string g w s,_,[],rfl,by rw[Array.length_toList];exact hs,rfl⟩
 | tv=>exact hc.elim
theorem flatIs.cons {c:CTy} {cs:List CTy} {v:TV} {xs:List TV} (h:flatIs [c] [v]) (k:flatIs cs xs):flatIs (c::cs) (v::xs):=by
 cases c with
 | int _=>
  obtain⟨n,ys,h1,h2,_⟩:=h
  simp only[List.cons.injEq]at h1
  exact⟨n,xs,by rw[h1.1],h2,k⟩
 | bool=>
  obtain⟨b,ys,h1,_⟩:=h
  simp only[List.cons.injEq]at h1
  exact⟨b,xs,by rw[h1.1],k⟩
 | str=>
  obtain⟨l,ys,h1,h2,_⟩:=h
  simp only[List.cons.injEq]at h1
  exact⟨l,xs,by rw[h1.1],h2,k⟩
 | tv=>exact h.elim
theorem M7 {n:Nat} {vs:List Value} (g:Ghost):∀(cs:List CTy) (fs:List Field) (o:Nat) (xs:List (DataW H×List MemPlace)),FieldsTy P cs fs o->xs.length=fs.length->vs.length=o+cs.length->
  (∀(i:Nat) (f:Field),fs[i]? =some f->DataW.trod enc P w base sp held n f.type ((vs.drop f.offset).take (P.cellsOf f.type))=xs[i]?)->∃tv,AR g w tv (vs.drop o)/\flatIs cs tv
 | [],[],o,xs,_,_,hl,_=>⟨[],by rw[List.drop_of_length_le (by simp at hl;omega)];exact .nil _ _,rfl⟩
 | c::cs,f::fs,o,[],_,hx,_,_=>by simp at hx
 | c::cs,f::fs,o,x::xs,ht,hx,hl,hd=>by
  obtain⟨h1,h2,h3,h4⟩:=ht
  have hd0:=hd 0 f rfl
  rw[h1,h2]at hd0
  obtain⟨v,u,hu,hr,hf⟩:=Rb g h3 hd0
  obtain⟨tv,hr',hf'⟩:=M7 (n:=n) (vs:=vs) g cs fs (o+1) xs h4 (by simpa using hx) (by simp at hl;omega) (fun i f' hi=>by simpa using hd (i+1) f' (by simpa using hi))
  refine⟨v::tv,?_,hf.cons hf'⟩
  have hlt:o<vs.length:=by simp at hl;omega
  rw[List.drop_eq_getElem_cons hlt]
  rw[List.drop_eq_getElem_cons hlt]at hu
  simp only[List.take_succ_cons,List.take_zero,List.cons.injEq]at hu
  rw[hu.1]
  exact .cons hr hr'
 | [],f::fs,o,xs,ht,_,_,_=>ht.elim
 | c::cs,[],o,xs,ht,_,_,_=>ht.elim
theorem W5 (b off i:Nat):(⟨b,off,none⟩:Addr).add i=⟨b,off+i,none⟩:=by
 unfold Addr.add;split
 ·rename_i h;subst h;rfl
 ·rfl
def Opens (enc:TypeId×Value->H) (P:Program) (w:World) (base:Nat) (sp:Nat->Bool) (held:Bool) (cs:List CTy) (e:TypeId):Prop:=
 ∀(g:Ghost) n vs x,DataW.trod enc P w base sp held n e vs=some x->∃tv,AR g w tv vs/\flatIs cs tv
theorem opens_struct {cs:List CTy} {e:TypeId} {fs:Array Field} (ht:P.underlying e=some (.struct fs)) (hf:FieldsTy P cs fs.toList 0) (hc:P.cellsOf e=cs.length):Opens enc P w base sp held cs e:=fun g n vs x hd=>by
 obtain⟨xs,m,rfl,_,hl,hx,hi⟩:=DataW.trod_struct ht hd
 have:=M7 (enc:=enc) (P:=P) (w:=w) (base:=base) (sp:=sp) (held:=held) (n:=m) (vs:=vs) g cs fs.toList 0 xs hf (by simpa using hx) (by omega) (fun i f h=>hi i f (by simpa using h))
 simpa using this
end
end Go.TVF
end
namespace Go.TVF
open Go.IntKind(i64 u8)
open Go Go.Proofs
theorem mixed:Tryz.prog.follows .mixedOrders=true:=by kernel_rfl
noncomputable def PR:Program:=Tryz.prog
abbrev V13(X:Type):=Int->Bool->Bool->B8->Int->Int->Int->Int->Int->B8->TV->TV->TV->X
abbrev sV:RTy:=.agg [.int .i64,.bool,.bool,.str,.int .i64,.int .i64,.int .i64,.int .i64,.int .i64,.str,.tv,.tv,.tv]
abbrev cV(a:Int)(b c:Bool)(d:B8)(e f g h i:Int)(j:B8)(k l m:TV):List TV:=[.int .i64 a,.bool b,.bool c,.str d,.int .i64 e,.int .i64 f,.int .i64 g,.int .i64 h,.int .i64 i,.str j,k,l,m]
abbrev BId(p:Prop)[Decidable p](a b:Prop):Prop:=BIf (decide p) a b
def fn_datakitlaw28_GridLossless:Nat:=13
def De:Nat:=32
def AI:Nat:=33
def Im:Nat:=34
def CN:Nat:=37
def CM:Nat:=39
def Fb:Nat:=42
def Fa:Nat:=49
def DK:Nat:=51
def EH:Nat:=53
def D6:Nat:=54
def Dx:Nat:=55
def E9:Nat:=56
def E8:Nat:=57
def Du:Nat:=58
def ED:Nat:=59
def Ca:Nat:=62
def Df:Nat:=63
def B5:Nat:=69
def Gl:Nat:=70
def Bh:Nat:=84
def Bn:Nat:=85
def Dd:Nat:=86
def DJ:Nat:=87
def C9:Nat:=93
def Kl:Nat:=94
def G7:Nat:=95
def Cz:Nat:=96
def FV:Nat:=97
def CX:Nat:=98
def E5:Nat:=99
def EX:Nat:=105
def FC:Nat:=106
def FX:Nat:=114
def D5:Nat:=117
def EW:Nat:=118
def CO:Nat:=119
def D7:Nat:=120
def GK:Nat:=121
def E7:Nat:=122
def AY:Nat:=123
def Dt:Nat:=124
def B0:Nat:=128
def E6:Nat:=133
def Ee:Nat:=143
def EG:Nat:=144
def Cy:Nat:=145
def AH:Nat:=146
def A6:Nat:=156
def Dy:Nat:=157
def EY:Nat:=158
def DT:Nat:=159
def CY:Nat:=160
def Dc:Nat:=161
def FE:Nat:=162
def Fc:Nat:=173
def Da:Nat:=174
def EE:Nat:=179
def Gm:Nat:=182
def Il:Nat:=183
def BR:Nat:=185
def CV:Nat:=186
def Ce:Nat:=187
def Av:Nat:=188
def Aw:Nat:=189
def Ec:Nat:=190
def Bx:Nat:=191
def Ak:Nat:=192
def AV:Nat:=193
def AP:Nat:=194
def Ik:Nat:=195
def Ax:Nat:=196
def Gj:Nat:=197
def DM:Nat:=198
def CW:Nat:=199
def G6:Nat:=200
def FB:Nat:=203
def Jw:Nat:=210
def G8:Nat:=211
def Ij:Nat:=212
def EF:Nat:=221
def DL:Nat:=222
def By:Nat:=223
def Bq:Nat:=224
def Dw:Nat:=225
def D8:Nat:=235
def FA:Nat:=236
def FD:Nat:=241
def Bm:Nat:=242
def B9:Nat:=243
def AD:Nat:=244
def BN:Nat:=245
def AW:Nat:=246
def BO:Nat:=247
def FW:Nat:=252
def KL:Nat:=256
def BS:Nat:=257
def Hb:Nat:=258
def G9:Nat:=259
def AJ:Nat:=260
def BE:Nat:=261
def AB:Nat:=262
def Dh:Nat:=263
def Gk:Nat:=264
def Ci:Nat:=265
def A0:Nat:=266
def Ed:Nat:=267
def Fz:Nat:=268
def Ii:Nat:=269
def EJ:Nat:=277
def E0:Nat:=278
def AM:Nat:=279
def Dv:Nat:=289
def Ay:Nat:=290
def Cd:Nat:=291
def Di:Nat:=292
def EZ:Nat:=293
def AZ:Nat:=297
def CP:Nat:=299
def FF:Nat:=300
def Ha:Nat:=301
def EI:Nat:=306
def GL:Nat:=307
def AN:Nat:=317
def Aj:Nat:=318
def Be:Nat:=329
def AG:Nat:=333
def Yn:B8:=[97,44,98,10,49,44,120,10,34,49,34,44,10]
def str10:B8:=[49]
def str11:B8:=[34,49,34]
def QX:B8:=[116,114,117,101]
def ZK:B8:=[102,97,108,115,101]
def Le:B8:=[48]
def Fh:B8:=[45]
def Kb:B8:=[46]
def Xk:B8:=[48,46]
def ZJ:B8:=[101]
def OD:B8:=[84]
def TU:B8:=[43]
def ZI:B8:=[101,45]
def DP:B8:=[58]
def str24:B8:=[90]
def str25:B8:=[84,116,32]
def str31:B8:=[90,122,43,45]
theorem Fy (src:B8) (v_0:Int) (v_1:Bool) (v_2:Bool) (v_3:B8) (v_4:Int) (v_5:Int) (v_6:Int) (v_7:Int) (v_8:Int) (v_9:B8) (v_10:TV) (v_11:TV) (v_12:TV) (d_0:Int) (d_1:Int) (d_2:Bool) (d_3:Bool) (st:St) (K:Bool->St->Prop) (h:BId ((1500:Int)<(src.length:Int)) (CallT PR AI [] [.one .bool] st (fun (b1:Bool) f6=>K b1 f6)) (CallT PR De [(.agg (cV v_0 v_1 v_2 v_3 v_4 v_5 v_6 v_7 v_8 v_9 v_10 v_11 v_12))] [.one .bool] st (fun (b2:Bool) d1=>BIf (!b2) (CallT PR AI [] [.one .bool] d1 (fun (b3:Bool) f9=>K b3 f9)) (CallT PR EH [] [.agg [.int .i64,.int .i64,.int .i64,.int .i64,.int .i64]] d1 (fun (n1 n2 n3 n4 n5:Int) g1=>CallT PR Dx [.str src,(.agg [.int .u8 d_0,.int .u8 d_1,.bool d_2,.bool d_3]),(.agg [.int .i64 n1,.int .i64 n2,.int .i64 n3,.int .i64 n4,.int .i64 n5])] [.agg [.int .i64,.str,.str,.tv,.str],.one (.int .i64),.one (.int .i64)] g1 (fun (n6:Int) (s1 s2:B8) (v1:TV) (s3:B8) (n7 n8:Int) g4=>need (List.all [.int .i64 n6,.str s1,.str s2,v1,.str s3] As) (CallT PR CM [.str src,(.agg [.int .u8 d_0,.int .u8 d_1,.bool d_2,.bool d_3]),(.agg [.int .i64 n1,.int .i64 n2,.int .i64 n3,.int .i64 n4,.int .i64 n5])] [sV,.one (.int .i64),.one (.int .i64)] g4 (fun (n9:Int) (b4 b5:Bool) (s4:B8) (a5 q a1 x j:Int) (s5:B8) (v2 v3 v4:TV) (h1 f0:Int) v=>need (List.all (cV n9 b4 b5 s4 a5 q a1 x j s5 v2 v3 v4) As) (BId (n8≠f0) (K false v) (BId (n8=0) (CallT PR Fb [(.agg [.int .i64 n6,.str s1,.str s2,v1,.str s3]),(.agg [.int .u8 d_0,.int .u8 d_1,.bool d_2,.bool d_3])] [sV,.one (.int .i64)] v (fun (d0:Int) (b6 b7:Bool) (s6:B8) (c7 d5 d3 d6 d2:Int) (s7:B8) (v5 v6 v7:TV) (g5:Int) f5=>need (List.all (cV d0 b6 b7 s6 c7 d5 d3 d6 d2 s7 v5 v6 v7) As) (CallT PR E9 [(.agg [.int .i64 n6,.str s1,.str s2,v1,.str s3])] [.one (.int .i64)] f5 (fun (f3:Int) d4=>BId (f3≠0) (K false d4) (CallT PR E8 [(.agg [.int .i64 n6,.str s1,.str s2,v1,.str s3])] [.one .str] d4 (fun (s8:B8) l=>BId (s8≠src) (K false l) (BId (g5≠0) (K false l) (CallT PR D6 [(.agg (cV n9 b4 b5 s4 a5 q a1 x j s5 v2 v3 v4)),(.agg (cV d0 b6 b7 s6 c7 d5 d3 d6 d2 s7 v5 v6 v7))] [.one .bool] l (fun (b8:Bool) c6=>BIf (!b8) (K false c6) (CallT PR Du [(.agg (cV n9 b4 b5 s4 a5 q a1 x j s5 v2 v3 v4))] [.one (.int .i64)] c6 (fun (f2:Int) o=>BId (f2≠0) (K false o) (CallT PR Fa [(.agg (cV v_0 v_1 v_2 v_3 v_4 v_5 v_6 v_7 v_8 v_9 v_10 v_11 v_12)),(.agg [.int .u8 d_0,.int .u8 d_1,.bool d_2,.bool d_3])] [.one .str,.one (.int .i64)] o (fun (s9:B8) (c8:Int) m=>BId (c8≠0) (CallT PR DK [(.agg (cV v_0 v_1 v_2 v_3 v_4 v_5 v_6 v_7 v_8 v_9 v_10 v_11 v_12)),(.agg [.int .u8 d_0,.int .u8 d_1,.bool d_2,.bool d_3])] [.one (.int .i64)] m (fun (e8:Int) e=>BId (c8=e8) (BId (s9=([]:B8)) (CallT PR AI [] [.one .bool] e (fun (b9:Bool) e0=>K b9 e0)) (K false e)) (K false e))) (CallT PR CM [.str s9,(.agg [.int .u8 d_0,.int .u8 d_1,.bool d_2,.bool d_3]),(.agg [.int .i64 n1,.int .i64 n2,.int .i64 n3,.int .i64 n4,.int .i64 n5])] [sV,.one (.int .i64),.one (.int .i64)] m (fun (c2:Int) (w a2:Bool) (a4:B8) (r a8 z a3 c3:Int) (a0:B8) (v8 v9 n:TV) (h0 g0:Int) e1=>need (List.all (cV c2 w a2 a4 r a8 z a3 c3 a0 v8 v9 n) As) (CallT PR DK [(.agg (cV v_0 v_1 v_2 v_3 v_4 v_5 v_6 v_7 v_8 v_9 v_10 v_11 v_12)),(.agg [.int .u8 d_0,.int .u8 d_1,.bool d_2,.bool d_3])] [.one (.int .i64)] e1 (fun (f7:Int) a=>BId (f7=0) (BId (g0=0) (CallT PR ED [(.agg (cV c2 w a2 a4 r a8 z a3 c3 a0 v8 v9 n)),(.agg (cV v_0 v_1 v_2 v_3 v_4 v_5 v_6 v_7 v_8 v_9 v_10 v_11 v_12))] [.one .bool] a (fun (e9:Bool) f=>BIf e9 (BIf d_2 (CallT PR AI [] [.one .bool] f (fun (e6:Bool) e4=>K e6 e4)) (CallT PR D6 [(.agg (cV c2 w a2 a4 r a8 z a3 c3 a0 v8 v9 n)),(.agg (cV v_0 v_1 v_2 v_3 v_4 v_5 v_6 v_7 v_8 v_9 v_10 v_11 v_12))] [.one .bool] f (fun (g8:Bool) t=>BIf g8 (CallT PR AI [] [.one .bool] t (fun (f4:Bool) d9=>K f4 d9)) (K false t)))) (K false f))) (K false a)) (K false a)))))))))))))))))) (CallT PR Fa [(.agg (cV v_0 v_1 v_2 v_3 v_4 v_5 v_6 v_7 v_8 v_9 v_10 v_11 v_12)),(.agg [.int .u8 d_0,.int .u8 d_1,.bool d_2,.bool d_3])] [.one .str,.one (.int .i64)] v (fun (d7:B8) (c9:Int) c0=>BId (c9≠0) (CallT PR DK [(.agg (cV v_0 v_1 v_2 v_3 v_4 v_5 v_6 v_7 v_8 v_9 v_10 v_11 v_12)),(.agg [.int .u8 d_0,.int .u8 d_1,.bool d_2,.bool d_3])] [.one (.int .i64)] c0 (fun (g7:Int) c=>BId (c9=g7) (BId (d7=([]:B8)) (CallT PR AI [] [.one .bool] c (fun (g2:Bool) e5=>K g2 e5)) (K false c)) (K false c))) (CallT PR CM [.str d7,(.agg [.int .u8 d_0,.int .u8 d_1,.bool d_2,.bool d_3]),(.agg [.int .i64 n1,.int .i64 n2,.int .i64 n3,.int .i64 n4,.int .i64 n5])] [sV,.one (.int .i64),.one (.int .i64)] c0 (fun (s:Int) (a7 c4:Bool) (a6:B8) (c5 g c1 p a9:Int) (b0:B8) (u k i:TV) (h2 e7:Int) e2=>need (List.all (cV s a7 c4 a6 c5 g c1 p a9 b0 u k i) As) (CallT PR DK [(.agg (cV v_0 v_1 v_2 v_3 v_4 v_5 v_6 v_7 v_8 v_9 v_10 v_11 v_12)),(.agg [.int .u8 d_0,.int .u8 d_1,.bool d_2,.bool d_3])] [.one (.int .i64)] e2 (fun (g6:Int) d=>BId (g6=0) (BId (e7=0) (CallT PR ED [(.agg (cV s a7 c4 a6 c5 g c1 p a9 b0 u k i)),(.agg (cV v_0 v_1 v_2 v_3 v_4 v_5 v_6 v_7 v_8 v_9 v_10 v_11 v_12))] [.one .bool] d (fun (g9:Bool) b=>BIf g9 (BIf d_2 (CallT PR AI [] [.one .bool] b (fun (f1:Bool) d8=>K f1 d8)) (CallT PR D6 [(.agg (cV s a7 c4 a6 c5 g c1 p a9 b0 u k i)),(.agg (cV v_0 v_1 v_2 v_3 v_4 v_5 v_6 v_7 v_8 v_9 v_10 v_11 v_12))] [.one .bool] b (fun (f8:Bool) y=>BIf f8 (CallT PR AI [] [.one .bool] y (fun (g3:Bool) e3=>K g3 e3)) (K false y)))) (K false b))) (K false d)) (K false d))))))))))))))))):CallT PR fn_datakitlaw28_GridLossless [.str src,(.agg (cV v_0 v_1 v_2 v_3 v_4 v_5 v_6 v_7 v_8 v_9 v_10 v_11 v_12)),(.agg [.int .u8 d_0,.int .u8 d_1,.bool d_2,.bool d_3])] [.one .bool] st K:=
 Ag (cfg:=⟨[4,5,7,8,11,14,18],[],[]⟩) (h:= .none) mixed (fun _ _=>Tryz.call13 _ _) Tryz.func13 (by kernel_rfl) (by kernel_rfl) h
theorem IM (v_0:Int) (v_1:Bool) (v_2:Bool) (v_3:B8) (v_4:Int) (v_5:Int) (v_6:Int) (v_7:Int) (v_8:Int) (v_9:B8) (v_10:TV) (v_11:TV) (v_12:TV) (st:St) (K:Bool->St->Prop) (h:CallT PR Bh [(.agg (cV v_0 v_1 v_2 v_3 v_4 v_5 v_6 v_7 v_8 v_9 v_10 v_11 v_12)),.int .i64 60,.int .i64 150,.int .i64 3000] [.one (.int .i64)] st (fun (n1:Int) a=>BId ((0:Int)<=n1) (CallT PR Bn [(.agg (cV v_0 v_1 v_2 v_3 v_4 v_5 v_6 v_7 v_8 v_9 v_10 v_11 v_12))] [.one (.int .i64)] a (fun (n2:Int) b=>K ((decide (n2<=20000))) b)) (K false a))):CallT PR De [(.agg (cV v_0 v_1 v_2 v_3 v_4 v_5 v_6 v_7 v_8 v_9 v_10 v_11 v_12))] [.one .bool] st K:=
 Ag (cfg:=⟨[1],[],[]⟩) (h:= .none) mixed (fun _ _=>Tryz.call32 _ _) Tryz.func32 (by kernel_rfl) (by kernel_rfl) h
theorem IO (st:St) (K:Bool->St->Prop) (h:CallT PR Ca [] [.agg [.int .u8,.int .u8,.bool,.bool]] st (fun (n1 n2:Int) (b1 b2:Bool) l=>CallT PR Dd [] [.agg [.int .i64,.int .i64,.int .i64,.int .i64,.int .i64]] l (fun (n3 n4 n5 n6 n7:Int) k=>CallT PR CM [.str Yn,(.agg [.int .u8 n1,.int .u8 n2,.bool b1,.bool b2]),(.agg [.int .i64 n3,.int .i64 n4,.int .i64 n5,.int .i64 n6,.int .i64 n7])] [sV,.one (.int .i64),.one (.int .i64)] k (fun (n8:Int) (b3 b4:Bool) (s1:B8) (n9 e c f b:Int) (s2:B8) (v1 v2 v3:TV) (q m:Int) d=>need (List.all (cV n8 b3 b4 s1 n9 e c f b s2 v1 v2 v3) As) (CallT PR Ca [] [.agg [.int .u8,.int .u8,.bool,.bool]] d (fun (o i:Int) (b5 b6:Bool) j=>CallT PR Im [(.agg (cV 4 false false [] 0 0 0 0 0 str10 .nilSlice .nilSlice .nilSlice)),(.agg [.int .u8 o,.int .u8 i,.bool b5,.bool b6])] [.one .str,.one (.int .i64)] j (fun (s3:B8) (p:Int) a=>BId (m=0) (need (isSl v2) (BId ((lenS v2:Int)=(2:Int)) (((0<=(1:Int)/\(1:Int)<(lenZ 13 v2:Int))/\need (isPtr (ixT 13 v2 (Int.toNat (1:Int)))) (Ae (Ad a [] (.t (Ao (ixT 13 v2 (Int.toNat (1:Int))) 12)) 0) (fun (v4:TV)=>need (isSl v4) (BId ((lenS v4:Int)=(2:Int)) (((0<=(1:Int)/\(1:Int)<(lenZ 13 v2:Int))/\need (isPtr (ixT 13 v2 (Int.toNat (1:Int)))) (Ae (Ad a [] (.t (Ao (ixT 13 v2 (Int.toNat (1:Int))) 12)) 0) (fun (v5:TV)=>((0<=(0:Int)/\(0:Int)<(lenZ 14 v5:Int))/\need (isPtr (ixT 14 v5 (Int.toNat (0:Int)))) (need (isPtr (Ao (ixT 14 v5 (Int.toNat (0:Int))) 1)) (Ae (Ad a [] (.t (Ao (Ao (ixT 14 v5 (Int.toNat (0:Int))) 1) 9)) 0) (fun (x3:TV)=>Af .str x3 (fun (s4:B8)=>BId (s4=str10) (((0<=(0:Int)/\(0:Int)<(lenZ 13 v2:Int))/\need (isPtr (ixT 13 v2 (Int.toNat (0:Int)))) (Ae (Ad a [] (.t (Ao (ixT 13 v2 (Int.toNat (0:Int))) 12)) 0) (fun (v6:TV)=>((0<=(0:Int)/\(0:Int)<(lenZ 14 v6:Int))/\need (isPtr (ixT 14 v6 (Int.toNat (0:Int)))) (need (isPtr (Ao (ixT 14 v6 (Int.toNat (0:Int))) 1)) (Ae (Ad a [] (.t (Ao (Ao (ixT 14 v6 (Int.toNat (0:Int))) 1) 0)) 0) (fun (x5:TV)=>Af (.int .i64) x5 (fun (n:Int)=>BId (n=2) (((0<=(1:Int)/\(1:Int)<(lenZ 13 v2:Int))/\need (isPtr (ixT 13 v2 (Int.toNat (1:Int)))) (Ae (Ad a [] (.t (Ao (ixT 13 v2 (Int.toNat (1:Int))) 12)) 0) (fun (v7:TV)=>((0<=(1:Int)/\(1:Int)<(lenZ 14 v7:Int))/\need (isPtr (ixT 14 v7 (Int.toNat (1:Int)))) (need (isPtr (Ao (ixT 14 v7 (Int.toNat (1:Int))) 1)) (Ae (Ad a [] (.t (Ao (Ao (ixT 14 v7 (Int.toNat (1:Int))) 1) 0)) 0) (fun (x7:TV)=>Af (.int .i64) x7 (fun (g:Int)=>BId (g=0) (BId (s3=str11) (K ((decide (p=0))) a) (K false a)) (K false a)))))))))) (K false a)))))))))) (K false a)))))))))) (K false a)))))) (K false a))) (K false a)))))))):CallT PR AI [] [.one .bool] st K:=
 Ag (cfg:=⟨[1],[],[]⟩) (h:= .none) mixed (fun _ _=>Tryz.call33 _ _) Tryz.func33 (by kernel_rfl) (by kernel_rfl) h
theorem Se (v_0:Int) (v_1:Bool) (v_2:Bool) (v_3:B8) (v_4:Int) (v_5:Int) (v_6:Int) (v_7:Int) (v_8:Int) (v_9:B8) (v_10:TV) (v_11:TV) (v_12:TV) (d_0:Int) (d_1:Int) (d_2:Bool) (d_3:Bool) (st:St) (K:B8->Int->St->Prop) (h:CallT PR B5 [(.agg [.int .u8 d_0,.int .u8 d_1,.bool d_2,.bool d_3])] [.one .bool] st (fun (b1:Bool) b=>BIf (!b1) (K [] 1 b) (CallT PR Du [(.agg (cV v_0 v_1 v_2 v_3 v_4 v_5 v_6 v_7 v_8 v_9 v_10 v_11 v_12))] [.one (.int .i64)] b (fun (n1:Int) a=>BId (n1≠0) (K [] n1 a) (CallT PR DJ [(.agg (cV v_0 v_1 v_2 v_3 v_4 v_5 v_6 v_7 v_8 v_9 v_10 v_11 v_12)),(.agg [.int .u8 d_0,.int .u8 d_1,.bool d_2,.bool d_3])] [.one .str,.one (.int .i64)] a (fun (s1:B8) (n2:Int) c=>K s1 n2 c)))))):CallT PR Im [(.agg (cV v_0 v_1 v_2 v_3 v_4 v_5 v_6 v_7 v_8 v_9 v_10 v_11 v_12)),(.agg [.int .u8 d_0,.int .u8 d_1,.bool d_2,.bool d_3])] [.one .str,.one (.int .i64)] st K:=
 Ag (cfg:=⟨[2,3],[],[]⟩) (h:= .none) mixed (fun _ _=>Tryz.call34 _ _) Tryz.func34 (by kernel_rfl) (by kernel_rfl) h
theorem Sf (s:B8) (quoted:Bool) (d_0:Int) (d_1:Int) (d_2:Bool) (d_3:Bool) (st:St) (K:V13 (St->Prop)) (h:BIf (!d_3) (CallT PR C9 [.str s] [sV] st (fun (n1:Int) (b1 b2:Bool) (s1:B8) (n2 n3 n4 n5 n6:Int) (s2:B8) (v1 v2 v3:TV) l4=>need (List.all (cV n1 b1 b2 s1 n2 n3 n4 n5 n6 s2 v1 v2 v3) As) (K n1 b1 b2 s1 n2 n3 n4 n5 n6 s2 v1 v2 v3 l4))) (BIf quoted (CallT PR C9 [.str s] [sV] st (fun (n7:Int) (b3 b4:Bool) (s3:B8) (n8 n9 g0 a2 f1:Int) (s4:B8) (v4 v5 v6:TV) l5=>need (List.all (cV n7 b3 b4 s3 n8 n9 g0 a2 f1 s4 v4 v5 v6) As) (K n7 b3 b4 s3 n8 n9 g0 a2 f1 s4 v4 v5 v6 l5))) (BId (s=([]:B8)) (CallT PR Kl [] [sV] st (fun (c8:Int) (b5 b6:Bool) (s5:B8) (j a8 o c2 w:Int) (s6:B8) (v7 v8 v9:TV) l8=>need (List.all (cV c8 b5 b6 s5 j a8 o c2 w s6 v7 v8 v9) As) (K c8 b5 b6 s5 j a8 o c2 w s6 v7 v8 v9 l8))) (BId (s=QX) (BId (s=QX) (CallT PR G7 [(.bool (decide (s=QX)))] [sV] st (fun (i3:Int) (b7 b8:Bool) (s7:B8) (g4 j2 c9 f8 a1:Int) (s8:B8) (t c4 k:TV) m1=>need (List.all (cV i3 b7 b8 s7 g4 j2 c9 f8 a1 s8 t c4 k) As) (K i3 b7 b8 s7 g4 j2 c9 f8 a1 s8 t c4 k m1))) (CallT PR Cz [.str s] [.agg [.bool,.str,.int .i64],.one (.int .i64)] st (fun (b9:Bool) (s9:B8) (k5 l3:Int) f3=>BId (l3=0) (CallT PR FV [(.agg [.bool b9,.str s9,.int .i64 k5])] [sV] f3 (fun (f:Int) (c5 f4:Bool) (f7:B8) (h9 a4 g6 d7 f5:Int) (d9:B8) (g m n:TV) l6=>need (List.all (cV f c5 f4 f7 h9 a4 g6 d7 f5 d9 g m n) As) (K f c5 f4 f7 h9 a4 g6 d7 f5 d9 g m n l6))) (CallT PR CX [.str s] [.agg [.int .i64,.int .i64,.int .i64,.int .i64],.one (.int .i64)] f3 (fun (m3 k7 l9 l7 l2:Int) b0=>BId (l2=0) (CallT PR E5 [(.agg [.int .i64 m3,.int .i64 k7,.int .i64 l9,.int .i64 l7])] [sV] b0 (fun (h5:Int) (i d:Bool) (j6:B8) (c0 j4 c h7 a0:Int) (g2:B8) (e1 d5 g3:TV) m2=>need (List.all (cV h5 i d j6 c0 j4 c h7 a0 g2 e1 d5 g3) As) (K h5 i d j6 c0 j4 c h7 a0 g2 e1 d5 g3 m2))) (CallT PR C9 [.str s] [sV] b0 (fun (g8:Int) (j5 a7:Bool) (h4:B8) (i5 e f9 i2 e2:Int) (h2:B8) (i9 i6 p:TV) k3=>need (List.all (cV g8 j5 a7 h4 i5 e f9 i2 e2 h2 i9 i6 p) As) (K g8 j5 a7 h4 i5 e f9 i2 e2 h2 i9 i6 p k3)))))))) (BId (s=ZK) (CallT PR G7 [(.bool (decide (s=QX)))] [sV] st (fun (c7:Int) (f0 g5:Bool) (x:B8) (i0 l e0 g1 a3:Int) (e4:B8) (i7 c6 g7:TV) k1=>need (List.all (cV c7 f0 g5 x i0 l e0 g1 a3 e4 i7 c6 g7) As) (K c7 f0 g5 x i0 l e0 g1 a3 e4 i7 c6 g7 k1))) (CallT PR Cz [.str s] [.agg [.bool,.str,.int .i64],.one (.int .i64)] st (fun (m4:Bool) (k6:B8) (l0 k9:Int) a=>BId (k9=0) (CallT PR FV [(.agg [.bool m4,.str k6,.int .i64 l0])] [sV] a (fun (j1:Int) (j7 z:Bool) (c1:B8) (i8 h6 h8 i4 d3:Int) (v:B8) (h1 f6 u:TV) j8=>need (List.all (cV j1 j7 z c1 i8 h6 h8 i4 d3 v h1 f6 u) As) (K j1 j7 z c1 i8 h6 h8 i4 d3 v h1 f6 u j8))) (CallT PR CX [.str s] [.agg [.int .i64,.int .i64,.int .i64,.int .i64],.one (.int .i64)] a (fun (k4 m0 k2 k8 l1:Int) b=>BId (l1=0) (CallT PR E5 [(.agg [.int .i64 k4,.int .i64 m0,.int .i64 k2,.int .i64 k8])] [sV] b (fun (d2:Int) (d4 f2:Bool) (d8:B8) (y e8 e3 e9 g9:Int) (j3:B8) (e5 h0 d0:TV) j9=>need (List.all (cV d2 d4 f2 d8 y e8 e3 e9 g9 j3 e5 h0 d0) As) (K d2 d4 f2 d8 y e8 e3 e9 g9 j3 e5 h0 d0 j9))) (CallT PR C9 [.str s] [sV] b (fun (a5:Int) (a9 q:Bool) (d6:B8) (e6 a6 e7 d1 c3:Int) (h3:B8) (i1 j0 r:TV) k0=>need (List.all (cV a5 a9 q d6 e6 a6 e7 d1 c3 h3 i1 j0 r) As) (K a5 a9 q d6 e6 a6 e7 d1 c3 h3 i1 j0 r k0)))))))))))):CallT PR CN [.str s,.bool quoted,(.agg [.int .u8 d_0,.int .u8 d_1,.bool d_2,.bool d_3])] [sV] st K:=
 Ag (cfg:=⟨[5,6,7,9],[],[]⟩) (h:= .none) mixed (fun _ _=>Tryz.call37 _ _) Tryz.func37 (by kernel_rfl) (by kernel_rfl) h
theorem KZ (src:B8) (d_0:Int) (d_1:Int) (d_2:Bool) (d_3:Bool) (l_0:Int) (l_1:Int) (l_2:Int) (l_3:Int) (l_4:Int) (st:St) (K:V13 (Int->Int->St->Prop)) (h:CallT PR Dx [.str src,(.agg [.int .u8 d_0,.int .u8 d_1,.bool d_2,.bool d_3]),(.agg [.int .i64 l_0,.int .i64 l_1,.int .i64 l_2,.int .i64 l_3,.int .i64 l_4])] [.agg [.int .i64,.str,.str,.tv,.str],.one (.int .i64),.one (.int .i64)] st (fun (n1:Int) (s1 s2:B8) (v1:TV) (s3:B8) (n2 n3:Int) a=>need (List.all [.int .i64 n1,.str s1,.str s2,v1,.str s3] As) (BId (n3≠0) (K 0 false false [] 0 0 0 0 0 [] .nilSlice .nilSlice .nilSlice n2 n3 a) (CallT PR Fb [(.agg [.int .i64 n1,.str s1,.str s2,v1,.str s3]),(.agg [.int .u8 d_0,.int .u8 d_1,.bool d_2,.bool d_3])] [sV,.one (.int .i64)] a (fun (n4:Int) (b1 b2:Bool) (s4:B8) (n5 n6 n7 n8 n9:Int) (s5:B8) (v2 v3 v4:TV) (b:Int) c=>need (List.all (cV n4 b1 b2 s4 n5 n6 n7 n8 n9 s5 v2 v3 v4) As) (need (List.all (cV n4 b1 b2 s4 n5 n6 n7 n8 n9 s5 v2 v3 v4) As) (K n4 b1 b2 s4 n5 n6 n7 n8 n9 s5 v2 v3 v4 0 b c))))))):CallT PR CM [.str src,(.agg [.int .u8 d_0,.int .u8 d_1,.bool d_2,.bool d_3]),(.agg [.int .i64 l_0,.int .i64 l_1,.int .i64 l_2,.int .i64 l_3,.int .i64 l_4])] [sV,.one (.int .i64),.one (.int .i64)] st K:=
 Ag (cfg:=⟨[4,5,6,9,12],[],[]⟩) (h:= .none) mixed (fun _ _=>Tryz.call39 _ _) Tryz.func39 (by kernel_rfl) (by kernel_rfl) h
theorem Qo (n_0:Int) (g:B8) (k:B8) (j:TV) (n:B8) (d_0:Int) (d_1:Int) (d_2:Bool) (d_3:Bool) (st:St) (K:V13 (Int->St->Prop)) (h:CallT PR EX [(.agg [.int .i64 n_0,.str g,.str k,j,.str n]),(.agg [.int .u8 d_0,.int .u8 d_1,.bool d_2,.bool d_3])] [.one .tv,.one (.int .i64)] st (fun (v1:TV) (n1:Int) l7=>BId (n1≠0) (K 0 false false [] 0 0 0 0 0 [] .nilSlice .nilSlice .nilSlice n1 l7) (CallT PR FC [(.agg [.int .i64 n_0,.str g,.str k,j,.str n]),(.agg [.int .u8 d_0,.int .u8 d_1,.bool d_2,.bool d_3])] [.one .tv,.one (.int .i64)] l7 (fun (v2:TV) (n2:Int) o8=>need (isSl v1) (∃(I1:Int->TV->TV->TV->Int->Int->Int->Bool->Bool->V13 (V13 (St->Prop))) (M1:Int->TV->TV->TV->Int->Int->Int->Bool->Bool->V13 (V13 (St->Nat))),(I1 0 v1 v2 v1 ((lenS v1:Int)) d_0 d_1 d_2 d_3 0 false false [] 0 0 0 0 0 [] .nilSlice .nilSlice .nilSlice 6 false false [] 0 0 0 0 0 [] .nilSlice .nilSlice .nilSlice o8)/\∀g b e u k n3 n4 b1 b2 n5 b3 b4 s1 n6 n7 n8 n9 x s2 v3 v4 v5 o b5 b6 s3 s q l p m s4 v6 v7 v8 r,I1 g b e u k n3 n4 b1 b2 n5 b3 b4 s1 n6 n7 n8 n9 x s2 v3 v4 v5 o b5 b6 s3 s q l p m s4 v6 v7 v8 r->(BId (g<k) (((0<=g/\g<(lenZ 1 u:Int))/\Ae (Ad r [] (.t (ixT 1 u g.toNat)) 0) (fun (v9:TV)=>BIf (!b1) (need (isSl v9) (∃(I2:Int->TV->TV->Int->TV->Int->Int->TV->Int->Int->Int->Bool->Bool->V13 (V13 (V13 (St->Prop)))) (M2:Int->TV->TV->Int->TV->Int->Int->TV->Int->Int->Int->Bool->Bool->V13 (V13 (V13 (St->Nat)))),(I2 0 b e g u k g v9 ((lenS v9:Int)) n3 n4 b1 b2 n5 b3 b4 s1 n6 n7 n8 n9 x s2 v3 v4 v5 o b5 b6 s3 s q l p m s4 v6 v7 v8 6 false false [] 0 0 0 0 0 [] .nilSlice .nilSlice .nilSlice r)/\∀j f c y d3 n f1 e9 j5 a1 z b7 b8 i2 b9 e4 s5 h0 i9 e6 g6 d5 s6 c6 e3 c2 d0 g2 c1 s7 e1 b0 h7 d8 h1 s8 c0 j1 c4 f3 a7 j0 s9 g3 h8 d4 f2 e7 g5 f5 j3 g9 a2,I2 j f c y d3 n f1 e9 j5 a1 z b7 b8 i2 b9 e4 s5 h0 i9 e6 g6 d5 s6 c6 e3 c2 d0 g2 c1 s7 e1 b0 h7 d8 h1 s8 c0 j1 c4 f3 a7 j0 s9 g3 h8 d4 f2 e7 g5 f5 j3 g9 a2->(BId (j<j5) (((0<=j/\j<(lenZ 1 e9:Int))/\Ae (Ad a2 [] (.t (ixT 1 e9 j.toNat)) 0) (fun (x2:TV)=>Af .str x2 (fun (o9:B8)=>((0<=y/\y<(lenZ 1 c:Int))/\Ae (Ad a2 [] (.t (ixT 1 c y.toNat)) 0) (fun (k5:TV)=>((0<=j/\j<(lenZ 1 k5:Int))/\Ae (Ad a2 [] (.t (ixT 1 k5 j.toNat)) 0) (fun (x4:TV)=>Af .bool x4 (fun (o7:Bool)=>CallT PR CN [.str o9,.bool o7,(.agg [.int .u8 a1,.int .u8 z,.bool b7,.bool b8])] [sV] a2 (fun (l6:Int) (m5 m8:Bool) (o5:B8) (m9 l4 o4 k7 n0:Int) (m7:B8) (o0 k8 o1:TV) m6=>(Ad m6 [] (.t (ixT 1 c y.toNat)) 0=some k5/\need (List.all (cV l6 m5 m8 o5 m9 l4 o4 k7 n0 m7 o0 k8 o1) As) (BH 63 13 168 j3 1 (cV l6 m5 m8 o5 m9 l4 o4 k7 n0 m7 o0 k8 o1) m6 (fun (k0:TV) l8=>need (List.all [k0] As) ((I2 ((i64.wrap (j+(1:Int)))) f c y d3 n f1 e9 j5 a1 z b7 b8 i2 b9 e4 s5 h0 i9 e6 g6 d5 s6 c6 e3 c2 d0 g2 c1 s7 e1 b0 h7 d8 h1 s8 c0 j1 c4 f3 a7 j0 s9 g3 h8 d4 f2 e7 g5 f5 k0 g9 l8/\M2 ((i64.wrap (j+(1:Int)))) f c y d3 n f1 e9 j5 a1 z b7 b8 i2 b9 e4 s5 h0 i9 e6 g6 d5 s6 c6 e3 c2 d0 g2 c1 s7 e1 b0 h7 d8 h1 s8 c0 j1 c4 f3 a7 j0 s9 g3 h8 d4 f2 e7 g5 f5 k0 g9 l8<M2 j f c y d3 n f1 e9 j5 a1 z b7 b8 i2 b9 e4 s5 h0 i9 e6 g6 d5 s6 c6 e3 c2 d0 g2 c1 s7 e1 b0 h7 d8 h1 s8 c0 j1 c4 f3 a7 j0 s9 g3 h8 d4 f2 e7 g5 f5 j3 g9 a2))))))))))))))) (need (List.all (cV f3 a7 j0 s9 g3 h8 d4 f2 e7 g5 f5 j3 g9) As) (BH 63 13 168 j1 1 (cV f3 a7 j0 s9 g3 h8 d4 f2 e7 g5 f5 j3 g9) a2 (fun (k4:TV) l3=>need (List.all [k4] As) ((I1 ((i64.wrap (f1+(1:Int)))) f c d3 n a1 z b7 b8 i2 b9 e4 s5 h0 i9 e6 g6 d5 s6 c6 e3 c2 d0 g2 c1 s7 e1 b0 h7 d8 h1 s8 c0 k4 c4 l3/\M1 ((i64.wrap (f1+(1:Int)))) f c d3 n a1 z b7 b8 i2 b9 e4 s5 h0 i9 e6 g6 d5 s6 c6 e3 c2 d0 g2 c1 s7 e1 b0 h7 d8 h1 s8 c0 k4 c4 l3<M1 g b e u k n3 n4 b1 b2 n5 b3 b4 s1 n6 n7 n8 n9 x s2 v3 v4 v5 o b5 b6 s3 s q l p m s4 v6 v7 v8 r)))))))) (BId ((0:Int)<g) (need (isSl v9) (∃(I3:Int->TV->TV->Int->TV->Int->Int->TV->Int->Int->Int->Bool->Bool->V13 (V13 (V13 (St->Prop)))) (M3:Int->TV->TV->Int->TV->Int->Int->TV->Int->Int->Int->Bool->Bool->V13 (V13 (V13 (St->Nat)))),(I3 0 b e g u k g v9 ((lenS v9:Int)) n3 n4 b1 b2 n5 b3 b4 s1 n6 n7 n8 n9 x s2 v3 v4 v5 o b5 b6 s3 s q l p m s4 v6 v7 v8 7 false false [] 0 0 0 0 0 [] .nilSlice .nilSlice .nilSlice r)/\∀i a d w f9 d1 a9 g1 a4 a0 a3 a5 a6 i4 c9 f0 h4 a8 g7 i1 f6 e5 h3 h2 g4 c7 h9 g0 e0 c8 c3 f4 g8 d7 d9 f7 f8 j4 e8 d6 c5 i6 d2 i8 i5 h5 h6 i3 e2 i0 i7 j2 v,I3 i a d w f9 d1 a9 g1 a4 a0 a3 a5 a6 i4 c9 f0 h4 a8 g7 i1 f6 e5 h3 h2 g4 c7 h9 g0 e0 c8 c3 f4 g8 d7 d9 f7 f8 j4 e8 d6 c5 i6 d2 i8 i5 h5 h6 i3 e2 i0 i7 j2 v->(BId (i<a4) (((0<=i/\i<(lenZ 1 g1:Int))/\Ae (Ad v [] (.t (ixT 1 g1 i.toNat)) 0) (fun (x5:TV)=>Af .str x5 (fun (o6:B8)=>((0<=(0:Int)/\(0:Int)<(lenZ 1 a:Int))/\Ae (Ad v [] (.t (ixT 1 a (Int.toNat (0:Int)))) 0) (fun (j7:TV)=>((0<=i/\i<(lenZ 1 j7:Int))/\Ae (Ad v [] (.t (ixT 1 j7 i.toNat)) 0) (fun (x7:TV)=>Af .str x7 (fun (k2:B8)=>((0<=w/\w<(lenZ 1 d:Int))/\Ae (Ad v [] (.t (ixT 1 d w.toNat)) 0) (fun (k1:TV)=>((0<=i/\i<(lenZ 1 k1:Int))/\Ae (Ad v [] (.t (ixT 1 k1 i.toNat)) 0) (fun (x9:TV)=>Af .bool x9 (fun (p0:Bool)=>CallT PR CN [.str o6,.bool p0,(.agg [.int .u8 a0,.int .u8 a3,.bool a5,.bool a6])] [sV] v (fun (m0:Int) (l9 o2:Bool) (o3:B8) (l0 m4 k9 l1 l5:Int) (m3:B8) (m2 m1 l2:TV) j6=>(Ad j6 [] (.t (ixT 1 d w.toNat)) 0=some k1/\(Ad j6 [] (.t (ixT 1 j7 i.toNat)) 0=some (.str k2)/\(Ad j6 [] (.t (ixT 1 a (Int.toNat (0:Int)))) 0=some j7/\need (List.all [.str k2,.int .i64 m0,.bool l9,.bool o2,.str o3,.int .i64 l0,.int .i64 m4,.int .i64 k9,.int .i64 l1,.int .i64 l5,.str m3,m2,m1,l2] As) (BH 136 14 184 j2 1 [.str k2,.int .i64 m0,.bool l9,.bool o2,.str o3,.int .i64 l0,.int .i64 m4,.int .i64 k9,.int .i64 l1,.int .i64 l5,.str m3,m2,m1,l2] j6 (fun (j8:TV) k6=>need (List.all [j8] As) ((I3 ((i64.wrap (i+(1:Int)))) a d w f9 d1 a9 g1 a4 a0 a3 a5 a6 i4 c9 f0 h4 a8 g7 i1 f6 e5 h3 h2 g4 c7 h9 g0 e0 c8 c3 f4 g8 d7 d9 f7 f8 j4 e8 d6 c5 i6 d2 i8 i5 h5 h6 i3 e2 i0 i7 j8 k6/\M3 ((i64.wrap (i+(1:Int)))) a d w f9 d1 a9 g1 a4 a0 a3 a5 a6 i4 c9 f0 h4 a8 g7 i1 f6 e5 h3 h2 g4 c7 h9 g0 e0 c8 c3 f4 g8 d7 d9 f7 f8 j4 e8 d6 c5 i6 d2 i8 i5 h5 h6 i3 e2 i0 i7 j8 k6<M3 i a d w f9 d1 a9 g1 a4 a0 a3 a5 a6 i4 c9 f0 h4 a8 g7 i1 f6 e5 h3 h2 g4 c7 h9 g0 e0 c8 c3 f4 g8 d7 d9 f7 f8 j4 e8 d6 c5 i6 d2 i8 i5 h5 h6 i3 e2 i0 i7 j2 v)))))))))))))))))))))) (need (List.all (cV d6 c5 i6 d2 i8 i5 h5 h6 i3 e2 i0 i7 j2) As) (BH 63 13 168 j4 1 (cV d6 c5 i6 d2 i8 i5 h5 h6 i3 e2 i0 i7 j2) v (fun (k3:TV) j9=>need (List.all [k3] As) ((I1 ((i64.wrap (a9+(1:Int)))) a d f9 d1 a0 a3 a5 a6 i4 c9 f0 h4 a8 g7 i1 f6 e5 h3 h2 g4 c7 h9 g0 e0 c8 c3 f4 g8 d7 d9 f7 f8 k3 e8 j9/\M1 ((i64.wrap (a9+(1:Int)))) a d f9 d1 a0 a3 a5 a6 i4 c9 f0 h4 a8 g7 i1 f6 e5 h3 h2 g4 c7 h9 g0 e0 c8 c3 f4 g8 d7 d9 f7 f8 k3 e8 j9<M1 g b e u k n3 n4 b1 b2 n5 b3 b4 s1 n6 n7 n8 n9 x s2 v3 v4 v5 o b5 b6 s3 s q l p m s4 v6 v7 v8 r)))))))) ((I1 ((i64.wrap (g+(1:Int)))) b e u k n3 n4 b1 b2 n5 b3 b4 s1 n6 n7 n8 n9 x s2 v3 v4 v5 o b5 b6 s3 s q l p m s4 v6 v7 v8 r/\M1 ((i64.wrap (g+(1:Int)))) b e u k n3 n4 b1 b2 n5 b3 b4 s1 n6 n7 n8 n9 x s2 v3 v4 v5 o b5 b6 s3 s q l p m s4 v6 v7 v8 r<M1 g b e u k n3 n4 b1 b2 n5 b3 b4 s1 n6 n7 n8 n9 x s2 v3 v4 v5 o b5 b6 s3 s q l p m s4 v6 v7 v8 r)))))) (need (List.all (cV o b5 b6 s3 s q l p m s4 v6 v7 v8) As) (K o b5 b6 s3 s q l p m s4 v6 v7 v8 0 r)))))))):CallT PR Fb [(.agg [.int .i64 n_0,.str g,.str k,j,.str n]),(.agg [.int .u8 d_0,.int .u8 d_1,.bool d_2,.bool d_3])] [sV,.one (.int .i64)] st K:=
 Ag (cfg:=⟨[2,3,4,10,13,16],[],[61,64,92,95,100,103]⟩) (h:=(.seq .none (.seq .none (.seq .none (.seq .none (.seq .none (.seq (.seq .none (.block (.loop ⟨[(38,.int .i64),(6,.tv),(8,.tv),(36,.tv),(37,.int .i64)],[(3,1,0),(4,2,0),(10,3,0)],[(1,4),(2,13),(3,13)],[(1,0,.int .u8),(1,1,.int .u8),(1,2,.bool),(1,3,.bool),(2,0,.int .i64),(2,1,.bool),(2,2,.bool),(2,3,.str),(2,4,.int .i64),(2,5,.int .i64),(2,6,.int .i64),(2,7,.int .i64),(2,8,.int .i64),(2,9,.str),(2,10,.tv),(2,11,.tv),(2,12,.tv),(3,0,.int .i64),(3,1,.bool),(3,2,.bool),(3,3,.str),(3,4,.int .i64),(3,5,.int .i64),(3,6,.int .i64),(3,7,.int .i64),(3,8,.int .i64),(3,9,.str),(3,10,.tv),(3,11,.tv),(3,12,.tv)]⟩ (.seq .none (.seq .none (.seq (.block (.seq .none (.block (.seq .none (.cond (.seq .none (.seq (.seq .none (.block (.loop ⟨[(50,.int .i64),(6,.tv),(8,.tv),(11,.int .i64),(36,.tv),(37,.int .i64),(38,.int .i64),(48,.tv),(49,.int .i64)],[(3,1,0),(4,2,0),(10,3,0),(13,4,0)],[(1,4),(2,13),(3,13),(4,13)],[(1,0,.int .u8),(1,1,.int .u8),(1,2,.bool),(1,3,.bool),(2,0,.int .i64),(2,1,.bool),(2,2,.bool),(2,3,.str),(2,4,.int .i64),(2,5,.int .i64),(2,6,.int .i64),(2,7,.int .i64),(2,8,.int .i64),(2,9,.str),(2,10,.tv),(2,11,.tv),(2,12,.tv),(3,0,.int .i64),(3,1,.bool),(3,2,.bool),(3,3,.str),(3,4,.int .i64),(3,5,.int .i64),(3,6,.int .i64),(3,7,.int .i64),(3,8,.int .i64),(3,9,.str),(3,10,.tv),(3,11,.tv),(3,12,.tv),(4,0,.int .i64),(4,1,.bool),(4,2,.bool),(4,3,.str),(4,4,.int .i64),(4,5,.int .i64),(4,6,.int .i64),(4,7,.int .i64),(4,8,.int .i64),(4,9,.str),(4,10,.tv),(4,11,.tv),(4,12,.tv)]⟩ .none))) .none)) (.seq .none (.cond (.seq .none (.seq (.seq .none (.block (.loop ⟨[(83,.int .i64),(6,.tv),(8,.tv),(11,.int .i64),(36,.tv),(37,.int .i64),(38,.int .i64),(81,.tv),(82,.int .i64)],[(3,1,0),(4,2,0),(10,3,0),(16,5,0)],[(1,4),(2,13),(3,13),(5,13)],[(1,0,.int .u8),(1,1,.int .u8),(1,2,.bool),(1,3,.bool),(2,0,.int .i64),(2,1,.bool),(2,2,.bool),(2,3,.str),(2,4,.int .i64),(2,5,.int .i64),(2,6,.int .i64),(2,7,.int .i64),(2,8,.int .i64),(2,9,.str),(2,10,.tv),(2,11,.tv),(2,12,.tv),(3,0,.int .i64),(3,1,.bool),(3,2,.bool),(3,3,.str),(3,4,.int .i64),(3,5,.int .i64),(3,6,.int .i64),(3,7,.int .i64),(3,8,.int .i64),(3,9,.str),(3,10,.tv),(3,11,.tv),(3,12,.tv),(5,0,.int .i64),(5,1,.bool),(5,2,.bool),(5,3,.str),(5,4,.int .i64),(5,5,.int .i64),(5,6,.int .i64),(5,7,.int .i64),(5,8,.int .i64),(5,9,.str),(5,10,.tv),(5,11,.tv),(5,12,.tv)]⟩ .none))) .none)) .none))))))) .none)))))) .none))))))) mixed (fun _ _=>Tryz.call42 _ _) Tryz.func42 (by kernel_rfl) (by kernel_rfl) h
theorem Qm (v_0:Int) (v_1:Bool) (v_2:Bool) (v_3:B8) (v_4:Int) (v_5:Int) (v_6:Int) (v_7:Int) (v_8:Int) (v_9:B8) (v_10:TV) (v_11:TV) (v_12:TV) (d_0:Int) (d_1:Int) (d_2:Bool) (d_3:Bool) (st:St) (K:B8->Int->St->Prop) (h:CallT PR FX [(.agg (cV v_0 v_1 v_2 v_3 v_4 v_5 v_6 v_7 v_8 v_9 v_10 v_11 v_12)),(.agg [.int .u8 d_0,.int .u8 d_1,.bool d_2,.bool d_3])] [.one .str,.one (.int .i64)] st (fun (s1:B8) (n1:Int) a=>BId (n1=0) (BId ((1048576:Int)<(s1.length:Int)) (K [] 10 a) (K s1 n1 a)) (K s1 n1 a))):CallT PR Fa [(.agg (cV v_0 v_1 v_2 v_3 v_4 v_5 v_6 v_7 v_8 v_9 v_10 v_11 v_12)),(.agg [.int .u8 d_0,.int .u8 d_1,.bool d_2,.bool d_3])] [.one .str,.one (.int .i64)] st K:=
 Ag (cfg:=⟨[2,3],[],[]⟩) (h:= .none) mixed (fun _ _=>Tryz.call49 _ _) Tryz.func49 (by kernel_rfl) (by kernel_rfl) h
theorem Sg (v_0:Int) (v_1:Bool) (v_2:Bool) (v_3:B8) (v_4:Int) (v_5:Int) (v_6:Int) (v_7:Int) (v_8:Int) (v_9:B8) (v_10:TV) (v_11:TV) (v_12:TV) (d_0:Int) (d_1:Int) (d_2:Bool) (d_3:Bool) (st:St) (K:Int->St->Prop) (h:CallT PR FX [(.agg (cV v_0 v_1 v_2 v_3 v_4 v_5 v_6 v_7 v_8 v_9 v_10 v_11 v_12)),(.agg [.int .u8 d_0,.int .u8 d_1,.bool d_2,.bool d_3])] [.one .str,.one (.int .i64)] st (fun (s1:B8) (n1:Int) a=>K n1 a)):CallT PR DK [(.agg (cV v_0 v_1 v_2 v_3 v_4 v_5 v_6 v_7 v_8 v_9 v_10 v_11 v_12)),(.agg [.int .u8 d_0,.int .u8 d_1,.bool d_2,.bool d_3])] [.one (.int .i64)] st K:=
 Ag (cfg:=⟨[2,3],[],[]⟩) (h:= .none) mixed (fun _ _=>Tryz.call51 _ _) Tryz.func51 (by kernel_rfl) (by kernel_rfl) h
theorem Qe (a_0:Int) (a_1:Bool) (a_2:Bool) (a_3:B8) (a_4:Int) (a_5:Int) (a_6:Int) (a_7:Int) (a_8:Int) (a_9:B8) (a_10:TV) (a_11:TV) (a_12:TV) (b_0:Int) (b_1:Bool) (b_2:Bool) (b_3:B8) (b_4:Int) (b_5:Int) (b_6:Int) (b_7:Int) (b_8:Int) (b_9:B8) (b_10:TV) (b_11:TV) (b_12:TV) (st:St) (K:Bool->St->Prop) (h:CallT PR D5 [(.agg (cV a_0 a_1 a_2 a_3 a_4 a_5 a_6 a_7 a_8 a_9 a_10 a_11 a_12)),(.agg (cV b_0 b_1 b_2 b_3 b_4 b_5 b_6 b_7 b_8 b_9 b_10 b_11 b_12)),.bool true,.int .i64 65536] [.one .bool] st (fun (b1:Bool) a=>K b1 a)):CallT PR D6 [(.agg (cV a_0 a_1 a_2 a_3 a_4 a_5 a_6 a_7 a_8 a_9 a_10 a_11 a_12)),(.agg (cV b_0 b_1 b_2 b_3 b_4 b_5 b_6 b_7 b_8 b_9 b_10 b_11 b_12))] [.one .bool] st K:=
 Ag (cfg:=⟨[2,3],[],[]⟩) (h:= .none) mixed (fun _ _=>Tryz.call54 _ _) Tryz.func54 (by kernel_rfl) (by kernel_rfl) h
theorem Od (v_0:Int) (v_1:Bool) (v_2:Bool) (v_3:B8) (v_4:Int) (v_5:Int) (v_6:Int) (v_7:Int) (v_8:Int) (v_9:B8) (v_10:TV) (v_11:TV) (v_12:TV) (st:St) (K:Int->St->Prop) (h:stB (st.push (.cells [.int .i64 0]) (some 3)) (.box st.nb 0) [.int .i64 0] (fun b=>CallT PR Dt [(.agg (cV v_0 v_1 v_2 v_3 v_4 v_5 v_6 v_7 v_8 v_9 v_10 v_11 v_12)),.int .i64 1,(.box st.nb 0)] [.one (.int .i64)] b (fun (n1:Int) a=>K n1 a))):CallT PR Du [(.agg (cV v_0 v_1 v_2 v_3 v_4 v_5 v_6 v_7 v_8 v_9 v_10 v_11 v_12))] [.one (.int .i64)] st K:=
 Ag (cfg:=⟨[1],[],[]⟩) (h:= .none) mixed (fun _ _=>Tryz.call58 _ _) Tryz.func58 (by kernel_rfl) (by kernel_rfl) h
theorem Oc (a_0:Int) (a_1:Bool) (a_2:Bool) (a_3:B8) (a_4:Int) (a_5:Int) (a_6:Int) (a_7:Int) (a_8:Int) (a_9:B8) (a_10:TV) (a_11:TV) (a_12:TV) (b_0:Int) (b_1:Bool) (b_2:Bool) (b_3:B8) (b_4:Int) (b_5:Int) (b_6:Int) (b_7:Int) (b_8:Int) (b_9:B8) (b_10:TV) (b_11:TV) (b_12:TV) (st:St) (K:Bool->St->Prop) (h:CallT PR D5 [(.agg (cV a_0 a_1 a_2 a_3 a_4 a_5 a_6 a_7 a_8 a_9 a_10 a_11 a_12)),(.agg (cV b_0 b_1 b_2 b_3 b_4 b_5 b_6 b_7 b_8 b_9 b_10 b_11 b_12)),.bool false,.int .i64 65536] [.one .bool] st (fun (b1:Bool) a=>K b1 a)):CallT PR ED [(.agg (cV a_0 a_1 a_2 a_3 a_4 a_5 a_6 a_7 a_8 a_9 a_10 a_11 a_12)),(.agg (cV b_0 b_1 b_2 b_3 b_4 b_5 b_6 b_7 b_8 b_9 b_10 b_11 b_12))] [.one .bool] st K:=
 Ag (cfg:=⟨[2,3],[],[]⟩) (h:= .none) mixed (fun _ _=>Tryz.call59 _ _) Tryz.func59 (by kernel_rfl) (by kernel_rfl) h
theorem I6 (v_0:Int) (v_1:Bool) (v_2:Bool) (v_3:B8) (v_4:Int) (v_5:Int) (v_6:Int) (v_7:Int) (v_8:Int) (v_9:B8) (v_10:TV) (v_11:TV) (v_12:TV) (depth:Int) (n:Int) (bytes:Int) (st:St) (K:Int->St->Prop) (h:BId (depth<1) (K (-1) st) (BId (n<1) (K (-1) st) (BId (bytes<(v_9.length:Int)) (K (-1) st) (need (isSl v_10) (BId (bytes<(lenS v_10:Int)) (K (-1) st) (BId (bytes<(v_3.length:Int)) (K (-1) st) (need (isSl v_11) (BId (n<(lenS v_11:Int)) (K (-1) st) (need (isSl v_12) (BId (n<(lenS v_12:Int)) (K (-1) st) (∃(I1:Int->Int->Int->Int->V13 (St->Prop)) (M1:Int->Int->Int->Int->V13 (St->Nat)),(I1 ((i64.wrap (n-(1:Int)))) 0 depth bytes v_0 v_1 v_2 v_3 v_4 v_5 v_6 v_7 v_8 v_9 v_10 v_11 v_12 st)/\∀r l b a n1 b1 b2 s1 n2 n3 n4 n5 n6 s2 v1 v2 v3 o,I1 r l b a n1 b1 b2 s1 n2 n3 n4 n5 n6 s2 v1 v2 v3 o->(need (isSl v2) (BId (l<(lenS v2:Int)) (BId ((0:Int)<=r) (((0<=l/\l<(lenZ 13 v2:Int))/\Ae ((Ah o [] (.t (ixT 13 v2 l.toNat)) 0 13).map TV.agg) (fun (x1:TV)=>AK [.int .i64,.bool,.bool,.str,.int .i64,.int .i64,.int .i64,.int .i64,.int .i64,.str,.tv,.tv,.tv] x1 (fun (n7:Int) (b3 b4:Bool) (s3:B8) (n8 n9 e6 e4 d7:Int) (s4:B8) (v4 v5 v6:TV)=>CallT PR Bh [(.agg (cV n7 b3 b4 s3 n8 n9 e6 e4 d7 s4 v4 v5 v6)),(.int .i64 (i64.wrap (b-(1:Int)))),.int .i64 r,.int .i64 a] [.one (.int .i64)] o (fun (c4:Int) c2=>(I1 c4 ((i64.wrap (l+(1:Int)))) b a n1 b1 b2 s1 n2 n3 n4 n5 n6 s2 v1 v2 v3 c2/\M1 c4 ((i64.wrap (l+(1:Int)))) b a n1 b1 b2 s1 n2 n3 n4 n5 n6 s2 v1 v2 v3 c2<M1 r l b a n1 b1 b2 s1 n2 n3 n4 n5 n6 s2 v1 v2 v3 o)))))) (∃(I2:Int->Int->Int->Int->V13 (St->Prop)) (M2:Int->Int->Int->Int->V13 (St->Nat)),(I2 r 0 b a n1 b1 b2 s1 n2 n3 n4 n5 n6 s2 v1 v2 v3 o)/\∀p f g c x b5 b6 s5 a9 z a1 a4 a3 s6 v7 v8 v9 m,I2 p f g c x b5 b6 s5 a9 z a1 a4 a3 s6 v7 v8 v9 m->(need (isSl v9) (BId (f<(lenS v9:Int)) (BId ((0:Int)<=p) (((0<=f/\f<(lenZ 14 v9:Int))/\need (isPtr (ixT 14 v9 f.toNat)) (Ae (Ad m [] (.t (Ao (ixT 14 v9 f.toNat) 0)) 0) (fun (x2:TV)=>Af .str x2 (fun (s7:B8)=>BId (c<(s7.length:Int)) (K (-1) m) (((0<=f/\f<(lenZ 14 v9:Int))/\need (isPtr (ixT 14 v9 f.toNat)) (Ae ((Ah m [] (.t (Ao (ixT 14 v9 f.toNat) 1)) 0 13).map TV.agg) (fun (x3:TV)=>AK [.int .i64,.bool,.bool,.str,.int .i64,.int .i64,.int .i64,.int .i64,.int .i64,.str,.tv,.tv,.tv] x3 (fun (e9:Int) (b7 b8:Bool) (s8:B8) (e5 d6 e3 e2 d8:Int) (s9:B8) (d4 d5 c9:TV)=>CallT PR Bh [(.agg (cV e9 b7 b8 s8 e5 d6 e3 e2 d8 s9 d4 d5 c9)),(.int .i64 (i64.wrap (g-(1:Int)))),.int .i64 p,.int .i64 c] [.one (.int .i64)] m (fun (c0:Int) c1=>(I2 c0 ((i64.wrap (f+(1:Int)))) g c x b5 b6 s5 a9 z a1 a4 a3 s6 v7 v8 v9 c1/\M2 c0 ((i64.wrap (f+(1:Int)))) g c x b5 b6 s5 a9 z a1 a4 a3 s6 v7 v8 v9 c1<M2 p f g c x b5 b6 s5 a9 z a1 a4 a3 s6 v7 v8 v9 m)))))))))))) (K p m)) (K p m))))) (∃(I3:Int->Int->Int->Int->V13 (St->Prop)) (M3:Int->Int->Int->Int->V13 (St->Nat)),(I3 r 0 b a n1 b1 b2 s1 n2 n3 n4 n5 n6 s2 v1 v2 v3 o)/\∀q e i d u b9 a2 a6 a0 a7 a8 s a5 w v y j k,I3 q e i d u b9 a2 a6 a0 a7 a8 s a5 w v y j k->(need (isSl j) (BId (e<(lenS j:Int)) (BId ((0:Int)<=q) (((0<=e/\e<(lenZ 14 j:Int))/\need (isPtr (ixT 14 j e.toNat)) (Ae (Ad k [] (.t (Ao (ixT 14 j e.toNat) 0)) 0) (fun (x4:TV)=>Af .str x4 (fun (f0:B8)=>BId (d<(f0.length:Int)) (K (-1) k) (((0<=e/\e<(lenZ 14 j:Int))/\need (isPtr (ixT 14 j e.toNat)) (Ae ((Ah k [] (.t (Ao (ixT 14 j e.toNat) 1)) 0 13).map TV.agg) (fun (x5:TV)=>AK [.int .i64,.bool,.bool,.str,.int .i64,.int .i64,.int .i64,.int .i64,.int .i64,.str,.tv,.tv,.tv] x5 (fun (d3:Int) (e0 c7:Bool) (e7:B8) (e1 c6 d9 c8 d2:Int) (d0:B8) (d1 c5 e8:TV)=>CallT PR Bh [(.agg (cV d3 e0 c7 e7 e1 c6 d9 c8 d2 d0 d1 c5 e8)),(.int .i64 (i64.wrap (i-(1:Int)))),.int .i64 q,.int .i64 d] [.one (.int .i64)] k (fun (b0:Int) c3=>(I3 b0 ((i64.wrap (e+(1:Int)))) i d u b9 a2 a6 a0 a7 a8 s a5 w v y j c3/\M3 b0 ((i64.wrap (e+(1:Int)))) i d u b9 a2 a6 a0 a7 a8 s a5 w v y j c3<M3 q e i d u b9 a2 a6 a0 a7 a8 s a5 w v y j k)))))))))))) (K q k)) (K q k))))))))))))))))):CallT PR Bh [(.agg (cV v_0 v_1 v_2 v_3 v_4 v_5 v_6 v_7 v_8 v_9 v_10 v_11 v_12)),.int .i64 depth,.int .i64 n,.int .i64 bytes] [.one (.int .i64)] st K:=
 Ag (cfg:=⟨[4],[],[]⟩) (h:=(.seq .none (.seq .none (.seq .none (.seq (.seq .none (.block (.loop ⟨[(2,.int .i64),(9,.int .i64),(1,.int .i64),(3,.int .i64)],[(4,0,0)],[(0,13)],[(0,0,.int .i64),(0,1,.bool),(0,2,.bool),(0,3,.str),(0,4,.int .i64),(0,5,.int .i64),(0,6,.int .i64),(0,7,.int .i64),(0,8,.int .i64),(0,9,.str),(0,10,.tv),(0,11,.tv),(0,12,.tv)]⟩ .none))) (.seq (.seq .none (.block (.loop ⟨[(2,.int .i64),(10,.int .i64),(1,.int .i64),(3,.int .i64)],[(4,0,0)],[(0,13)],[(0,0,.int .i64),(0,1,.bool),(0,2,.bool),(0,3,.str),(0,4,.int .i64),(0,5,.int .i64),(0,6,.int .i64),(0,7,.int .i64),(0,8,.int .i64),(0,9,.str),(0,10,.tv),(0,11,.tv),(0,12,.tv)]⟩ .none))) .none)))))) mixed (fun _ _=>Tryz.call84 _ _) Tryz.func84 (by kernel_rfl) (by kernel_rfl) h
theorem HU (v_0:Int) (v_1:Bool) (v_2:Bool) (v_3:B8) (v_4:Int) (v_5:Int) (v_6:Int) (v_7:Int) (v_8:Int) (v_9:B8) (v_10:TV) (v_11:TV) (v_12:TV) (st:St) (K:Int->St->Prop) (h:need (isSl v_10) (∃(I1:Int->Int->V13 (St->Prop)) (M1:Int->Int->V13 (St->Nat)),(I1 ((i64.wrap ((i64.wrap ((v_9.length:Int)+(lenS v_10:Int)))+(v_3.length:Int)))) 0 v_0 v_1 v_2 v_3 v_4 v_5 v_6 v_7 v_8 v_9 v_10 v_11 v_12 st)/\∀f b n1 b1 b2 s1 n2 n3 n4 n5 n6 s2 v1 v2 v3 d,I1 f b n1 b1 b2 s1 n2 n3 n4 n5 n6 s2 v1 v2 v3 d->(need (isSl v2) (BId (b<(lenS v2:Int)) (((0<=b/\b<(lenZ 13 v2:Int))/\Ae ((Ah d [] (.t (ixT 13 v2 b.toNat)) 0 13).map TV.agg) (fun (x1:TV)=>AK [.int .i64,.bool,.bool,.str,.int .i64,.int .i64,.int .i64,.int .i64,.int .i64,.str,.tv,.tv,.tv] x1 (fun (n7:Int) (b3 b4:Bool) (s3:B8) (n8 n9 a2 a0 w:Int) (s4:B8) (v4 v5 v6:TV)=>CallT PR Bn [(.agg (cV n7 b3 b4 s3 n8 n9 a2 a0 w s4 v4 v5 v6))] [.one (.int .i64)] d (fun (q:Int) p=>(I1 ((i64.wrap (f+q))) ((i64.wrap (b+(1:Int)))) n1 b1 b2 s1 n2 n3 n4 n5 n6 s2 v1 v2 v3 p/\M1 ((i64.wrap (f+q))) ((i64.wrap (b+(1:Int)))) n1 b1 b2 s1 n2 n3 n4 n5 n6 s2 v1 v2 v3 p<M1 f b n1 b1 b2 s1 n2 n3 n4 n5 n6 s2 v1 v2 v3 d)))))) (∃(I2:Int->Int->V13 (St->Prop)) (M2:Int->Int->V13 (St->Nat)),(I2 f 0 n1 b1 b2 s1 n2 n3 n4 n5 n6 s2 v1 v2 v3 d)/\∀e a g b5 b6 s5 m i j l k s6 v7 v8 v9 c,I2 e a g b5 b6 s5 m i j l k s6 v7 v8 v9 c->(need (isSl v9) (BId (a<(lenS v9:Int)) (((0<=a/\a<(lenZ 14 v9:Int))/\need (isPtr (ixT 14 v9 a.toNat)) (Ae (Ad c [] (.t (Ao (ixT 14 v9 a.toNat) 0)) 0) (fun (x2:TV)=>Af .str x2 (fun (s7:B8)=>((0<=a/\a<(lenZ 14 v9:Int))/\need (isPtr (ixT 14 v9 a.toNat)) (Ae ((Ah c [] (.t (Ao (ixT 14 v9 a.toNat) 1)) 0 13).map TV.agg) (fun (x3:TV)=>AK [.int .i64,.bool,.bool,.str,.int .i64,.int .i64,.int .i64,.int .i64,.int .i64,.str,.tv,.tv,.tv] x3 (fun (a3:Int) (b7 b8:Bool) (s8:B8) (a1 v z y x:Int) (s9:B8) (s u r:TV)=>CallT PR Bn [(.agg (cV a3 b7 b8 s8 a1 v z y x s9 s u r))] [.one (.int .i64)] c (fun (o:Int) n=>(Ad n [] (.t (Ao (ixT 14 v9 a.toNat) 0)) 0=some (.str s7)/\(I2 ((i64.wrap ((i64.wrap (e+(s7.length:Int)))+o))) ((i64.wrap (a+(1:Int)))) g b5 b6 s5 m i j l k s6 v7 v8 v9 n/\M2 ((i64.wrap ((i64.wrap (e+(s7.length:Int)))+o))) ((i64.wrap (a+(1:Int)))) g b5 b6 s5 m i j l k s6 v7 v8 v9 n<M2 e a g b5 b6 s5 m i j l k s6 v7 v8 v9 c)))))))))))) (K e c)))))))):CallT PR Bn [(.agg (cV v_0 v_1 v_2 v_3 v_4 v_5 v_6 v_7 v_8 v_9 v_10 v_11 v_12))] [.one (.int .i64)] st K:=
 Ag (cfg:=⟨[1],[],[46,54]⟩) (h:=(.seq .none (.seq .none (.seq (.seq .none (.block (.loop ⟨[(3,.int .i64),(4,.int .i64)],[(1,0,0)],[(0,13)],[(0,0,.int .i64),(0,1,.bool),(0,2,.bool),(0,3,.str),(0,4,.int .i64),(0,5,.int .i64),(0,6,.int .i64),(0,7,.int .i64),(0,8,.int .i64),(0,9,.str),(0,10,.tv),(0,11,.tv),(0,12,.tv)]⟩ .none))) (.seq (.seq .none (.block (.loop ⟨[(3,.int .i64),(5,.int .i64)],[(1,0,0)],[(0,13)],[(0,0,.int .i64),(0,1,.bool),(0,2,.bool),(0,3,.str),(0,4,.int .i64),(0,5,.int .i64),(0,6,.int .i64),(0,7,.int .i64),(0,8,.int .i64),(0,9,.str),(0,10,.tv),(0,11,.tv),(0,12,.tv)]⟩ .none))) .none))))) mixed (fun _ _=>Tryz.call85 _ _) Tryz.func85 (by kernel_rfl) (by kernel_rfl) h
theorem Sb (v_0:Int) (v_1:Bool) (v_2:Bool) (v_3:B8) (v_4:Int) (v_5:Int) (v_6:Int) (v_7:Int) (v_8:Int) (v_9:B8) (v_10:TV) (v_11:TV) (v_12:TV) (d_0:Int) (d_1:Int) (d_2:Bool) (d_3:Bool) (st:St) (K:B8->Int->St->Prop) (h:BIf (!d_3) (BId (v_0≠4) (K [] 27 st) (BId (v_0=0) (K [] 0 st) (BId (v_0=1) (BIf v_1 (K QX 0 st) (K ZK 0 st)) (BId (v_0=2) (CallT PR Ee [(.agg [.bool v_2,.str v_3,.int .i64 v_4])] [.one .str] st (fun (s1:B8) j=>K s1 0 j)) (BId (v_0=3) (CallT PR EG [(.agg [.int .i64 v_5,.int .i64 v_6,.int .i64 v_7,.int .i64 v_8])] [.one .str] st (fun (s2:B8) k=>K s2 0 k)) (BId (v_0=4) (CallT PR Cy [.str v_9,(.agg [.int .u8 d_0,.int .u8 d_1,.bool d_2,.bool d_3])] [.one .str,.one (.int .i64)] st (fun (s3:B8) (n1:Int) g=>BId (n1≠0) (K s3 n1 g) (BId (s3≠v_9) (K s3 n1 g) (CallT PR CN [.str s3,.bool false,(.agg [.int .u8 d_0,.int .u8 d_1,.bool d_2,.bool d_3])] [sV] g (fun (n2:Int) (b1 b2:Bool) (s4:B8) (n3 n4 n5 n6 n7:Int) (s5:B8) (v1 v2 v3:TV) e=>BId (n2=4) (K s3 n1 e) (Ae ((toBytes e (.list 1 .full 1 [.int .u8 d_1])).map TV.str) (fun (x1:TV)=>Af .str x1 (fun (s6:B8)=>(s6.length+s6.length<=9223372036854775807/\CallT PR AH [.str s3,.str s6,(.str (s6++s6))] [.one .str] e (fun (s7:B8) m=>(s6.length+s7.length<=9223372036854775807/\(((s6++s7)).length+s6.length<=9223372036854775807/\K (((s6++s7)++s6)) 0 m)))))))))))) (K [] 27 st))))))) (BId (v_0=0) (K [] 0 st) (BId (v_0=1) (BIf v_1 (K QX 0 st) (K ZK 0 st)) (BId (v_0=2) (CallT PR Ee [(.agg [.bool v_2,.str v_3,.int .i64 v_4])] [.one .str] st (fun (s8:B8) l=>K s8 0 l)) (BId (v_0=3) (CallT PR EG [(.agg [.int .i64 v_5,.int .i64 v_6,.int .i64 v_7,.int .i64 v_8])] [.one .str] st (fun (s9:B8) n=>K s9 0 n)) (BId (v_0=4) (CallT PR Cy [.str v_9,(.agg [.int .u8 d_0,.int .u8 d_1,.bool d_2,.bool d_3])] [.one .str,.one (.int .i64)] st (fun (b:B8) (n8:Int) f=>BId (n8≠0) (K b n8 f) (BId (b≠v_9) (K b n8 f) (CallT PR CN [.str b,.bool false,(.agg [.int .u8 d_0,.int .u8 d_1,.bool d_2,.bool d_3])] [sV] f (fun (n9:Int) (b3 b4:Bool) (o:B8) (u t s r p:Int) (q:B8) (v4 v5 v6:TV) d=>BId (n9=4) (K b n8 d) (Ae ((toBytes d (.list 1 .full 1 [.int .u8 d_1])).map TV.str) (fun (x2:TV)=>Af .str x2 (fun (a:B8)=>(a.length+a.length<=9223372036854775807/\CallT PR AH [.str b,.str a,(.str (a++a))] [.one .str] d (fun (c:B8) i=>(a.length+c.length<=9223372036854775807/\(((a++c)).length+a.length<=9223372036854775807/\K (((a++c)++a)) 0 i)))))))))))) (K [] 27 st))))))):CallT PR DJ [(.agg (cV v_0 v_1 v_2 v_3 v_4 v_5 v_6 v_7 v_8 v_9 v_10 v_11 v_12)),(.agg [.int .u8 d_0,.int .u8 d_1,.bool d_2,.bool d_3])] [.one .str,.one (.int .i64)] st K:=
 Ag (cfg:=⟨[2,3],[],[]⟩) (h:= .none) mixed (fun _ _=>Tryz.call87 _ _) Tryz.func87 (by kernel_rfl) (by kernel_rfl) h
theorem GY (s:B8) (st:St) (K:V13 (St->Prop)) (h:K 4 false false [] 0 0 0 0 0 s .nilSlice .nilSlice .nilSlice st):CallT PR C9 [.str s] [sV] st K:=
 Ag (cfg:=⟨[2],[],[]⟩) (h:= .none) mixed (fun _ _=>Tryz.call93 _ _) Tryz.func93 (by kernel_rfl) (by kernel_rfl) h
theorem Qf (st:St) (K:V13 (St->Prop)) (h:K 0 false false [] 0 0 0 0 0 [] .nilSlice .nilSlice .nilSlice st):CallT PR Kl [] [sV] st K:=
 Ag (cfg:=⟨[0],[],[]⟩) (h:= .none) mixed (fun _ _=>Tryz.call94 _ _) Tryz.func94 (by kernel_rfl) (by kernel_rfl) h
theorem Ka (b:Bool) (st:St) (K:V13 (St->Prop)) (h:K 1 b false [] 0 0 0 0 0 [] .nilSlice .nilSlice .nilSlice st):CallT PR G7 [.bool b] [sV] st K:=
 Ag (cfg:=⟨[2],[],[]⟩) (h:= .none) mixed (fun _ _=>Tryz.call95 _ _) Tryz.func95 (by kernel_rfl) (by kernel_rfl) h
theorem L3 (s:B8) (st:St) (K:Bool->B8->Int->Int->St->Prop) (h:CallT PR A6 [.str s,.str Fh] [.one .bool] st (fun (b1:Bool) z=>∃(C1:B8->Bool->Bool->B8->Int->St->Prop),(BIf b1 (((0<=(1:Int)/\(1:Int)<=(s.length:Int))/\C1 ((List.drop (Int.toNat (1:Int)) s)) b1 false [] 0 z)) (C1 s b1 false [] 0 z))/\∀l m b2 s1 n1 a2,C1 l m b2 s1 n1 a2->(CallT PR Dy [.str l] [.one (.int .i64)] a2 (fun (n2:Int) w=>∃(C2:B8->Bool->Int->Bool->B8->Int->St->Prop),(BId (n2=0) (K false [] 0 3 w) (BId ((1:Int)<n2) (((0<=(0:Int)/\(0:Int)<(l.length:Int))/\BId (((List.getD l (Int.toNat (0:Int)) 0).toNat:Int)=(48:Int)) (K false [] 0 3 w) (C2 l m n2 b2 s1 n1 w))) (C2 l m n2 b2 s1 n1 w)))/\∀b n a b3 s2 n3 a1,C2 b n a b3 s2 n3 a1->(((0<=a/\a<=(b.length:Int))/\((0<=a/\a<=(b.length:Int))/\∃(C3:B8->B8->Int->Bool->Bool->B8->Int->St->Prop),(CallT PR A6 [(.str (List.drop a.toNat b)),.str Kb] [.one .bool] a1 (fun (b4:Bool) a4=>BIf b4 (((0<=(1:Int)/\(1:Int)<=(((List.drop a.toNat b)).length:Int))/\CallT PR Dy [(.str (List.drop (Int.toNat (1:Int)) (List.drop a.toNat b)))] [.one (.int .i64)] a4 (fun (n4:Int) a3=>BId (n4=0) (K false [] 0 3 a3) (((0<=(1:Int)/\(1:Int)<=(i64.wrap (n4+(1:Int)))/\(i64.wrap (n4+(1:Int)))<=(((List.drop a.toNat b)).length:Int))/\(((List.take a.toNat b)).length+((List.drop (Int.toNat (1:Int)) (List.take (Int.toNat (i64.wrap (n4+(1:Int)))) (List.drop a.toNat b)))).length<=9223372036854775807/\((0<=(i64.wrap (n4+(1:Int)))/\(i64.wrap (n4+(1:Int)))<=(((List.drop a.toNat b)).length:Int))/\C3 ((List.drop (Int.toNat (i64.wrap (n4+(1:Int)))) (List.drop a.toNat b))) (((List.take a.toNat b)++(List.drop (Int.toNat (1:Int)) (List.take (Int.toNat (i64.wrap (n4+(1:Int)))) (List.drop a.toNat b))))) ((i64.wrap (0-n4))) n b3 s2 n3 a3))))))) (C3 ((List.drop a.toNat b)) ((List.take a.toNat b)) 0 n b3 s2 n3 a4)))/\∀d j k i b5 s3 n5 q,C3 d j k i b5 s3 n5 q->(BId (d≠([]:B8)) (∃(C4:B8->Bool->B8->Int->Bool->B8->Int->St->Prop),(((0<=(0:Int)/\(0:Int)<(d.length:Int))/\BId (((List.getD d (Int.toNat (0:Int)) 0).toNat:Int)≠(101:Int)) (((0<=(0:Int)/\(0:Int)<(d.length:Int))/\BId (((List.getD d (Int.toNat (0:Int)) 0).toNat:Int)≠(69:Int)) (K false [] 0 3 q) (C4 d i j k b5 s3 n5 q))) (C4 d i j k b5 s3 n5 q)))/\∀c e g f b6 s4 n6 a5,C4 c e g f b6 s4 n6 a5->(((0<=(1:Int)/\(1:Int)<=(c.length:Int))/\CallT PR A6 [(.str (List.drop (Int.toNat (1:Int)) c)),.str Fh] [.one .bool] a5 (fun (b7:Bool) a0=>∃(C5:B8->Bool->B8->Int->Bool->Bool->B8->Int->St->Prop),(BIf b7 (((0<=(1:Int)/\(1:Int)<=(((List.drop (Int.toNat (1:Int)) c)).length:Int))/\C5 ((List.drop (Int.toNat (1:Int)) (List.drop (Int.toNat (1:Int)) c))) e g f b7 b6 s4 n6 a0)) (CallT PR A6 [(.str (List.drop (Int.toNat (1:Int)) c)),.str TU] [.one .bool] a0 (fun (b8:Bool) y=>BIf b8 (((0<=(1:Int)/\(1:Int)<=(((List.drop (Int.toNat (1:Int)) c)).length:Int))/\C5 ((List.drop (Int.toNat (1:Int)) (List.drop (Int.toNat (1:Int)) c))) e g f b7 b6 s4 n6 y)) (C5 ((List.drop (Int.toNat (1:Int)) c)) e g f b7 b6 s4 n6 y))))/\∀p t u v o b9 s5 n7 r,C5 p t u v o b9 s5 n7 r->(BId (p=([]:B8)) (K false [] 0 3 r) (CallT PR Dy [.str p] [.one (.int .i64)] r (fun (n8:Int) x=>BId (n8≠(p.length:Int)) (K false [] 0 3 x) (CallT PR DT [.str p,.str Le] [.one .str] x (fun (s6:B8) a8=>CallT PR EY [.int .i64 v,.bool o,.str s6] [.one (.int .i64)] a8 (fun (n9:Int) a6=>CallT PR CY [.bool t,.str u,.int .i64 n9] [.agg [.bool,.str,.int .i64],.one (.int .i64)] a6 (fun (b0:Bool) (s7:B8) (c4 c3:Int) a7=>K b0 s7 c4 c3 a7))))))))))) (CallT PR CY [.bool i,.str j,.int .i64 k] [.agg [.bool,.str,.int .i64],.one (.int .i64)] q (fun (c2:Bool) (s8:B8) (c1 c0:Int) a9=>K c2 s8 c1 c0 a9)))))))))):CallT PR Cz [.str s] [.agg [.bool,.str,.int .i64],.one (.int .i64)] st K:=
 Ag (cfg:=⟨[2],[],[]⟩) (h:=(.seq .none (.seq .none (.cut ⟨[(0,.str),(4,.bool)],[(2,0,0)],[(0,3)],[(0,0,.bool),(0,1,.str),(0,2,.int .i64)]⟩ .none (.seq .none (.cut ⟨[(0,.str),(4,.bool),(5,.int .i64)],[(2,0,0)],[(0,3)],[(0,0,.bool),(0,1,.str),(0,2,.int .i64)]⟩ .none (.seq .none (.seq .none (.seq .none (.cut ⟨[(0,.str),(6,.str),(7,.int .i64),(4,.bool)],[(2,0,0)],[(0,3)],[(0,0,.bool),(0,1,.str),(0,2,.int .i64)]⟩ .none (.seq (.seq .none (.cond (.cut ⟨[(0,.str),(4,.bool),(6,.str),(7,.int .i64)],[(2,0,0)],[(0,3)],[(0,0,.bool),(0,1,.str),(0,2,.int .i64)]⟩ .none (.seq .none (.seq .none (.cut ⟨[(0,.str),(4,.bool),(6,.str),(7,.int .i64),(8,.bool)],[(2,0,0)],[(0,3)],[(0,0,.bool),(0,1,.str),(0,2,.int .i64)]⟩ .none .none)))) .none)) .none))))))))))) mixed (fun _ _=>Tryz.call96 _ _) Tryz.func96 (by kernel_rfl) (by kernel_rfl) h
theorem R5 (d_0:Bool) (d_1:B8) (d_2:Int) (st:St) (K:V13 (St->Prop)) (h:K 2 false d_0 d_1 d_2 0 0 0 0 [] .nilSlice .nilSlice .nilSlice st):CallT PR FV [(.agg [.bool d_0,.str d_1,.int .i64 d_2])] [sV] st K:=
 Ag (cfg:=⟨[1,2],[],[]⟩) (h:= .none) mixed (fun _ _=>Tryz.call97 _ _) Tryz.func97 (by kernel_rfl) (by kernel_rfl) h
theorem Nw (s:B8) (st:St) (K:Int->Int->Int->Int->Int->St->Prop) (h:CallT PR Dc [(.box st.nb 0),(.box (st.push (.cells [.str s,.bool false]) (some 220)).nb 0)] [.one (.int .i64)] ((st.push (.cells [.str s,.bool false]) (some 220)).push (.cells [.int .i64 0,.int .i64 0,.int .i64 0,.int .i64 0,.int .i64 0,.int .i64 0,.int .i64 0,.int .u8 0,.int .i64 0,.int .i64 0]) (some 222)) (fun (n1:Int) a=>Ae (Ad a [] (.t (.box st.nb 1)) 0) (fun (x1:TV)=>Af .bool x1 (fun (b1:Bool)=>BIf b1 (K 0 0 0 0 3 a) (Ae (Ad a [] (.t (.box st.nb 0)) 0) (fun (x2:TV)=>Af .str x2 (fun (s1:B8)=>BId (s1≠([]:B8)) (K 0 0 0 0 3 a) (BId (n1≠2) (Ae (Ad a [] (.t (.box (st.push (.cells [.str s,.bool false]) (some 220)).nb 0)) 0) (fun (x3:TV)=>Af (.int .i64) x3 (fun (n2:Int)=>Ae (Ad a [] (.t (.box (st.push (.cells [.str s,.bool false]) (some 220)).nb 1)) 0) (fun (x4:TV)=>Af (.int .i64) x4 (fun (n3:Int)=>Ae (Ad a [] (.t (.box (st.push (.cells [.str s,.bool false]) (some 220)).nb 2)) 0) (fun (x5:TV)=>Af (.int .i64) x5 (fun (n4:Int)=>CallT PR FE [.int .i64 n2,.int .i64 n3,.int .i64 n4] [.one (.int .i64),.one (.int .i64)] a (fun (n5 n6:Int) b=>BId (n6≠0) (K 0 0 0 0 2 b) (Ae (Ad b [] (.t (.box (st.push (.cells [.str s,.bool false]) (some 220)).nb 3)) 0) (fun (x6:TV)=>Af (.int .i64) x6 (fun (n7:Int)=>BId ((23:Int)<n7) (K 0 0 0 0 2 b) (Ae (Ad b [] (.t (.box (st.push (.cells [.str s,.bool false]) (some 220)).nb 4)) 0) (fun (x7:TV)=>Af (.int .i64) x7 (fun (n8:Int)=>BId ((59:Int)<n8) (K 0 0 0 0 2 b) (Ae (Ad b [] (.t (.box (st.push (.cells [.str s,.bool false]) (some 220)).nb 5)) 0) (fun (x8:TV)=>Af (.int .i64) x8 (fun (n9:Int)=>BId ((59:Int)<n9) (K 0 0 0 0 2 b) (Ae (Ad b [] (.t (.box (st.push (.cells [.str s,.bool false]) (some 220)).nb 8)) 0) (fun (x9:TV)=>Af (.int .i64) x9 (fun (b3:Int)=>BId ((23:Int)<b3) (K 0 0 0 0 2 b) (Ae (Ad b [] (.t (.box (st.push (.cells [.str s,.bool false]) (some 220)).nb 9)) 0) (fun (a6:TV)=>Af (.int .i64) a6 (fun (a9:Int)=>BId ((59:Int)<a9) (K 0 0 0 0 2 b) (Ae (Ad b [] (.t (.box (st.push (.cells [.str s,.bool false]) (some 220)).nb 3)) 0) (fun (b9:TV)=>Af (.int .i64) b9 (fun (k:Int)=>Ae (Ad b [] (.t (.box (st.push (.cells [.str s,.bool false]) (some 220)).nb 4)) 0) (fun (p:TV)=>Af (.int .i64) p (fun (j:Int)=>Ae (Ad b [] (.t (.box (st.push (.cells [.str s,.bool false]) (some 220)).nb 5)) 0) (fun (a7:TV)=>Af (.int .i64) a7 (fun (e:Int)=>Ae (Ad b [] (.t (.box (st.push (.cells [.str s,.bool false]) (some 220)).nb 6)) 0) (fun (c0:TV)=>Af (.int .i64) c0 (fun (o:Int)=>Ae (Ad b [] (.t (.box (st.push (.cells [.str s,.bool false]) (some 220)).nb 8)) 0) (fun (b4:TV)=>Af (.int .i64) b4 (fun (f:Int)=>Ae (Ad b [] (.t (.box (st.push (.cells [.str s,.bool false]) (some 220)).nb 9)) 0) (fun (u:TV)=>Af (.int .i64) u (fun (i:Int)=>Ae (Ad b [] (.t (.box (st.push (.cells [.str s,.bool false]) (some 220)).nb 7)) 0) (fun (w:TV)=>Af (.int .u8) w (fun (a4:Int)=>BId (a4=45) (K n1 n5 ((i64.wrap ((i64.wrap ((i64.wrap ((i64.wrap ((i64.wrap ((i64.wrap (k*(60:Int)))+j))*(60:Int)))+e))*(1000000000:Int)))+o))) ((i64.wrap (0-(i64.wrap ((i64.wrap (f*(60:Int)))+i))))) 0 b) (K n1 n5 ((i64.wrap ((i64.wrap ((i64.wrap ((i64.wrap ((i64.wrap ((i64.wrap (k*(60:Int)))+j))*(60:Int)))+e))*(1000000000:Int)))+o))) ((i64.wrap ((i64.wrap (f*(60:Int)))+i))) 0 b))))))))))))))))))))))))))))))))))))))) (Ae (Ad a [] (.t (.box (st.push (.cells [.str s,.bool false]) (some 220)).nb 3)) 0) (fun (b0:TV)=>Af (.int .i64) b0 (fun (a1:Int)=>BId ((23:Int)<a1) (K 0 0 0 0 2 a) (Ae (Ad a [] (.t (.box (st.push (.cells [.str s,.bool false]) (some 220)).nb 4)) 0) (fun (v:TV)=>Af (.int .i64) v (fun (b5:Int)=>BId ((59:Int)<b5) (K 0 0 0 0 2 a) (Ae (Ad a [] (.t (.box (st.push (.cells [.str s,.bool false]) (some 220)).nb 5)) 0) (fun (a2:TV)=>Af (.int .i64) a2 (fun (b2:Int)=>BId ((59:Int)<b2) (K 0 0 0 0 2 a) (Ae (Ad a [] (.t (.box (st.push (.cells [.str s,.bool false]) (some 220)).nb 8)) 0) (fun (q:TV)=>Af (.int .i64) q (fun (a5:Int)=>BId ((23:Int)<a5) (K 0 0 0 0 2 a) (Ae (Ad a [] (.t (.box (st.push (.cells [.str s,.bool false]) (some 220)).nb 9)) 0) (fun (y:TV)=>Af (.int .i64) y (fun (a8:Int)=>BId ((59:Int)<a8) (K 0 0 0 0 2 a) (Ae (Ad a [] (.t (.box (st.push (.cells [.str s,.bool false]) (some 220)).nb 3)) 0) (fun (b6:TV)=>Af (.int .i64) b6 (fun (m:Int)=>Ae (Ad a [] (.t (.box (st.push (.cells [.str s,.bool false]) (some 220)).nb 4)) 0) (fun (r:TV)=>Af (.int .i64) r (fun (l:Int)=>Ae (Ad a [] (.t (.box (st.push (.cells [.str s,.bool false]) (some 220)).nb 5)) 0) (fun (x:TV)=>Af (.int .i64) x (fun (d:Int)=>Ae (Ad a [] (.t (.box (st.push (.cells [.str s,.bool false]) (some 220)).nb 6)) 0) (fun (z:TV)=>Af (.int .i64) z (fun (c:Int)=>Ae (Ad a [] (.t (.box (st.push (.cells [.str s,.bool false]) (some 220)).nb 8)) 0) (fun (a3:TV)=>Af (.int .i64) a3 (fun (g:Int)=>Ae (Ad a [] (.t (.box (st.push (.cells [.str s,.bool false]) (some 220)).nb 9)) 0) (fun (a0:TV)=>Af (.int .i64) a0 (fun (n:Int)=>Ae (Ad a [] (.t (.box (st.push (.cells [.str s,.bool false]) (some 220)).nb 7)) 0) (fun (b7:TV)=>Af (.int .u8) b7 (fun (b8:Int)=>BId (b8=45) (K n1 0 ((i64.wrap ((i64.wrap ((i64.wrap ((i64.wrap ((i64.wrap ((i64.wrap (m*(60:Int)))+l))*(60:Int)))+d))*(1000000000:Int)))+c))) ((i64.wrap (0-(i64.wrap ((i64.wrap (g*(60:Int)))+n))))) 0 a) (K n1 0 ((i64.wrap ((i64.wrap ((i64.wrap ((i64.wrap ((i64.wrap ((i64.wrap (m*(60:Int)))+l))*(60:Int)))+d))*(1000000000:Int)))+c))) ((i64.wrap ((i64.wrap (g*(60:Int)))+n))) 0 a))))))))))))))))))))))))))))))))))))))):CallT PR CX [.str s] [.agg [.int .i64,.int .i64,.int .i64,.int .i64],.one (.int .i64)] st K:=
 Ag (cfg:=⟨[2,7],[],[]⟩) (h:= .none) mixed (fun _ _=>Tryz.call98 _ _) Tryz.func98 (by kernel_rfl) (by kernel_rfl) h
theorem Qd (t_0:Int) (t_1:Int) (t_2:Int) (t_3:Int) (st:St) (K:V13 (St->Prop)) (h:K 3 false false [] 0 t_0 t_1 t_2 t_3 [] .nilSlice .nilSlice .nilSlice st):CallT PR E5 [(.agg [.int .i64 t_0,.int .i64 t_1,.int .i64 t_2,.int .i64 t_3])] [sV] st K:=
 Ag (cfg:=⟨[1,2],[],[]⟩) (h:= .none) mixed (fun _ _=>Tryz.call99 _ _) Tryz.func99 (by kernel_rfl) (by kernel_rfl) h
theorem Sa (v_0:Int) (v_1:Bool) (v_2:Bool) (v_3:B8) (v_4:Int) (v_5:Int) (v_6:Int) (v_7:Int) (v_8:Int) (v_9:B8) (v_10:TV) (v_11:TV) (v_12:TV) (d_0:Int) (d_1:Int) (d_2:Bool) (d_3:Bool) (st:St) (K:B8->Int->St->Prop) (h:CallT PR B5 [(.agg [.int .u8 d_0,.int .u8 d_1,.bool d_2,.bool d_3])] [.one .bool] st (fun (b1:Bool) c=>BIf (!b1) (K [] 1 c) (CallT PR Du [(.agg (cV v_0 v_1 v_2 v_3 v_4 v_5 v_6 v_7 v_8 v_9 v_10 v_11 v_12))] [.one (.int .i64)] c (fun (n1:Int) b=>BId (n1≠0) (K [] n1 b) (CallT PR Gm [(.agg (cV v_0 v_1 v_2 v_3 v_4 v_5 v_6 v_7 v_8 v_9 v_10 v_11 v_12)),(.agg [.int .u8 d_0,.int .u8 d_1,.bool d_2,.bool d_3])] [.one .bool] b (fun (b2:Bool) a=>BIf (!b2) (K [] 27 a) (CallT PR Il [(.agg (cV v_0 v_1 v_2 v_3 v_4 v_5 v_6 v_7 v_8 v_9 v_10 v_11 v_12)),(.agg [.int .u8 d_0,.int .u8 d_1,.bool d_2,.bool d_3])] [.one .str,.one (.int .i64)] a (fun (s1:B8) (n2:Int) d=>K s1 n2 d)))))))):CallT PR FX [(.agg (cV v_0 v_1 v_2 v_3 v_4 v_5 v_6 v_7 v_8 v_9 v_10 v_11 v_12)),(.agg [.int .u8 d_0,.int .u8 d_1,.bool d_2,.bool d_3])] [.one .str,.one (.int .i64)] st K:=
 Ag (cfg:=⟨[2,3],[],[]⟩) (h:= .none) mixed (fun _ _=>Tryz.call114 _ _) Tryz.func114 (by kernel_rfl) (by kernel_rfl) h
theorem Qb (a_0:Int) (a_1:Bool) (a_2:Bool) (a_3:B8) (a_4:Int) (a_5:Int) (a_6:Int) (a_7:Int) (a_8:Int) (a_9:B8) (a_10:TV) (a_11:TV) (a_12:TV) (b_0:Int) (b_1:Bool) (b_2:Bool) (b_3:B8) (b_4:Int) (b_5:Int) (b_6:Int) (b_7:Int) (b_8:Int) (b_9:B8) (b_10:TV) (b_11:TV) (b_12:TV) (exact:Bool) (left:Int) (st:St) (K:Bool->St->Prop) (h:BId (a_0≠b_0) (K false ((st.push (.cells [.bool exact]) (some 4)).push (.cells [.int .i64 left]) (some 3))) (BIf (!(a_1==b_1)) (K false ((st.push (.cells [.bool exact]) (some 4)).push (.cells [.int .i64 left]) (some 3))) (BIf (!((a_2==b_2)&&(decide (a_3=b_3)&&(decide (a_4=b_4)&&true)))) (K false ((st.push (.cells [.bool exact]) (some 4)).push (.cells [.int .i64 left]) (some 3))) (BIf (!(decide (a_5=b_5)&&(decide (a_6=b_6)&&(decide (a_7=b_7)&&(decide (a_8=b_8)&&true))))) (K false ((st.push (.cells [.bool exact]) (some 4)).push (.cells [.int .i64 left]) (some 3))) (BId (a_9≠b_9) (K false ((st.push (.cells [.bool exact]) (some 4)).push (.cells [.int .i64 left]) (some 3))) (CallT PR BR [a_10,b_10] [.one .bool] ((st.push (.cells [.bool exact]) (some 4)).push (.cells [.int .i64 left]) (some 3)) (fun (b1:Bool) a=>BIf (!b1) (K false a) (Ae (Ad a [] (.t (.box (st.push (.cells [.bool exact]) (some 4)).nb 0)) 0) (fun (x1:TV)=>Af (.int .i64) x1 (fun (n1:Int)=>BId (n1<1) (K false a) (Ae (Ad a [] (.t (.box st.nb 0)) 0) (fun (x2:TV)=>Af .bool x2 (fun (b2:Bool)=>BIf (!b2) (CallT PR CV [(.agg (cV a_0 a_1 a_2 a_3 a_4 a_5 a_6 a_7 a_8 a_9 a_10 a_11 a_12))] [.one .tv] a (fun (v1:TV) i=>CallT PR CV [(.agg (cV b_0 b_1 b_2 b_3 b_4 b_5 b_6 b_7 b_8 b_9 b_10 b_11 b_12))] [.one .tv] i (fun (v2:TV) b=>stB (b.push (.cells [.nilFunc]) (some 69)) (.box b.nb 0) [(.func Ce [(.box st.nb 0),(.box (st.push (.cells [.bool exact]) (some 4)).nb 0)])] (fun c=>Ae (Ad c [] (.t (.box b.nb 0)) 0) (fun (v3:TV)=>CallT PR Av [a_11,b_11,v3] [.one .bool] c (fun (b3:Bool) d=>BIf b3 (CallT PR Aw [v1,v2,(.func Ec [(.box b.nb 0)])] [.one .bool] d (fun (b4:Bool) j=>K b4 j)) (K false d))))))) (stB (a.push (.cells [.nilFunc]) (some 69)) (.box a.nb 0) [(.func Ce [(.box st.nb 0),(.box (st.push (.cells [.bool exact]) (some 4)).nb 0)])] (fun f=>Ae (Ad f [] (.t (.box a.nb 0)) 0) (fun (v4:TV)=>CallT PR Av [a_11,b_11,v4] [.one .bool] f (fun (b5:Bool) e=>BIf b5 (CallT PR Aw [a_12,b_12,(.func Ec [(.box a.nb 0)])] [.one .bool] e (fun (b6:Bool) g=>K b6 g)) (K false e)))))))))))))))))):CallT PR D5 [(.agg (cV a_0 a_1 a_2 a_3 a_4 a_5 a_6 a_7 a_8 a_9 a_10 a_11 a_12)),(.agg (cV b_0 b_1 b_2 b_3 b_4 b_5 b_6 b_7 b_8 b_9 b_10 b_11 b_12)),.bool exact,.int .i64 left] [.one .bool] st K:=
 Ag (cfg:=⟨[4,5],[],[]⟩) (h:= .none) mixed (fun _ _=>Tryz.call117 _ _) Tryz.func117 (by kernel_rfl) (by kernel_rfl) h
theorem Bu (b:Nat) (st:St) (K:B8->St->Prop) (h:Ae (Ad st [] (.t (.box b 1)) 0) (fun (v1:TV)=>Ae (Mk v1) (fun (v2:TV)=>Ae (Ad st [] (.t (.box b 1)) 0) (fun (v3:TV)=>need (isSl v3) (usK 5 v2 (lenS v3:Int) st (fun (s1:B8) a=>K s1 a)))))):CallT PR AY [(.box b 0)] [.one .str] st K:=
 Ag (cfg:=⟨[],[],[]⟩) (h:= .none) mixed (fun _ _=>Tryz.call123 _ _) Tryz.func123 (by kernel_rfl) (by kernel_rfl) h
theorem Ob (v_0:Int) (e:Bool) (d:Bool) (v_3:B8) (v_4:Int) (v_5:Int) (v_6:Int) (v_7:Int) (v_8:Int) (v_9:B8) (v_10:TV) (v_11:TV) (v_12:TV) (depth:Int) (n:Nat) (st:St) (K:Int->St->Prop) (h:Ae (Ad st [] (.t (.box n 0)) 0) (fun (x1:TV)=>Af (.int .i64) x1 (fun (n1:Int)=>stB st (.box n 0) [(.int .i64 (i64.wrap (n1+(1:Int))))] (fun q=>∃(C1:Int->TV->V13 (St->Prop)),(BId ((48:Int)<depth) (K 9 q) (Ae (Ad q [] (.t (.box n 0)) 0) (fun (x2:TV)=>Af (.int .i64) x2 (fun (n2:Int)=>BId ((65536:Int)<n2) (K 10 q) (∃(C2:Bool->Int->TV->V13 (St->Prop)),(BId (v_0<0) (C2 true depth ((.box n 0)) v_0 e d v_3 v_4 v_5 v_6 v_7 v_8 v_9 v_10 v_11 v_12 q) (BId ((8:Int)<=v_0) (C2 true depth ((.box n 0)) v_0 e d v_3 v_4 v_5 v_6 v_7 v_8 v_9 v_10 v_11 v_12 q) (CallT PR Gj [(.agg (cV v_0 e d v_3 v_4 v_5 v_6 v_7 v_8 v_9 v_10 v_11 v_12))] [.one .bool] q (fun (b1:Bool) g7=>C2 b1 depth ((.box n 0)) v_0 e d v_3 v_4 v_5 v_6 v_7 v_8 v_9 v_10 v_11 v_12 g7))))/\∀g3 a m n3 b2 b3 s1 n4 n5 n6 n7 n8 s2 v1 v2 v3 v,C2 g3 a m n3 b2 b3 s1 n4 n5 n6 n7 n8 s2 v1 v2 v3 v->(BIf g3 (K 6 v) (∃(C3:Bool->Int->TV->V13 (St->Prop)),(BId (n3=2) (CallT PR DM [(.agg [.bool b3,.str s1,.int .i64 n4])] [.one .bool] v (fun (b4:Bool) c3=>BIf (!b4) (C3 true a m n3 b2 b3 s1 n4 n5 n6 n7 n8 s2 v1 v2 v3 c3) (BId (n3=3) (CallT PR CW [(.agg [.int .i64 n5,.int .i64 n6,.int .i64 n7,.int .i64 n8])] [.one .bool] c3 (fun (b5:Bool) h0=>C3 ((!b5)) a m n3 b2 b3 s1 n4 n5 n6 n7 n8 s2 v1 v2 v3 h0)) (C3 false a m n3 b2 b3 s1 n4 n5 n6 n7 n8 s2 v1 v2 v3 c3)))) (BId (n3=3) (CallT PR CW [(.agg [.int .i64 n5,.int .i64 n6,.int .i64 n7,.int .i64 n8])] [.one .bool] v (fun (b6:Bool) g8=>C3 ((!b6)) a m n3 b2 b3 s1 n4 n5 n6 n7 n8 s2 v1 v2 v3 g8)) (C3 false a m n3 b2 b3 s1 n4 n5 n6 n7 n8 s2 v1 v2 v3 v)))/\∀f6 f c2 n9 b7 b8 s3 c5 c0 c4 c1 b0 s4 v4 v5 v6 p,C3 f6 f c2 n9 b7 b8 s3 c5 c0 c4 c1 b0 s4 v4 v5 v6 p->(BIf f6 (K 2 p) (BId (n9=4) (CallT PR EE [.str s4] [.one .bool] p (fun (b9:Bool) a9=>BIf (!b9) (K 5 a9) (BId ((65536:Int)<(s4.length:Int)) (K 10 a9) (need (isSl v4) (BId ((65536:Int)<(lenS v4:Int)) (K 10 a9) (C1 f c2 n9 b7 b8 s3 c5 c0 c4 c1 b0 s4 v4 v5 v6 a9)))))) (BId ((65536:Int)<(s4.length:Int)) (K 10 p) (need (isSl v4) (BId ((65536:Int)<(lenS v4:Int)) (K 10 p) (C1 f c2 n9 b7 b8 s3 c5 c0 c4 c1 b0 s4 v4 v5 v6 p)))))))))))))/\∀o f7 d7 e1 e8 s5 d1 e0 d3 g1 f3 s6 v7 v8 v9 d2,C1 o f7 d7 e1 e8 s5 d1 e0 d3 g1 f3 s6 v7 v8 v9 d2->(CallT PR G6 [v9] [.one (.int .i64)] d2 (fun (g2:Int) c6=>BId (g2≠0) (K g2 c6) (need (isSl v8) (∃(I1:Int->Int->TV->TV->Int->V13 (St->Prop)) (M1:Int->Int->TV->TV->Int->V13 (St->Nat)),(I1 0 o f7 v8 ((lenS v8:Int)) d7 e1 e8 s5 d1 e0 d3 g1 f3 s6 v7 v8 v9 c6)/\∀g b r e w a7 a1 z s7 a8 a4 a3 a5 a0 s8 a2 a6 j k,I1 g b r e w a7 a1 z s7 a8 a4 a3 a5 a0 s8 a2 a6 j k->(BId (g<w) (((0<=g/\g<(lenZ 13 e:Int))/\Ae ((Ah k [] (.t (ixT 13 e g.toNat)) 0 13).map TV.agg) (fun (x3:TV)=>AK [.int .i64,.bool,.bool,.str,.int .i64,.int .i64,.int .i64,.int .i64,.int .i64,.str,.tv,.tv,.tv] x3 (fun (f9:Int) (g5 d6:Bool) (s9:B8) (d5 f5 e5 e9 g0:Int) (f0:B8) (c8 c9 d0:TV)=>need (List.all (cV f9 g5 d6 s9 d5 f5 e5 e9 g0 f0 c8 c9 d0) As) (CallT PR Dt [(.agg (cV f9 g5 d6 s9 d5 f5 e5 e9 g0 f0 c8 c9 d0)),(.int .i64 (i64.wrap (b+(1:Int)))),r] [.one (.int .i64)] k (fun (d4:Int) x=>BId (d4≠0) (K d4 x) ((I1 ((i64.wrap (g+(1:Int)))) b r e w a7 a1 z s7 a8 a4 a3 a5 a0 s8 a2 a6 j x/\M1 ((i64.wrap (g+(1:Int)))) b r e w a7 a1 z s7 a8 a4 a3 a5 a0 s8 a2 a6 j x<M1 g b r e w a7 a1 z s7 a8 a4 a3 a5 a0 s8 a2 a6 j k)))))))) (need (isSl j) (∃(I2:Int->Int->TV->TV->Int->St->Prop) (M2:Int->Int->TV->TV->Int->St->Nat),(I2 0 b r j ((lenS j:Int)) k)/\∀i c u d s l,I2 i c u d s l->(BId (i<s) (((0<=i/\i<(lenZ 14 d:Int))/\Ae ((Ah l [] (.t (ixT 14 d i.toNat)) 0 14).map TV.agg) (fun (x4:TV)=>AK [.str,.int .i64,.bool,.bool,.str,.int .i64,.int .i64,.int .i64,.int .i64,.int .i64,.str,.tv,.tv,.tv] x4 (fun (g9:B8) (e4:Int) (e7 f4:Bool) (g6:B8) (e2 d9 f8 d8 g4:Int) (f1:B8) (e6 e3 f2:TV)=>need (List.all [.str g9,.int .i64 e4,.bool e7,.bool f4,.str g6,.int .i64 e2,.int .i64 d9,.int .i64 f8,.int .i64 d8,.int .i64 g4,.str f1,e6,e3,f2] As) (CallT PR Dt [(.agg (cV e4 e7 f4 g6 e2 d9 f8 d8 g4 f1 e6 e3 f2)),(.int .i64 (i64.wrap (c+(1:Int)))),u] [.one (.int .i64)] l (fun (c7:Int) y=>BId (c7≠0) (K c7 y) ((I2 ((i64.wrap (i+(1:Int)))) c u d s y/\M2 ((i64.wrap (i+(1:Int)))) c u d s y<M2 i c u d s l)))))))) (K 0 l))))))))))))):CallT PR Dt [(.agg (cV v_0 e d v_3 v_4 v_5 v_6 v_7 v_8 v_9 v_10 v_11 v_12)),.int .i64 depth,(.box n 0)] [.one (.int .i64)] st K:=
 Ag (cfg:=⟨[3,9,12],[],[]⟩) (h:=(.seq .none (.seq .none (.cut ⟨[(1,.int .i64),(2,.tv)],[(3,0,0)],[(0,13)],[(0,0,.int .i64),(0,1,.bool),(0,2,.bool),(0,3,.str),(0,4,.int .i64),(0,5,.int .i64),(0,6,.int .i64),(0,7,.int .i64),(0,8,.int .i64),(0,9,.str),(0,10,.tv),(0,11,.tv),(0,12,.tv)]⟩ (.block (.seq .none (.cond .none (.seq .none (.cond .none (.cut ⟨[(27,.bool),(1,.int .i64),(2,.tv)],[(3,0,0)],[(0,13)],[(0,0,.int .i64),(0,1,.bool),(0,2,.bool),(0,3,.str),(0,4,.int .i64),(0,5,.int .i64),(0,6,.int .i64),(0,7,.int .i64),(0,8,.int .i64),(0,9,.str),(0,10,.tv),(0,11,.tv),(0,12,.tv)]⟩ .none (.cond .none (.cut ⟨[(40,.bool),(1,.int .i64),(2,.tv)],[(3,0,0)],[(0,13)],[(0,0,.int .i64),(0,1,.bool),(0,2,.bool),(0,3,.str),(0,4,.int .i64),(0,5,.int .i64),(0,6,.int .i64),(0,7,.int .i64),(0,8,.int .i64),(0,9,.str),(0,10,.tv),(0,11,.tv),(0,12,.tv)]⟩ .none .none)))))))) (.seq .none (.seq (.seq .none (.block (.loop ⟨[(91,.int .i64),(1,.int .i64),(2,.tv),(89,.tv),(90,.int .i64)],[(3,0,0)],[(0,13)],[(0,0,.int .i64),(0,1,.bool),(0,2,.bool),(0,3,.str),(0,4,.int .i64),(0,5,.int .i64),(0,6,.int .i64),(0,7,.int .i64),(0,8,.int .i64),(0,9,.str),(0,10,.tv),(0,11,.tv),(0,12,.tv)]⟩ .none))) (.seq (.seq .none (.block (.loop ⟨[(107,.int .i64),(1,.int .i64),(2,.tv),(105,.tv),(106,.int .i64)],[],[],[]⟩ .none))) .none))))))) mixed (fun _ _=>Tryz.call124 _ _) Tryz.func124 (by kernel_rfl) (by kernel_rfl) h
theorem Qh (s:B8) (atx:Int) (st:St) (K:Int->Int->St->Prop) (h:BId (atx<0) (K 0 0 st) (BId ((s.length:Int)<=atx) (K 0 0 st) (((0<=atx/\atx<(s.length:Int))/\CallT PR Jw [(.int .u8 ((List.getD s atx.toNat 0).toNat:Int))] [.one (.int .i64),.one (.int .i64)] st (fun (n1 n2:Int) g=>BId (n1=0) (K 0 0 g) (BId ((i64.wrap ((s.length:Int)-atx))<n1) (K 0 0 g) (∃(I1:Int->Int->B8->Int->Int->St->Prop) (M1:Int->Int->B8->Int->Int->St->Nat),(I1 n2 1 s atx n1 g)/\∀d b c a e f,I1 d b c a e f->(BId (b<e) (((0<=(i64.wrap (a+b))/\(i64.wrap (a+b))<(c.length:Int))/\BId ((C0 .and .u8 ((List.getD c (Int.toNat (i64.wrap (a+b))) 0).toNat:Int) (192:Int))≠(128:Int)) (K 0 0 f) ((I1 ((C0 .or .i64 (i64.wrap (d*2^(min (Int.toNat (6:Int)) (IntKind.bits .i64)))) (i64.wrap (C0 .and .u8 ((List.getD c (Int.toNat (i64.wrap (a+b))) 0).toNat:Int) (63:Int))))) ((i64.wrap (b+(1:Int)))) c a e f/\M1 ((C0 .or .i64 (i64.wrap (d*2^(min (Int.toNat (6:Int)) (IntKind.bits .i64)))) (i64.wrap (C0 .and .u8 ((List.getD c (Int.toNat (i64.wrap (a+b))) 0).toNat:Int) (63:Int))))) ((i64.wrap (b+(1:Int)))) c a e f<M1 d b c a e f)))) (CallT PR G8 [.int .i64 d] [.one .bool] f (fun (b1:Bool) j=>BIf (!b1) (K 0 0 j) (CallT PR Ij [.int .i64 d] [.one (.int .i64)] j (fun (n3:Int) i=>BId (n3≠e) (K 0 0 i) (K d e i))))))))))))):CallT PR E6 [.str s,.int .i64 atx] [.one (.int .i64),.one (.int .i64)] st K:=
 Ag (cfg:=⟨[],[],[]⟩) (h:=(.seq .none (.seq .none (.seq .none (.seq .none (.seq (.seq .none (.block (.loop ⟨[(4,.int .i64),(7,.int .i64),(0,.str),(1,.int .i64),(6,.int .i64)],[],[],[]⟩ .none))) .none)))))) mixed (fun _ _=>Tryz.call133 _ _) Tryz.func133 (by kernel_rfl) (by kernel_rfl) h
theorem IC (d_0:Bool) (d_1:B8) (d_2:Int) (st:St) (K:B8->St->Prop) (h:∃(C1:Bool->B8->Int->St->Prop),(BId (d_1=([]:B8)) (K Le st) (CallT PR DM [(.agg [.bool d_0,.str d_1,.int .i64 d_2])] [.one .bool] st (fun (b1:Bool) u=>BIf (!b1) (K Le u) (C1 d_0 d_1 d_2 u))))/\∀b2 s1 n1 o,C1 b2 s1 n1 o->(∃(C2:B8->Bool->B8->Int->St->Prop),(BIf b2 (C2 Fh b2 s1 n1 o) (C2 [] b2 s1 n1 o))/\∀l b3 s2 n2 r,C2 l b3 s2 n2 r->(∃(C3:B8->Int->Int->Bool->B8->Int->St->Prop),(∃(C4:Bool->B8->Int->Int->Bool->B8->Int->St->Prop),(BId ((0:Int)<=n2) (C4 ((decide ((i64.wrap ((s2.length:Int)+n2))<=(21:Int)))) l ((s2.length:Int)) ((i64.wrap ((s2.length:Int)+n2))) b3 s2 n2 r) (C4 false l ((s2.length:Int)) ((i64.wrap ((s2.length:Int)+n2))) b3 s2 n2 r))/\∀v d k e b4 s3 n3 f,C4 v d k e b4 s3 n3 f->(BIf v ((d.length+s3.length<=9223372036854775807/\CallT PR EF [.str Le,.int .i64 n3] [.one .str] f (fun (s4:B8) y=>(((d++s3)).length+s4.length<=9223372036854775807/\K (((d++s3)++s4)) y)))) (∃(C5:Bool->B8->Int->Int->Bool->B8->Int->St->Prop),(BId (n3<0) (BId ((1:Int)<=e) (C5 ((decide (e<=21))) d k e b4 s3 n3 f) (C5 false d k e b4 s3 n3 f)) (C5 false d k e b4 s3 n3 f))/\∀s b m a b5 s5 n4 g,C5 s b m a b5 s5 n4 g->(BIf s (((0<=a/\a<=(s5.length:Int))/\(b.length+((List.take a.toNat s5)).length<=9223372036854775807/\(((b++(List.take a.toNat s5))).length+Kb.length<=9223372036854775807/\((0<=a/\a<=(s5.length:Int))/\((((b++(List.take a.toNat s5))++Kb)).length+((List.drop a.toNat s5)).length<=9223372036854775807/\K ((((b++(List.take a.toNat s5))++Kb)++(List.drop a.toNat s5))) g)))))) (BId ((-5:Int)<=a) (BId (a<=0) ((b.length+Xk.length<=9223372036854775807/\CallT PR EF [.str Le,(.int .i64 (i64.wrap (0-a)))] [.one .str] g (fun (s6:B8) z=>(((b++Xk)).length+s6.length<=9223372036854775807/\((((b++Xk)++s6)).length+s5.length<=9223372036854775807/\K ((((b++Xk)++s6)++s5)) z))))) (C3 b m a b5 s5 n4 g)) (C3 b m a b5 s5 n4 g))))))/\∀i t p b6 s7 n5 q,C3 i t p b6 s7 n5 q->(((0<=(1:Int)/\(1:Int)<=(s7.length:Int))/\(i.length+((List.take (Int.toNat (1:Int)) s7)).length<=9223372036854775807/\∃(C6:B8->Int->St->Prop),(BId ((1:Int)<t) (((0<=(1:Int)/\(1:Int)<=(s7.length:Int))/\(Kb.length+((List.drop (Int.toNat (1:Int)) s7)).length<=9223372036854775807/\(((i++(List.take (Int.toNat (1:Int)) s7))).length+((Kb++(List.drop (Int.toNat (1:Int)) s7))).length<=9223372036854775807/\C6 (((i++(List.take (Int.toNat (1:Int)) s7))++(Kb++(List.drop (Int.toNat (1:Int)) s7)))) p q)))) (C6 ((i++(List.take (Int.toNat (1:Int)) s7))) p q))/\∀c j n,C6 c j n->(BId (j<1) ((c.length+ZI.length<=9223372036854775807/\CallT PR DL [(.int .i64 (i64.wrap ((1:Int)-j)))] [.one .str] n (fun (s8:B8) x=>(((c++ZI)).length+s8.length<=9223372036854775807/\K (((c++ZI)++s8)) x)))) ((c.length+ZJ.length<=9223372036854775807/\CallT PR DL [(.int .i64 (i64.wrap (j-(1:Int))))] [.one .str] n (fun (s9:B8) w=>(((c++ZJ)).length+s9.length<=9223372036854775807/\K (((c++ZJ)++s9)) w))))))))))):CallT PR Ee [(.agg [.bool d_0,.str d_1,.int .i64 d_2])] [.one .str] st K:=
 Ag (cfg:=⟨[1],[],[]⟩) (h:=(.seq .none (.cut ⟨[],[(1,0,0)],[(0,3)],[(0,0,.bool),(0,1,.str),(0,2,.int .i64)]⟩ .none (.seq .none (.cut ⟨[(3,.str)],[(1,0,0)],[(0,3)],[(0,0,.bool),(0,1,.str),(0,2,.int .i64)]⟩ .none (.seq .none (.seq .none (.cut ⟨[(3,.str),(4,.int .i64),(5,.int .i64)],[(1,0,0)],[(0,3)],[(0,0,.bool),(0,1,.str),(0,2,.int .i64)]⟩ (.block (.cut ⟨[(23,.bool),(3,.str),(4,.int .i64),(5,.int .i64)],[(1,0,0)],[(0,3)],[(0,0,.bool),(0,1,.str),(0,2,.int .i64)]⟩ .none (.cond .none (.cut ⟨[(39,.bool),(3,.str),(4,.int .i64),(5,.int .i64)],[(1,0,0)],[(0,3)],[(0,0,.bool),(0,1,.str),(0,2,.int .i64)]⟩ .none .none)))) (.seq .none (.cut ⟨[(3,.str),(5,.int .i64)],[],[],[]⟩ .none .none)))))))))) mixed (fun _ _=>Tryz.call143 _ _) Tryz.func143 (by kernel_rfl) (by kernel_rfl) h
theorem Oe (t_0:Int) (t_1:Int) (t_2:Int) (t_3:Int) (st:St) (K:B8->St->Prop) (h:CallT PR CW [(.agg [.int .i64 t_0,.int .i64 t_1,.int .i64 t_2,.int .i64 t_3])] [.one .bool] st (fun (b1:Bool) a=>BIf (!b1) (K [] a) (BId (t_0=1) (CallT PR By [.int .i64 t_1] [.one .str] a (fun (s1:B8) e=>K s1 e)) (BId (t_0=2) (CallT PR Bq [.int .i64 t_2] [.one .str] a (fun (s2:B8) i=>K s2 i)) (BId (t_0=3) (CallT PR By [.int .i64 t_1] [.one .str] a (fun (s3:B8) b=>(s3.length+OD.length<=9223372036854775807/\CallT PR Bq [.int .i64 t_2] [.one .str] b (fun (s4:B8) c=>(((s3++OD)).length+s4.length<=9223372036854775807/\K (((s3++OD)++s4)) c))))) (CallT PR By [.int .i64 t_1] [.one .str] a (fun (s5:B8) f=>(s5.length+OD.length<=9223372036854775807/\CallT PR Bq [.int .i64 t_2] [.one .str] f (fun (s6:B8) g=>(((s5++OD)).length+s6.length<=9223372036854775807/\CallT PR Dw [.int .i64 t_3] [.one .str] g (fun (s7:B8) d=>((((s5++OD)++s6)).length+s7.length<=9223372036854775807/\K ((((s5++OD)++s6)++s7)) d)))))))))))):CallT PR EG [(.agg [.int .i64 t_0,.int .i64 t_1,.int .i64 t_2,.int .i64 t_3])] [.one .str] st K:=
 Ag (cfg:=⟨[1],[],[]⟩) (h:= .none) mixed (fun _ _=>Tryz.call144 _ _) Tryz.func144 (by kernel_rfl) (by kernel_rfl) h
theorem IW (s:B8) (prefixx:B8) (st:St) (K:Bool->St->Prop) (h:CallT PR D8 [.str s,.str prefixx] [.one .bool] st (fun (b1:Bool) a=>K b1 a)):CallT PR A6 [.str s,.str prefixx] [.one .bool] st K:=
 Ag (cfg:=⟨[],[],[]⟩) (h:= .none) mixed (fun _ _=>Tryz.call156 _ _) Tryz.func156 (by kernel_rfl) (by kernel_rfl) h
theorem Om (s:B8) (st:St) (K:Int->St->Prop) (h:∃(I1:Int->B8->St->Prop) (M1:Int->B8->St->Nat),(I1 0 s st)/\∀a b c,I1 a b c->(BId (a<(b.length:Int)) (((0<=a/\a<(b.length:Int))/\BId ((48:Int)<=((List.getD b a.toNat 0).toNat:Int)) (((0<=a/\a<(b.length:Int))/\BId (((List.getD b a.toNat 0).toNat:Int)<=(57:Int)) ((I1 ((i64.wrap (a+(1:Int)))) b c/\M1 ((i64.wrap (a+(1:Int)))) b c<M1 a b c)) (K a c))) (K a c))) (K a c))):CallT PR Dy [.str s] [.one (.int .i64)] st K:=
 Ag (cfg:=⟨[],[],[]⟩) (h:=(.seq .none (.seq .none (.seq (.block (.loop ⟨[(3,.int .i64),(0,.str)],[],[],[]⟩ .none)) .none)))) mixed (fun _ _=>Tryz.call157 _ _) Tryz.func157 (by kernel_rfl) (by kernel_rfl) h
theorem LZ (exp:Int) (less:Bool) (byx:B8) (st:St) (K:Int->St->Prop) (h:BId ((byx.length:Int)<=(12:Int)) (CallT PR FA [.str byx] [.one (.int .i64),.one (.int .i64)] st (fun (n1 n2:Int) a=>BIf less (K ((i64.wrap (exp-n1))) a) (K ((i64.wrap (exp+n1))) a))) (BIf less (K ((i64.wrap (exp-(1099511627776:Int)))) st) (K ((i64.wrap (exp+(1099511627776:Int)))) st))):CallT PR EY [.int .i64 exp,.bool less,.str byx] [.one (.int .i64)] st K:=
 Ag (cfg:=⟨[],[],[]⟩) (h:= .none) mixed (fun _ _=>Tryz.call158 _ _) Tryz.func158 (by kernel_rfl) (by kernel_rfl) h
theorem NE (neg:Bool) (s:B8) (exp:Int) (st:St) (K:Bool->B8->Int->Int->St->Prop) (h:∃(I1:Int->Bool->B8->Int->Int->Bool->B8->Int->St->Prop) (M1:Int->Bool->B8->Int->Int->Bool->B8->Int->St->Nat),(I1 0 neg s exp ((s.length:Int)) false [] 0 st)/\∀a b c d f b1 s1 n1 e,I1 a b c d f b1 s1 n1 e->(BId (a<f) (((0<=a/\a<(c.length:Int))/\BId (((List.getD c a.toNat 0).toNat:Int)<(48:Int)) (K false [] 0 3 e) (((0<=a/\a<(c.length:Int))/\BId ((57:Int)<((List.getD c a.toNat 0).toNat:Int)) (K false [] 0 3 e) ((I1 ((i64.wrap (a+(1:Int)))) b c d f b1 s1 n1 e/\M1 ((i64.wrap (a+(1:Int)))) b c d f b1 s1 n1 e<M1 a b c d f b1 s1 n1 e)))))) (CallT PR DT [.str c,.str Le] [.one .str] e (fun (s2:B8) g=>CallT PR FD [.bool b,.str s2,.int .i64 d] [.agg [.bool,.str,.int .i64],.one (.int .i64)] g (fun (b2:Bool) (s3:B8) (n2 n3:Int) i=>K b2 s3 n2 n3 i))))):CallT PR CY [.bool neg,.str s,.int .i64 exp] [.agg [.bool,.str,.int .i64],.one (.int .i64)] st K:=
 Ag (cfg:=⟨[6],[],[]⟩) (h:=(.seq .none (.seq (.seq .none (.block (.loop ⟨[(11,.int .i64),(0,.bool),(1,.str),(2,.int .i64),(10,.int .i64)],[(6,0,0)],[(0,3)],[(0,0,.bool),(0,1,.str),(0,2,.int .i64)]⟩ .none))) .none))) mixed (fun _ _=>Tryz.call160 _ _) Tryz.func160 (by kernel_rfl) (by kernel_rfl) h
theorem IG (r:Nat) (f:Nat) (st:St) (K:Int->St->Prop) (h:Ae (Ad st [] (.t (.box r 0)) 0) (fun (x1:TV)=>Af .str x1 (fun (s1:B8)=>BId ((2:Int)<(s1.length:Int)) (Ae (Ad st [] (.t (.box r 0)) 0) (fun (x2:TV)=>Af .str x2 (fun (s2:B8)=>((0<=(2:Int)/\(2:Int)<(s2.length:Int))/\BId (((List.getD s2 (Int.toNat (2:Int)) 0).toNat:Int)=(58:Int)) (CallT PR Bm [(.box r 0),(.box f 0)] [] st (fun (i:St)=>K 2 i)) (CallT PR B9 [(.box r 0),(.box f 0)] [] st (fun (c:St)=>Ae (Ad c [] (.t (.box r 0)) 0) (fun (x3:TV)=>Af .str x3 (fun (s3:B8)=>BId (s3=([]:B8)) (K 1 c) (CallT PR AD [(.box r 0),.str str25] [.one (.int .u8)] c (fun (n1:Int) k=>CallT PR Bm [(.box r 0),(.box f 0)] [] k (fun (a:St)=>Ae (Ad a [] (.t (.box r 0)) 0) (fun (x4:TV)=>Af .str x4 (fun (s4:B8)=>BId (s4=([]:B8)) (K 3 a) (CallT PR BN [(.box r 0),(.box f 0)] [] a (fun (g:St)=>K 4 g))))))))))))))) (CallT PR B9 [(.box r 0),(.box f 0)] [] st (fun (d:St)=>Ae (Ad d [] (.t (.box r 0)) 0) (fun (x5:TV)=>Af .str x5 (fun (s5:B8)=>BId (s5=([]:B8)) (K 1 d) (CallT PR AD [(.box r 0),.str str25] [.one (.int .u8)] d (fun (n2:Int) j=>CallT PR Bm [(.box r 0),(.box f 0)] [] j (fun (b:St)=>Ae (Ad b [] (.t (.box r 0)) 0) (fun (x6:TV)=>Af .str x6 (fun (s6:B8)=>BId (s6=([]:B8)) (K 3 b) (CallT PR BN [(.box r 0),(.box f 0)] [] b (fun (e:St)=>K 4 e)))))))))))))):CallT PR Dc [(.box r 0),(.box f 0)] [.one (.int .i64)] st K:=
 Ag (cfg:=⟨[],[],[]⟩) (h:= .none) mixed (fun _ _=>Tryz.call161 _ _) Tryz.func161 (by kernel_rfl) (by kernel_rfl) h
theorem NF (year:Int) (month:Int) (day:Int) (st:St) (K:Int->Int->St->Prop) (h:BId (day<1) (K 0 2 st) (CallT PR AW [.int .i64 year,.int .i64 month] [.one (.int .i64)] st (fun (n1:Int) g=>BId (n1<day) (K 0 2 g) (CallT PR BO [.int .i64 year] [.one (.int .i64)] g (fun (n2:Int) i=>∃(I1:Int->Int->Int->Int->St->Prop) (M1:Int->Int->Int->Int->St->Nat),(I1 ((i64.wrap ((i64.wrap (n2+day))-(1:Int)))) 1 year month i)/\∀d c b a e,I1 d c b a e->(BId (c<a) (CallT PR AW [.int .i64 b,.int .i64 c] [.one (.int .i64)] e (fun (n3:Int) f=>(I1 ((i64.wrap (d+n3))) ((i64.wrap (c+(1:Int)))) b a f/\M1 ((i64.wrap (d+n3))) ((i64.wrap (c+(1:Int)))) b a f<M1 d c b a e))) (K d 0 e))))))):CallT PR FE [.int .i64 year,.int .i64 month,.int .i64 day] [.one (.int .i64),.one (.int .i64)] st K:=
 Ag (cfg:=⟨[],[],[]⟩) (h:=(.seq .none (.seq .none (.seq .none (.seq (.seq .none (.block (.loop ⟨[(8,.int .i64),(9,.int .i64),(0,.int .i64),(1,.int .i64)],[],[],[]⟩ .none))) .none))))) mixed (fun _ _=>Tryz.call162 _ _) Tryz.func162 (by kernel_rfl) (by kernel_rfl) h
theorem R7 (s:B8) (st:St) (K:Bool->St->Prop) (h:CallT PR KL [.str s] [.one (.int .i64),.one (.int .i64)] st (fun (n1 n2:Int) a=>K ((decide (n2=0))) a)):CallT PR EE [.str s] [.one .bool] st K:=
 Ag (cfg:=⟨[],[],[]⟩) (h:= .none) mixed (fun _ _=>Tryz.call179 _ _) Tryz.func179 (by kernel_rfl) (by kernel_rfl) h
theorem Oh (v_0:Int) (b:Bool) (m:Bool) (o:B8) (s:Int) (v:Int) (p:Int) (x:Int) (w:Int) (r:B8) (v_10:TV) (v_11:TV) (v_12:TV) (d_0:Int) (d_1:Int) (d_2:Bool) (d_3:Bool) (st:St) (K:Bool->St->Prop) (h:BId (v_0≠6) (K false st) (need (isSl v_11) (∃(I1:Int->TV->Int->V13 (Int->Int->Bool->Bool->St->Prop)) (M1:Int->TV->Int->V13 (Int->Int->Bool->Bool->St->Nat)),(I1 0 v_11 ((lenS v_11:Int)) v_0 b m o s v p x w r v_10 v_11 v_12 d_0 d_1 d_2 d_3 st)/\∀c b d n1 b1 b2 s1 n2 n3 n4 n5 n6 s2 v1 v2 v3 n7 n8 b3 b4 a,I1 c b d n1 b1 b2 s1 n2 n3 n4 n5 n6 s2 v1 v2 v3 n7 n8 b3 b4 a->(BId (c<d) (((0<=c/\c<(lenZ 13 b:Int))/\Ae ((Ah a [] (.t (ixT 13 b c.toNat)) 0 13).map TV.agg) (fun (x1:TV)=>AK [.int .i64,.bool,.bool,.str,.int .i64,.int .i64,.int .i64,.int .i64,.int .i64,.str,.tv,.tv,.tv] x1 (fun (n9:Int) (b5 b6:Bool) (s3:B8) (o8 k8 o3 l6 j7:Int) (s4:B8) (v4 v5 v6:TV)=>need (List.all (cV n9 b5 b6 s3 o8 k8 o3 l6 j7 s4 v4 v5 v6) As) (((0<=(0:Int)/\(0:Int)<(lenZ 13 v2:Int))/\Ae ((Ah a [] (.t (ixT 13 v2 (Int.toNat (0:Int)))) 0 13).map TV.agg) (fun (x2:TV)=>AK [.int .i64,.bool,.bool,.str,.int .i64,.int .i64,.int .i64,.int .i64,.int .i64,.str,.tv,.tv,.tv] x2 (fun (i7:Int) (b7 b8:Bool) (s5:B8) (i5 i8 i6 j0 i9:Int) (s6:B8) (v7 v8 v9:TV)=>need (List.all (cV i7 b7 b8 s5 i5 i8 i6 j0 i9 s6 v7 v8 v9) As) (BIf (!b3) (BId (n9≠6) (K false a) (need (isSl v5) (BId ((lenS v5:Int)=(0:Int)) (K false a) (need (isSl v5) (need (isSl v8) (BId ((lenS v5:Int)≠(lenS v8:Int)) (K false a) (BIf b3 (BId (n9≠7) (K false a) (need (isSl v6) (BId ((lenS v6:Int)=(0:Int)) (K false a) (need (isSl v6) (need (isSl v9) (BId ((lenS v6:Int)≠(lenS v9:Int)) (K false a) (BIf b3 (CallT PR BS [(.agg (cV i7 b7 b8 s5 i5 i8 i6 j0 i9 s6 v7 v8 v9))] [.one .tv] a (fun (k2:TV) l3=>need (isSl v6) (∃(I2:Int->TV->TV->Int->Int->TV->Int->V13 (Int->Int->Bool->Bool->St->Prop)) (M2:Int->TV->TV->Int->Int->TV->Int->V13 (Int->Int->Bool->Bool->St->Nat)),(I2 0 k2 b d c v6 ((lenS v6:Int)) n1 b1 b2 s1 n2 n3 n4 n5 n6 s2 v1 v2 v3 n7 n8 b3 b4 l3)/\∀a3 g m c7 f2 o j1 i0 b9 e6 s7 e7 g4 d4 d0 e4 s8 e5 c1 a9 b0 h3 g2 c0 q,I2 a3 g m c7 f2 o j1 i0 b9 e6 s7 e7 g4 d4 d0 e4 s8 e5 c1 a9 b0 h3 g2 c0 q->(BId (a3<j1) (((0<=a3/\a3<(lenZ 14 o:Int))/\Ae ((Ah q [] (.t (ixT 14 o a3.toNat)) 0 14).map TV.agg) (fun (x3:TV)=>AK [.str,.int .i64,.bool,.bool,.str,.int .i64,.int .i64,.int .i64,.int .i64,.int .i64,.str,.tv,.tv,.tv] x3 (fun (s9:B8) (k9:Int) (j5 q7:Bool) (o5:B8) (o9 m5 o4 p8 k7:Int) (m7:B8) (j8 j9 m8:TV)=>need (List.all [.str s9,.int .i64 k9,.bool j5,.bool q7,.str o5,.int .i64 o9,.int .i64 m5,.int .i64 o4,.int .i64 p8,.int .i64 k7,.str m7,j8,j9,m8] As) (Ae (EA q g) (fun (es1:List (B8×TV))=>Af (.int .i64) (Ge (.int .i64 0) (BP s9 es1)) (fun (r1:Int)=>BIf (!(BP s9 es1).isSome) (K false q) ((I2 ((i64.wrap (a3+(1:Int)))) g m c7 f2 o j1 i0 b9 e6 s7 e7 g4 d4 d0 e4 s8 e5 c1 a9 b0 h3 g2 c0 q/\M2 ((i64.wrap (a3+(1:Int)))) g m c7 f2 o j1 i0 b9 e6 s7 e7 g4 d4 d0 e4 s8 e5 c1 a9 b0 h3 g2 c0 q<M2 a3 g m c7 f2 o j1 i0 b9 e6 s7 e7 g4 d4 d0 e4 s8 e5 c1 a9 b0 h3 g2 c0 q))))))))) ((I1 ((i64.wrap (f2+(1:Int)))) m c7 i0 b9 e6 s7 e7 g4 d4 d0 e4 s8 e5 c1 a9 b0 h3 g2 c0 q/\M1 ((i64.wrap (f2+(1:Int)))) m c7 i0 b9 e6 s7 e7 g4 d4 d0 e4 s8 e5 c1 a9 b0 h3 g2 c0 q<M1 c b d n1 b1 b2 s1 n2 n3 n4 n5 n6 s2 v1 v2 v3 n7 n8 b3 b4 a)))))) ((I1 ((i64.wrap (c+(1:Int)))) b d n1 b1 b2 s1 n2 n3 n4 n5 n6 s2 v1 v2 v3 n7 n8 b3 b4 a/\M1 ((i64.wrap (c+(1:Int)))) b d n1 b1 b2 s1 n2 n3 n4 n5 n6 s2 v1 v2 v3 n7 n8 b3 b4 a<M1 c b d n1 b1 b2 s1 n2 n3 n4 n5 n6 s2 v1 v2 v3 n7 n8 b3 b4 a))))))))) (BIf b3 (CallT PR BS [(.agg (cV i7 b7 b8 s5 i5 i8 i6 j0 i9 s6 v7 v8 v9))] [.one .tv] a (fun (m2:TV) n0=>need (isSl v6) (∃(I3:Int->TV->TV->Int->Int->TV->Int->V13 (Int->Int->Bool->Bool->St->Prop)) (M3:Int->TV->TV->Int->Int->TV->Int->V13 (Int->Int->Bool->Bool->St->Nat)),(I3 0 m2 b d c v6 ((lenS v6:Int)) n1 b1 b2 s1 n2 n3 n4 n5 n6 s2 v1 v2 v3 n7 n8 b3 b4 n0)/\∀a2 f s d1 a8 v a6 e9 d8 g0 i4 e3 h0 e1 i3 a7 g6 g7 h6 h5 h2 d3 g8 i1 u,I3 a2 f s d1 a8 v a6 e9 d8 g0 i4 e3 h0 e1 i3 a7 g6 g7 h6 h5 h2 d3 g8 i1 u->(BId (a2<a6) (((0<=a2/\a2<(lenZ 14 v:Int))/\Ae ((Ah u [] (.t (ixT 14 v a2.toNat)) 0 14).map TV.agg) (fun (x4:TV)=>AK [.str,.int .i64,.bool,.bool,.str,.int .i64,.int .i64,.int .i64,.int .i64,.int .i64,.str,.tv,.tv,.tv] x4 (fun (j4:B8) (p2:Int) (q8 k6:Bool) (p5:B8) (q2 j6 o7 q0 m9:Int) (k5:B8) (k0 q3 l5:TV)=>need (List.all [.str j4,.int .i64 p2,.bool q8,.bool k6,.str p5,.int .i64 q2,.int .i64 j6,.int .i64 o7,.int .i64 q0,.int .i64 m9,.str k5,k0,q3,l5] As) (Ae (EA u f) (fun (es2:List (B8×TV))=>Af (.int .i64) (Ge (.int .i64 0) (BP j4 es2)) (fun (r0:Int)=>BIf (!(BP j4 es2).isSome) (K false u) ((I3 ((i64.wrap (a2+(1:Int)))) f s d1 a8 v a6 e9 d8 g0 i4 e3 h0 e1 i3 a7 g6 g7 h6 h5 h2 d3 g8 i1 u/\M3 ((i64.wrap (a2+(1:Int)))) f s d1 a8 v a6 e9 d8 g0 i4 e3 h0 e1 i3 a7 g6 g7 h6 h5 h2 d3 g8 i1 u<M3 a2 f s d1 a8 v a6 e9 d8 g0 i4 e3 h0 e1 i3 a7 g6 g7 h6 h5 h2 d3 g8 i1 u))))))))) ((I1 ((i64.wrap (a8+(1:Int)))) s d1 e9 d8 g0 i4 e3 h0 e1 i3 a7 g6 g7 h6 h5 h2 d3 g8 i1 u/\M1 ((i64.wrap (a8+(1:Int)))) s d1 e9 d8 g0 i4 e3 h0 e1 i3 a7 g6 g7 h6 h5 h2 d3 g8 i1 u<M1 c b d n1 b1 b2 s1 n2 n3 n4 n5 n6 s2 v1 v2 v3 n7 n8 b3 b4 a)))))) ((I1 ((i64.wrap (c+(1:Int)))) b d n1 b1 b2 s1 n2 n3 n4 n5 n6 s2 v1 v2 v3 n7 n8 b3 b4 a/\M1 ((i64.wrap (c+(1:Int)))) b d n1 b1 b2 s1 n2 n3 n4 n5 n6 s2 v1 v2 v3 n7 n8 b3 b4 a<M1 c b d n1 b1 b2 s1 n2 n3 n4 n5 n6 s2 v1 v2 v3 n7 n8 b3 b4 a)))))))))) (BIf b3 (BId (n9≠7) (K false a) (need (isSl v6) (BId ((lenS v6:Int)=(0:Int)) (K false a) (need (isSl v6) (need (isSl v9) (BId ((lenS v6:Int)≠(lenS v9:Int)) (K false a) (BIf b3 (CallT PR BS [(.agg (cV i7 b7 b8 s5 i5 i8 i6 j0 i9 s6 v7 v8 v9))] [.one .tv] a (fun (p0:TV) l4=>need (isSl v6) (∃(I4:Int->TV->TV->Int->Int->TV->Int->V13 (Int->Int->Bool->Bool->St->Prop)) (M4:Int->TV->TV->Int->Int->TV->Int->V13 (Int->Int->Bool->Bool->St->Nat)),(I4 0 p0 b d c v6 ((lenS v6:Int)) n1 b1 b2 s1 n2 n3 n4 n5 n6 s2 v1 v2 v3 n7 n8 b3 b4 l4)/\∀k i p y z x a4 h4 f1 g1 f7 c2 f4 g5 d7 d9 d2 g9 g3 c8 d6 h8 e0 c5 n,I4 k i p y z x a4 h4 f1 g1 f7 c2 f4 g5 d7 d9 d2 g9 g3 c8 d6 h8 e0 c5 n->(BId (k<a4) (((0<=k/\k<(lenZ 14 x:Int))/\Ae ((Ah n [] (.t (ixT 14 x k.toNat)) 0 14).map TV.agg) (fun (x5:TV)=>AK [.str,.int .i64,.bool,.bool,.str,.int .i64,.int .i64,.int .i64,.int .i64,.int .i64,.str,.tv,.tv,.tv] x5 (fun (j2:B8) (q4:Int) (q6 o6:Bool) (k4:B8) (p6 p7 q1 m0 k3:Int) (m6:B8) (o0 p4 l8:TV)=>need (List.all [.str j2,.int .i64 q4,.bool q6,.bool o6,.str k4,.int .i64 p6,.int .i64 p7,.int .i64 q1,.int .i64 m0,.int .i64 k3,.str m6,o0,p4,l8] As) (Ae (EA n i) (fun (es3:List (B8×TV))=>Af (.int .i64) (Ge (.int .i64 0) (BP j2 es3)) (fun (r2:Int)=>BIf (!(BP j2 es3).isSome) (K false n) ((I4 ((i64.wrap (k+(1:Int)))) i p y z x a4 h4 f1 g1 f7 c2 f4 g5 d7 d9 d2 g9 g3 c8 d6 h8 e0 c5 n/\M4 ((i64.wrap (k+(1:Int)))) i p y z x a4 h4 f1 g1 f7 c2 f4 g5 d7 d9 d2 g9 g3 c8 d6 h8 e0 c5 n<M4 k i p y z x a4 h4 f1 g1 f7 c2 f4 g5 d7 d9 d2 g9 g3 c8 d6 h8 e0 c5 n))))))))) ((I1 ((i64.wrap (z+(1:Int)))) p y h4 f1 g1 f7 c2 f4 g5 d7 d9 d2 g9 g3 c8 d6 h8 e0 c5 n/\M1 ((i64.wrap (z+(1:Int)))) p y h4 f1 g1 f7 c2 f4 g5 d7 d9 d2 g9 g3 c8 d6 h8 e0 c5 n<M1 c b d n1 b1 b2 s1 n2 n3 n4 n5 n6 s2 v1 v2 v3 n7 n8 b3 b4 a)))))) ((I1 ((i64.wrap (c+(1:Int)))) b d n1 b1 b2 s1 n2 n3 n4 n5 n6 s2 v1 v2 v3 n7 n8 b3 b4 a/\M1 ((i64.wrap (c+(1:Int)))) b d n1 b1 b2 s1 n2 n3 n4 n5 n6 s2 v1 v2 v3 n7 n8 b3 b4 a<M1 c b d n1 b1 b2 s1 n2 n3 n4 n5 n6 s2 v1 v2 v3 n7 n8 b3 b4 a))))))))) (BIf b3 (CallT PR BS [(.agg (cV i7 b7 b8 s5 i5 i8 i6 j0 i9 s6 v7 v8 v9))] [.one .tv] a (fun (p9:TV) p1=>need (isSl v6) (∃(I5:Int->TV->TV->Int->Int->TV->Int->V13 (Int->Int->Bool->Bool->St->Prop)) (M5:Int->TV->TV->Int->Int->TV->Int->V13 (Int->Int->Bool->Bool->St->Nat)),(I5 0 p9 b d c v6 ((lenS v6:Int)) n1 b1 b2 s1 n2 n3 n4 n5 n6 s2 v1 v2 v3 n7 n8 b3 b4 p1)/\∀j e w a0 a1 r a5 c4 e8 h9 i2 d5 e2 f0 c9 f8 f3 h7 c6 f5 f6 f9 h1 c3 l,I5 j e w a0 a1 r a5 c4 e8 h9 i2 d5 e2 f0 c9 f8 f3 h7 c6 f5 f6 f9 h1 c3 l->(BId (j<a5) (((0<=j/\j<(lenZ 14 r:Int))/\Ae ((Ah l [] (.t (ixT 14 r j.toNat)) 0 14).map TV.agg) (fun (x6:TV)=>AK [.str,.int .i64,.bool,.bool,.str,.int .i64,.int .i64,.int .i64,.int .i64,.int .i64,.str,.tv,.tv,.tv] x6 (fun (j3:B8) (p3:Int) (l2 k1:Bool) (l7:B8) (l0 o1 l1 o2 l9:Int) (q5:B8) (m3 m4 m1:TV)=>need (List.all [.str j3,.int .i64 p3,.bool l2,.bool k1,.str l7,.int .i64 l0,.int .i64 o1,.int .i64 l1,.int .i64 o2,.int .i64 l9,.str q5,m3,m4,m1] As) (Ae (EA l e) (fun (es4:List (B8×TV))=>Af (.int .i64) (Ge (.int .i64 0) (BP j3 es4)) (fun (q9:Int)=>BIf (!(BP j3 es4).isSome) (K false l) ((I5 ((i64.wrap (j+(1:Int)))) e w a0 a1 r a5 c4 e8 h9 i2 d5 e2 f0 c9 f8 f3 h7 c6 f5 f6 f9 h1 c3 l/\M5 ((i64.wrap (j+(1:Int)))) e w a0 a1 r a5 c4 e8 h9 i2 d5 e2 f0 c9 f8 f3 h7 c6 f5 f6 f9 h1 c3 l<M5 j e w a0 a1 r a5 c4 e8 h9 i2 d5 e2 f0 c9 f8 f3 h7 c6 f5 f6 f9 h1 c3 l))))))))) ((I1 ((i64.wrap (a1+(1:Int)))) w a0 c4 e8 h9 i2 d5 e2 f0 c9 f8 f3 h7 c6 f5 f6 f9 h1 c3 l/\M1 ((i64.wrap (a1+(1:Int)))) w a0 c4 e8 h9 i2 d5 e2 f0 c9 f8 f3 h7 c6 f5 f6 f9 h1 c3 l<M1 c b d n1 b1 b2 s1 n2 n3 n4 n5 n6 s2 v1 v2 v3 n7 n8 b3 b4 a)))))) ((I1 ((i64.wrap (c+(1:Int)))) b d n1 b1 b2 s1 n2 n3 n4 n5 n6 s2 v1 v2 v3 n7 n8 b3 b4 a/\M1 ((i64.wrap (c+(1:Int)))) b d n1 b1 b2 s1 n2 n3 n4 n5 n6 s2 v1 v2 v3 n7 n8 b3 b4 a<M1 c b d n1 b1 b2 s1 n2 n3 n4 n5 n6 s2 v1 v2 v3 n7 n8 b3 b4 a))))))))))))) (K true a))))):CallT PR Gm [(.agg (cV v_0 b m o s v p x w r v_10 v_11 v_12)),(.agg [.int .u8 d_0,.int .u8 d_1,.bool d_2,.bool d_3])] [.one .bool] st K:=
 Ag (cfg:=⟨[2,3,6,7,10],[],[]⟩) (h:=(.seq .none (.seq .none (.seq (.seq .none (.block (.loop ⟨[(19,.int .i64),(17,.tv),(18,.int .i64)],[(2,0,0),(3,1,0)],[(0,13),(1,4)],[(0,0,.int .i64),(0,1,.bool),(0,2,.bool),(0,3,.str),(0,4,.int .i64),(0,5,.int .i64),(0,6,.int .i64),(0,7,.int .i64),(0,8,.int .i64),(0,9,.str),(0,10,.tv),(0,11,.tv),(0,12,.tv),(1,0,.int .u8),(1,1,.int .u8),(1,2,.bool),(1,3,.bool)]⟩ (.seq .none (.seq .none (.seq (.block (.seq .none (.seq .none (.seq .none (.seq .none (.cond (.seq .none (.seq .none (.block (.loop ⟨[(81,.int .i64),(8,.tv),(17,.tv),(18,.int .i64),(19,.int .i64),(79,.tv),(80,.int .i64)],[(2,0,0),(3,1,0)],[(0,13),(1,4)],[(0,0,.int .i64),(0,1,.bool),(0,2,.bool),(0,3,.str),(0,4,.int .i64),(0,5,.int .i64),(0,6,.int .i64),(0,7,.int .i64),(0,8,.int .i64),(0,9,.str),(0,10,.tv),(0,11,.tv),(0,12,.tv),(1,0,.int .u8),(1,1,.int .u8),(1,2,.bool),(1,3,.bool)]⟩ .none)))) .none)))))) .none)))))) .none)))) mixed (fun _ _=>Tryz.call182 _ _) Tryz.func182 (by kernel_rfl) (by kernel_rfl) h
theorem Sd (v_0:Int) (m:Bool) (o:Bool) (d:B8) (e:Int) (v_5:Int) (v_6:Int) (v_7:Int) (v_8:Int) (v_9:B8) (v_10:TV) (v_11:TV) (v_12:TV) (d_0:Int) (d_1:Int) (d_2:Bool) (d_3:Bool) (st:St) (K:B8->Int->St->Prop) (h:need (isSl v_11) (BId ((lenS v_11:Int)=(0:Int)) (K [] 0 st) (((0<=(0:Int)/\(0:Int)<(lenZ 13 v_11:Int))/\Ae ((Ah (st.push (.cells [.nilPtr,.nilSlice]) (some 188)) [] (.t (ixT 13 v_11 (Int.toNat (0:Int)))) 0 13).map TV.agg) (fun (x1:TV)=>AK [.int .i64,.bool,.bool,.str,.int .i64,.int .i64,.int .i64,.int .i64,.int .i64,.str,.tv,.tv,.tv] x1 (fun (n1:Int) (b1 b2:Bool) (s1:B8) (n2 n3 n4 n5 n6:Int) (s2:B8) (v1 v2 v3:TV)=>CallT PR BS [(.agg (cV n1 b1 b2 s1 n2 n3 n4 n5 n6 s2 v1 v2 v3))] [.one .tv] (st.push (.cells [.nilPtr,.nilSlice]) (some 188)) (fun (v4:TV) c6=>∃(C1:TV->TV->V13 (Int->Int->Bool->Bool->St->Prop)),(BIf d_2 (((0<=(0:Int)/\(0:Int)<(lenZ 13 v_11:Int))/\need (isPtr (ixT 13 v_11 (Int.toNat (0:Int)))) (Ae (Ad c6 [] (.t (Ao (ixT 13 v_11 (Int.toNat (0:Int))) 12)) 0) (fun (v5:TV)=>need (isSl v5) (∃(I1:TV->Int->TV->TV->TV->Int->V13 (Int->Int->Bool->Bool->St->Prop)) (M1:TV->Int->TV->TV->TV->Int->V13 (Int->Int->Bool->Bool->St->Nat)),(I1 .nilSlice 0 ((.box st.nb 0)) v4 v5 ((lenS v5:Int)) v_0 m o d e v_5 v_6 v_7 v_8 v_9 v_10 v_11 v_12 d_0 d_1 d_2 d_3 c6)/\∀q r z b m a3 n7 b3 b4 s3 n8 n9 a5 a0 a4 s4 v6 v7 v8 y x b5 b6 a2,I1 q r z b m a3 n7 b3 b4 s3 n8 n9 a5 a0 a4 s4 v6 v7 v8 y x b5 b6 a2->(BId (r<a3) (((0<=r/\r<(lenZ 14 m:Int))/\Ae ((Ah a2 [] (.t (ixT 14 m r.toNat)) 0 14).map TV.agg) (fun (x3:TV)=>AK [.str,.int .i64,.bool,.bool,.str,.int .i64,.int .i64,.int .i64,.int .i64,.int .i64,.str,.tv,.tv,.tv] x3 (fun (s5:B8) (h7:Int) (b7 b8:Bool) (s6:B8) (h1 h9 h3 j1 i7:Int) (s7:B8) (v9 h2 i0:TV)=>need (List.all [.str s5,.int .i64 h7,.bool b7,.bool b8,.str s6,.int .i64 h1,.int .i64 h9,.int .i64 h3,.int .i64 j1,.int .i64 i7,.str s7,v9,h2,i0] As) (BH 9 1 16 q 1 [.str s5] a2 (fun (e3:TV) f1=>(I1 e3 ((i64.wrap (r+(1:Int)))) z b m a3 n7 b3 b4 s3 n8 n9 a5 a0 a4 s4 v6 v7 v8 y x b5 b6 f1/\M1 e3 ((i64.wrap (r+(1:Int)))) z b m a3 n7 b3 b4 s3 n8 n9 a5 a0 a4 s4 v6 v7 v8 y x b5 b6 f1<M1 q r z b m a3 n7 b3 b4 s3 n8 n9 a5 a0 a4 s4 v6 v7 v8 y x b5 b6 a2))))))) (CallT PR Hb [q,(.agg [.int .u8 y,.int .u8 x,.bool b5,.bool b6])] [.one .str,.one (.int .i64)] a2 (fun (s8:B8) (g5:Int) f6=>BId (g5≠0) (K [] g5 f6) (CallT PR Ax [z,.str s8] [.one (.int .i64),.one .tv] f6 (fun (j5:Int) (j2:TV) i4=>C1 z b n7 b3 b4 s3 n8 n9 a5 a0 a4 s4 v6 v7 v8 y x b5 b6 i4)))))))))) (C1 ((.box st.nb 0)) v4 v_0 m o d e v_5 v_6 v_7 v_8 v_9 v_10 v_11 v_12 d_0 d_1 d_2 d_3 c6))/\∀e4 u i6 b9 i1 s9 h6 h5 h8 g9 j0 i5 h0 a6 i2 e6 g1 f8 e2 e9,C1 e4 u i6 b9 i1 s9 h6 h5 h8 g9 j0 i5 h0 a6 i2 e6 g1 f8 e2 e9->(need (isSl a6) (∃(I2:Int->TV->TV->TV->Int->Int->Int->Bool->Bool->St->Prop) (M2:Int->TV->TV->TV->Int->Int->Int->Bool->Bool->St->Nat),(I2 0 e4 u a6 ((lenS a6:Int)) e6 g1 f8 e2 e9)/\∀w a8 c o a7 d0 d2 b0 e0 a1,I2 w a8 c o a7 d0 d2 b0 e0 a1->(BId (w<a7) (((0<=w/\w<(lenZ 13 o:Int))/\Ae ((Ah a1 [] (.t (ixT 13 o w.toNat)) 0 13).map TV.agg) (fun (x4:TV)=>AK [.int .i64,.bool,.bool,.str,.int .i64,.int .i64,.int .i64,.int .i64,.int .i64,.str,.tv,.tv,.tv] x4 (fun (g3:Int) (e7 f7:Bool) (f4:B8) (e5 f3 f0 e8 g2:Int) (g6:B8) (f2 g0 g4:TV)=>need (List.all (cV g3 e7 f7 f4 e5 f3 f0 e8 g2 g6 f2 g0 g4) As) (CallT PR G9 [(.agg (cV g3 e7 f7 f4 e5 f3 f0 e8 g2 g6 f2 g0 g4)),c] [.one .tv] a1 (fun (d8:TV) i8=>need (isSl d8) (∃(I3:Int->TV->TV->TV->Int->Int->TV->Int->Int->Int->Bool->Bool->St->Prop) (M3:Int->TV->TV->TV->Int->Int->TV->Int->Int->Int->Bool->Bool->St->Nat),(I3 0 a8 c o a7 w d8 ((lenS d8:Int)) d0 d2 b0 e0 i8)/\∀i f a d p n e s g l j k v,I3 i f a d p n e s g l j k v->(BId (i<s) (((0<=i/\i<(lenZ 13 e:Int))/\Ae ((Ah v [] (.t (ixT 13 e i.toNat)) 0 13).map TV.agg) (fun (x5:TV)=>AK [.int .i64,.bool,.bool,.str,.int .i64,.int .i64,.int .i64,.int .i64,.int .i64,.str,.tv,.tv,.tv] x5 (fun (a9:Int) (e1 c3:Bool) (d3:B8) (d6 c5 d4 d7 c0:Int) (d5:B8) (c1 d9 c8:TV)=>need (List.all (cV a9 e1 c3 d3 d6 c5 d4 d7 c0 d5 c1 d9 c8) As) (BId ((0:Int)<i) (CallT PR AJ [f,.int .u8 g] [.one .tv] v (fun (j7:TV) g8=>CallT PR DJ [(.agg (cV a9 e1 c3 d3 d6 c5 d4 d7 c0 d5 c1 d9 c8)),(.agg [.int .u8 g,.int .u8 l,.bool j,.bool k])] [.one .str,.one (.int .i64)] g8 (fun (i9:B8) (f9:Int) c4=>BId (f9≠0) (K [] f9 c4) (CallT PR Ax [f,.str i9] [.one (.int .i64),.one .tv] c4 (fun (j9:Int) (j8:TV) c2=>(I3 ((i64.wrap (i+(1:Int)))) f a d p n e s g l j k c2/\M3 ((i64.wrap (i+(1:Int)))) f a d p n e s g l j k c2<M3 i f a d p n e s g l j k v)))))) (CallT PR DJ [(.agg (cV a9 e1 c3 d3 d6 c5 d4 d7 c0 d5 c1 d9 c8)),(.agg [.int .u8 g,.int .u8 l,.bool j,.bool k])] [.one .str,.one (.int .i64)] v (fun (h4:B8) (f5:Int) d1=>BId (f5≠0) (K [] f5 d1) (CallT PR Ax [f,.str h4] [.one (.int .i64),.one .tv] d1 (fun (j4:Int) (j6:TV) c7=>(I3 ((i64.wrap (i+(1:Int)))) f a d p n e s g l j k c7/\M3 ((i64.wrap (i+(1:Int)))) f a d p n e s g l j k c7<M3 i f a d p n e s g l j k v)))))))))) (CallT PR AJ [f,.int .u8 10] [.one .tv] v (fun (j3:TV) c9=>(I2 ((i64.wrap (n+(1:Int)))) f a d p g l j k c9/\M2 ((i64.wrap (n+(1:Int)))) f a d p g l j k c9<M2 w a8 c o a7 d0 d2 b0 e0 a1))))))))))) (CallT PR AY [a8] [.one .str] a1 (fun (i3:B8) g7=>K i3 0 g7)))))))))))):CallT PR Il [(.agg (cV v_0 m o d e v_5 v_6 v_7 v_8 v_9 v_10 v_11 v_12)),(.agg [.int .u8 d_0,.int .u8 d_1,.bool d_2,.bool d_3])] [.one .str,.one (.int .i64)] st K:=
 Ag (cfg:=⟨[2,3,10,14,16],[],[]⟩) (h:=(.seq .none (.seq .none (.seq .none (.seq .none (.cut ⟨[(6,.tv),(7,.tv)],[(2,0,0),(3,1,0)],[(0,13),(1,4)],[(0,0,.int .i64),(0,1,.bool),(0,2,.bool),(0,3,.str),(0,4,.int .i64),(0,5,.int .i64),(0,6,.int .i64),(0,7,.int .i64),(0,8,.int .i64),(0,9,.str),(0,10,.tv),(0,11,.tv),(0,12,.tv),(1,0,.int .u8),(1,1,.int .u8),(1,2,.bool),(1,3,.bool)]⟩ (.seq .none (.cond (.seq .none (.seq (.seq .none (.block (.loop ⟨[(8,.tv),(36,.int .i64),(6,.tv),(7,.tv),(34,.tv),(35,.int .i64)],[(2,0,0),(3,1,0)],[(0,13),(1,4)],[(0,0,.int .i64),(0,1,.bool),(0,2,.bool),(0,3,.str),(0,4,.int .i64),(0,5,.int .i64),(0,6,.int .i64),(0,7,.int .i64),(0,8,.int .i64),(0,9,.str),(0,10,.tv),(0,11,.tv),(0,12,.tv),(1,0,.int .u8),(1,1,.int .u8),(1,2,.bool),(1,3,.bool)]⟩ .none))) .none)) .none)) (.seq (.seq .none (.block (.loop ⟨[(60,.int .i64),(6,.tv),(7,.tv),(58,.tv),(59,.int .i64)],[(3,1,0)],[(1,4)],[(1,0,.int .u8),(1,1,.int .u8),(1,2,.bool),(1,3,.bool)]⟩ (.seq .none (.seq .none (.seq (.block (.seq .none (.seq (.seq .none (.block (.loop ⟨[(68,.int .i64),(6,.tv),(7,.tv),(58,.tv),(59,.int .i64),(60,.int .i64),(66,.tv),(67,.int .i64)],[(3,1,0)],[(1,4)],[(1,0,.int .u8),(1,1,.int .u8),(1,2,.bool),(1,3,.bool)]⟩ .none))) .none))) .none)))))) .none))))))) mixed (fun _ _=>Tryz.call183 _ _) Tryz.func183 (by kernel_rfl) (by kernel_rfl) h
theorem Fx (s:TV) (sq:TV) (st:St) (K:Bool->St->Prop) (h:need (isSl s) (need (isSl sq) (BId ((lenS s:Int)≠(lenS sq:Int)) (K false st) (need (isSl s) (∃(I1:Int->TV->TV->Int->St->Prop) (M1:Int->TV->TV->Int->St->Nat),(I1 0 s sq ((lenS s:Int)) st)/\∀a c d e b,I1 a c d e b->(BId (a<e) (((0<=a/\a<(lenZ 1 c:Int))/\Ae (Ad b [] (.t (ixT 1 c a.toNat)) 0) (fun (x1:TV)=>Af (.int .u8) x1 (fun (n1:Int)=>((0<=a/\a<(lenZ 1 d:Int))/\Ae (Ad b [] (.t (ixT 1 d a.toNat)) 0) (fun (x2:TV)=>Af (.int .u8) x2 (fun (n2:Int)=>BId (n1≠n2) (K false b) ((I1 ((i64.wrap (a+(1:Int)))) c d e b/\M1 ((i64.wrap (a+(1:Int)))) c d e b<M1 a c d e b))))))))) (K true b))))))):CallT PR BR [s,sq] [.one .bool] st K:=
 Ag (cfg:=⟨[],[],[]⟩) (h:=(.seq .none (.seq .none (.seq (.seq .none (.block (.loop ⟨[(13,.int .i64),(0,.tv),(1,.tv),(12,.int .i64)],[],[],[]⟩ .none))) .none)))) mixed (fun _ _=>Tryz.call185 _ _) Tryz.func185 (by kernel_rfl) (by kernel_rfl) h
theorem Ns (v_0:Int) (v_1:Bool) (v_2:Bool) (v_3:B8) (v_4:Int) (v_5:Int) (v_6:Int) (v_7:Int) (v_8:Int) (v_9:B8) (v_10:TV) (v_11:TV) (v_12:TV) (st:St) (K:TV->St->Prop) (h:CallT PR BE [v_12] [.one .tv] st (fun (v1:TV) b=>CallT PR AB [v1,(.func Dh [])] [] b (fun (a:St)=>K v1 a))):CallT PR CV [(.agg (cV v_0 v_1 v_2 v_3 v_4 v_5 v_6 v_7 v_8 v_9 v_10 v_11 v_12))] [.one .tv] st K:=
 Ag (cfg:=⟨[1],[],[]⟩) (h:= .none) mixed (fun _ _=>Tryz.call186 _ _) Tryz.func186 (by kernel_rfl) (by kernel_rfl) h
theorem Nu (x_0:Int) (x_1:Bool) (x_2:Bool) (x_3:B8) (x_4:Int) (x_5:Int) (x_6:Int) (x_7:Int) (x_8:Int) (x_9:B8) (x_10:TV) (x_11:TV) (x_12:TV) (y_0:Int) (y_1:Bool) (y_2:Bool) (y_3:B8) (y_4:Int) (y_5:Int) (y_6:Int) (y_7:Int) (y_8:Int) (y_9:B8) (y_10:TV) (y_11:TV) (y_12:TV) (free0:TV) (free1:TV) (st:St) (K:Bool->St->Prop) (h:Ae (Ad st [] (.t free0) 0) (fun (x1:TV)=>Af .bool x1 (fun (b1:Bool)=>Ae (Ad st [] (.t free1) 0) (fun (x2:TV)=>Af (.int .i64) x2 (fun (n1:Int)=>CallT PR D5 [(.agg (cV x_0 x_1 x_2 x_3 x_4 x_5 x_6 x_7 x_8 x_9 x_10 x_11 x_12)),(.agg (cV y_0 y_1 y_2 y_3 y_4 y_5 y_6 y_7 y_8 y_9 y_10 y_11 y_12)),.bool b1,(.int .i64 (i64.wrap (n1-(1:Int))))] [.one .bool] st (fun (b2:Bool) a=>K b2 a)))))):CallT PR Ce [(.agg (cV x_0 x_1 x_2 x_3 x_4 x_5 x_6 x_7 x_8 x_9 x_10 x_11 x_12)),(.agg (cV y_0 y_1 y_2 y_3 y_4 y_5 y_6 y_7 y_8 y_9 y_10 y_11 y_12)),free0,free1] [.one .bool] st K:=
 Ag (cfg:=⟨[4,5],[],[]⟩) (h:= .none) mixed (fun _ _=>Tryz.call187 _ _) Tryz.func187 (by kernel_rfl) (by kernel_rfl) h
theorem Bi (s:TV) (sq:TV) (eq:TV) (st:St) (K:Bool->St->Prop) (h:need (isSl s) (need (isSl sq) (BId ((lenS s:Int)≠(lenS sq:Int)) (K false st) (need (isSl s) (∃(I1:Int->TV->TV->TV->Int->St->Prop) (M1:Int->TV->TV->TV->Int->St->Nat),(I1 0 sq eq s ((lenS s:Int)) st)/\∀a c b e f d,I1 a c b e f d->(BId (a<f) (((0<=a/\a<(lenZ 13 e:Int))/\Ae ((Ah d [] (.t (ixT 13 e a.toNat)) 0 13).map TV.agg) (fun (x1:TV)=>AK [.int .i64,.bool,.bool,.str,.int .i64,.int .i64,.int .i64,.int .i64,.int .i64,.str,.tv,.tv,.tv] x1 (fun (n1:Int) (b1 b2:Bool) (s1:B8) (n2 n3 n4 n5 n6:Int) (s2:B8) (v1 v2 v3:TV)=>need (List.all (cV n1 b1 b2 s1 n2 n3 n4 n5 n6 s2 v1 v2 v3) As) (((0<=a/\a<(lenZ 13 c:Int))/\Ae ((Ah d [] (.t (ixT 13 c a.toNat)) 0 13).map TV.agg) (fun (x2:TV)=>AK [.int .i64,.bool,.bool,.str,.int .i64,.int .i64,.int .i64,.int .i64,.int .i64,.str,.tv,.tv,.tv] x2 (fun (n7:Int) (b3 b4:Bool) (s3:B8) (n8 n9 j i k:Int) (s4:B8) (v4 v5 v6:TV)=>need (List.all (cV n7 b3 b4 s3 n8 n9 j i k s4 v4 v5 v6) As) (GP PR b [(.agg (cV n1 b1 b2 s1 n2 n3 n4 n5 n6 s2 v1 v2 v3)),(.agg (cV n7 b3 b4 s3 n8 n9 j i k s4 v4 v5 v6))] [.one .bool] d (fun (b5:Bool) g=>BIf (!b5) (K false g) ((I1 ((i64.wrap (a+(1:Int)))) c b e f g/\M1 ((i64.wrap (a+(1:Int)))) c b e f g<M1 a c b e f d)))))))))))) (K true d))))))):CallT PR Av [s,sq,eq] [.one .bool] st K:=
 Ag (cfg:=⟨[8,9],[],[]⟩) (h:=(.seq .none (.seq .none (.seq (.seq .none (.block (.loop ⟨[(17,.int .i64),(1,.tv),(2,.tv),(15,.tv),(16,.int .i64)],[],[],[]⟩ .none))) .none)))) mixed (fun _ _=>Tryz.call188 _ _) Tryz.func188 (by kernel_rfl) (by kernel_rfl) h
theorem Bj (s:TV) (sq:TV) (eq:TV) (st:St) (K:Bool->St->Prop) (h:need (isSl s) (need (isSl sq) (BId ((lenS s:Int)≠(lenS sq:Int)) (K false st) (need (isSl s) (∃(I1:Int->TV->TV->TV->Int->St->Prop) (M1:Int->TV->TV->TV->Int->St->Nat),(I1 0 sq eq s ((lenS s:Int)) st)/\∀a c b e f d,I1 a c b e f d->(BId (a<f) (((0<=a/\a<(lenZ 14 e:Int))/\Ae ((Ah d [] (.t (ixT 14 e a.toNat)) 0 14).map TV.agg) (fun (x1:TV)=>AK [.str,.int .i64,.bool,.bool,.str,.int .i64,.int .i64,.int .i64,.int .i64,.int .i64,.str,.tv,.tv,.tv] x1 (fun (s1:B8) (n1:Int) (b1 b2:Bool) (s2:B8) (n2 n3 n4 n5 n6:Int) (s3:B8) (v1 v2 v3:TV)=>need (List.all [.str s1,.int .i64 n1,.bool b1,.bool b2,.str s2,.int .i64 n2,.int .i64 n3,.int .i64 n4,.int .i64 n5,.int .i64 n6,.str s3,v1,v2,v3] As) (((0<=a/\a<(lenZ 14 c:Int))/\Ae ((Ah d [] (.t (ixT 14 c a.toNat)) 0 14).map TV.agg) (fun (x2:TV)=>AK [.str,.int .i64,.bool,.bool,.str,.int .i64,.int .i64,.int .i64,.int .i64,.int .i64,.str,.tv,.tv,.tv] x2 (fun (s4:B8) (n7:Int) (b3 b4:Bool) (s5:B8) (n8 n9 j i k:Int) (s6:B8) (v4 v5 v6:TV)=>need (List.all [.str s4,.int .i64 n7,.bool b3,.bool b4,.str s5,.int .i64 n8,.int .i64 n9,.int .i64 j,.int .i64 i,.int .i64 k,.str s6,v4,v5,v6] As) (GP PR b [(.agg [.str s1,.int .i64 n1,.bool b1,.bool b2,.str s2,.int .i64 n2,.int .i64 n3,.int .i64 n4,.int .i64 n5,.int .i64 n6,.str s3,v1,v2,v3]),(.agg [.str s4,.int .i64 n7,.bool b3,.bool b4,.str s5,.int .i64 n8,.int .i64 n9,.int .i64 j,.int .i64 i,.int .i64 k,.str s6,v4,v5,v6])] [.one .bool] d (fun (b5:Bool) g=>BIf (!b5) (K false g) ((I1 ((i64.wrap (a+(1:Int)))) c b e f g/\M1 ((i64.wrap (a+(1:Int)))) c b e f g<M1 a c b e f d)))))))))))) (K true d))))))):CallT PR Aw [s,sq,eq] [.one .bool] st K:=
 Ag (cfg:=⟨[8,9],[],[]⟩) (h:=(.seq .none (.seq .none (.seq (.seq .none (.block (.loop ⟨[(17,.int .i64),(1,.tv),(2,.tv),(15,.tv),(16,.int .i64)],[],[],[]⟩ .none))) .none)))) mixed (fun _ _=>Tryz.call189 _ _) Tryz.func189 (by kernel_rfl) (by kernel_rfl) h
theorem Nt (x_0:B8) (x_1:Int) (x_2:Bool) (x_3:Bool) (x_4:B8) (x_5:Int) (x_6:Int) (x_7:Int) (x_8:Int) (x_9:Int) (x_10:B8) (x_11:TV) (x_12:TV) (x_13:TV) (y_0:B8) (y_1:Int) (y_2:Bool) (y_3:Bool) (y_4:B8) (y_5:Int) (y_6:Int) (y_7:Int) (y_8:Int) (y_9:Int) (y_10:B8) (y_11:TV) (y_12:TV) (y_13:TV) (free0:TV) (st:St) (K:Bool->St->Prop) (h:BId (x_0=y_0) (Ae (Ad st [] (.t free0) 0) (fun (v1:TV)=>GP PR v1 [(.agg (cV x_1 x_2 x_3 x_4 x_5 x_6 x_7 x_8 x_9 x_10 x_11 x_12 x_13)),(.agg (cV y_1 y_2 y_3 y_4 y_5 y_6 y_7 y_8 y_9 y_10 y_11 y_12 y_13))] [.one .bool] st (fun (b1:Bool) a=>K b1 a))) (K false st)):CallT PR Ec [(.agg [.str x_0,.int .i64 x_1,.bool x_2,.bool x_3,.str x_4,.int .i64 x_5,.int .i64 x_6,.int .i64 x_7,.int .i64 x_8,.int .i64 x_9,.str x_10,x_11,x_12,x_13]),(.agg [.str y_0,.int .i64 y_1,.bool y_2,.bool y_3,.str y_4,.int .i64 y_5,.int .i64 y_6,.int .i64 y_7,.int .i64 y_8,.int .i64 y_9,.str y_10,y_11,y_12,y_13]),free0] [.one .bool] st K:=
 Ag (cfg:=⟨[3,4],[],[]⟩) (h:= .none) mixed (fun _ _=>Tryz.call190 _ _) Tryz.func190 (by kernel_rfl) (by kernel_rfl) h
theorem Ct (b:Nat) (s:B8) (st:St) (K:Int->TV->St->Prop) (h:CallT PR A0 [(.box b 0)] [] st (fun (a:St)=>Ae (Ad a [] (.t (.box b 1)) 0) (fun (v1:TV)=>Ae (FH a 1 (.str s)) (fun (q1:Nat×List TV)=>need (List.all q1.2 As) (BH 5 1 1 v1 q1.1 q1.2 a (fun (v2:TV) d=>need (List.all [v2] As) (stB d (.box b 1) [v2] (fun c=>K ((s.length:Int)) .nilIface c)))))))):CallT PR Ax [(.box b 0),.str s] [.one (.int .i64),.one .tv] st K:=
 Ag (cfg:=⟨[],[],[]⟩) (h:= .none) mixed (fun _ _=>Tryz.call196 _ _) Tryz.func196 (by kernel_rfl) (by kernel_rfl) h
theorem Oa (v_0:Int) (v_1:Bool) (v_2:Bool) (v_3:B8) (v_4:Int) (v_5:Int) (v_6:Int) (v_7:Int) (v_8:Int) (v_9:B8) (v_10:TV) (v_11:TV) (v_12:TV) (st:St) (K:Bool->St->Prop) (h:BId (v_0≠1) (BIf v_1 (K true st) (BId (v_0≠2) (BIf (!((v_2==false)&&(decide (v_3=([]:B8))&&(decide (v_4=(0:Int))&&true)))) (K true st) (BId (v_0≠3) (BIf (!(decide (v_5=(0:Int))&&(decide (v_6=(0:Int))&&(decide (v_7=(0:Int))&&(decide (v_8=(0:Int))&&true))))) (K true st) (BId (v_0≠4) (BId (v_9≠([]:B8)) (K true st) (BId (v_0≠5) (need (isSl v_10) (BId ((0:Int)<(lenS v_10:Int)) (K true st) (BId (v_0≠6) (need (isSl v_11) (BId ((0:Int)<(lenS v_11:Int)) (K true st) (BId (v_0≠7) (need (isSl v_12) (K ((decide ((0:Int)<(lenS v_12:Int)))) st)) (K false st)))) (BId (v_0≠7) (need (isSl v_12) (K ((decide ((0:Int)<(lenS v_12:Int)))) st)) (K false st))))) (BId (v_0≠6) (need (isSl v_11) (BId ((0:Int)<(lenS v_11:Int)) (K true st) (BId (v_0≠7) (need (isSl v_12) (K ((decide ((0:Int)<(lenS v_12:Int)))) st)) (K false st)))) (BId (v_0≠7) (need (isSl v_12) (K ((decide ((0:Int)<(lenS v_12:Int)))) st)) (K false st))))) (BId (v_0≠5) (need (isSl v_10) (BId ((0:Int)<(lenS v_10:Int)) (K true st) (BId (v_0≠6) (need (isSl v_11) (BId ((0:Int)<(lenS v_11:Int)) (K true st) (BId (v_0≠7) (need (isSl v_12) (K ((decide ((0:Int)<(lenS v_12:Int)))) st)) (K false st)))) (BId (v_0≠7) (need (isSl v_12) (K ((decide ((0:Int)<(lenS v_12:Int)))) st)) (K false st))))) (BId (v_0≠6) (need (isSl v_11) (BId ((0:Int)<(lenS v_11:Int)) (K true st) (BId (v_0≠7) (need (isSl v_12) (K ((decide ((0:Int)<(lenS v_12:Int)))) st)) (K false st)))) (BId (v_0≠7) (need (isSl v_12) (K ((decide ((0:Int)<(lenS v_12:Int)))) st)) (K false st)))))) (BId (v_0≠4) (BId (v_9≠([]:B8)) (K true st) (BId (v_0≠5) (need (isSl v_10) (BId ((0:Int)<(lenS v_10:Int)) (K true st) (BId (v_0≠6) (need (isSl v_11) (BId ((0:Int)<(lenS v_11:Int)) (K true st) (BId (v_0≠7) (need (isSl v_12) (K ((decide ((0:Int)<(lenS v_12:Int)))) st)) (K false st)))) (BId (v_0≠7) (need (isSl v_12) (K ((decide ((0:Int)<(lenS v_12:Int)))) st)) (K false st))))) (BId (v_0≠6) (need (isSl v_11) (BId ((0:Int)<(lenS v_11:Int)) (K true st) (BId (v_0≠7) (need (isSl v_12) (K ((decide ((0:Int)<(lenS v_12:Int)))) st)) (K false st)))) (BId (v_0≠7) (need (isSl v_12) (K ((decide ((0:Int)<(lenS v_12:Int)))) st)) (K false st))))) (BId (v_0≠5) (need (isSl v_10) (BId ((0:Int)<(lenS v_10:Int)) (K true st) (BId (v_0≠6) (need (isSl v_11) (BId ((0:Int)<(lenS v_11:Int)) (K true st) (BId (v_0≠7) (need (isSl v_12) (K ((decide ((0:Int)<(lenS v_12:Int)))) st)) (K false st)))) (BId (v_0≠7) (need (isSl v_12) (K ((decide ((0:Int)<(lenS v_12:Int)))) st)) (K false st))))) (BId (v_0≠6) (need (isSl v_11) (BId ((0:Int)<(lenS v_11:Int)) (K true st) (BId (v_0≠7) (need (isSl v_12) (K ((decide ((0:Int)<(lenS v_12:Int)))) st)) (K false st)))) (BId (v_0≠7) (need (isSl v_12) (K ((decide ((0:Int)<(lenS v_12:Int)))) st)) (K false st))))))) (BId (v_0≠3) (BIf (!(decide (v_5=(0:Int))&&(decide (v_6=(0:Int))&&(decide (v_7=(0:Int))&&(decide (v_8=(0:Int))&&true))))) (K true st) (BId (v_0≠4) (BId (v_9≠([]:B8)) (K true st) (BId (v_0≠5) (need (isSl v_10) (BId ((0:Int)<(lenS v_10:Int)) (K true st) (BId (v_0≠6) (need (isSl v_11) (BId ((0:Int)<(lenS v_11:Int)) (K true st) (BId (v_0≠7) (need (isSl v_12) (K ((decide ((0:Int)<(lenS v_12:Int)))) st)) (K false st)))) (BId (v_0≠7) (need (isSl v_12) (K ((decide ((0:Int)<(lenS v_12:Int)))) st)) (K false st))))) (BId (v_0≠6) (need (isSl v_11) (BId ((0:Int)<(lenS v_11:Int)) (K true st) (BId (v_0≠7) (need (isSl v_12) (K ((decide ((0:Int)<(lenS v_12:Int)))) st)) (K false st)))) (BId (v_0≠7) (need (isSl v_12) (K ((decide ((0:Int)<(lenS v_12:Int)))) st)) (K false st))))) (BId (v_0≠5) (need (isSl v_10) (BId ((0:Int)<(lenS v_10:Int)) (K true st) (BId (v_0≠6) (need (isSl v_11) (BId ((0:Int)<(lenS v_11:Int)) (K true st) (BId (v_0≠7) (need (isSl v_12) (K ((decide ((0:Int)<(lenS v_12:Int)))) st)) (K false st)))) (BId (v_0≠7) (need (isSl v_12) (K ((decide ((0:Int)<(lenS v_12:Int)))) st)) (K false st))))) (BId (v_0≠6) (need (isSl v_11) (BId ((0:Int)<(lenS v_11:Int)) (K true st) (BId (v_0≠7) (need (isSl v_12) (K ((decide ((0:Int)<(lenS v_12:Int)))) st)) (K false st)))) (BId (v_0≠7) (need (isSl v_12) (K ((decide ((0:Int)<(lenS v_12:Int)))) st)) (K false st)))))) (BId (v_0≠4) (BId (v_9≠([]:B8)) (K true st) (BId (v_0≠5) (need (isSl v_10) (BId ((0:Int)<(lenS v_10:Int)) (K true st) (BId (v_0≠6) (need (isSl v_11) (BId ((0:Int)<(lenS v_11:Int)) (K true st) (BId (v_0≠7) (need (isSl v_12) (K ((decide ((0:Int)<(lenS v_12:Int)))) st)) (K false st)))) (BId (v_0≠7) (need (isSl v_12) (K ((decide ((0:Int)<(lenS v_12:Int)))) st)) (K false st))))) (BId (v_0≠6) (need (isSl v_11) (BId ((0:Int)<(lenS v_11:Int)) (K true st) (BId (v_0≠7) (need (isSl v_12) (K ((decide ((0:Int)<(lenS v_12:Int)))) st)) (K false st)))) (BId (v_0≠7) (need (isSl v_12) (K ((decide ((0:Int)<(lenS v_12:Int)))) st)) (K false st))))) (BId (v_0≠5) (need (isSl v_10) (BId ((0:Int)<(lenS v_10:Int)) (K true st) (BId (v_0≠6) (need (isSl v_11) (BId ((0:Int)<(lenS v_11:Int)) (K true st) (BId (v_0≠7) (need (isSl v_12) (K ((decide ((0:Int)<(lenS v_12:Int)))) st)) (K false st)))) (BId (v_0≠7) (need (isSl v_12) (K ((decide ((0:Int)<(lenS v_12:Int)))) st)) (K false st))))) (BId (v_0≠6) (need (isSl v_11) (BId ((0:Int)<(lenS v_11:Int)) (K true st) (BId (v_0≠7) (need (isSl v_12) (K ((decide ((0:Int)<(lenS v_12:Int)))) st)) (K false st)))) (BId (v_0≠7) (need (isSl v_12) (K ((decide ((0:Int)<(lenS v_12:Int)))) st)) (K false st)))))))) (BId (v_0≠2) (BIf (!((v_2==false)&&(decide (v_3=([]:B8))&&(decide (v_4=(0:Int))&&true)))) (K true st) (BId (v_0≠3) (BIf (!(decide (v_5=(0:Int))&&(decide (v_6=(0:Int))&&(decide (v_7=(0:Int))&&(decide (v_8=(0:Int))&&true))))) (K true st) (BId (v_0≠4) (BId (v_9≠([]:B8)) (K true st) (BId (v_0≠5) (need (isSl v_10) (BId ((0:Int)<(lenS v_10:Int)) (K true st) (BId (v_0≠6) (need (isSl v_11) (BId ((0:Int)<(lenS v_11:Int)) (K true st) (BId (v_0≠7) (need (isSl v_12) (K ((decide ((0:Int)<(lenS v_12:Int)))) st)) (K false st)))) (BId (v_0≠7) (need (isSl v_12) (K ((decide ((0:Int)<(lenS v_12:Int)))) st)) (K false st))))) (BId (v_0≠6) (need (isSl v_11) (BId ((0:Int)<(lenS v_11:Int)) (K true st) (BId (v_0≠7) (need (isSl v_12) (K ((decide ((0:Int)<(lenS v_12:Int)))) st)) (K false st)))) (BId (v_0≠7) (need (isSl v_12) (K ((decide ((0:Int)<(lenS v_12:Int)))) st)) (K false st))))) (BId (v_0≠5) (need (isSl v_10) (BId ((0:Int)<(lenS v_10:Int)) (K true st) (BId (v_0≠6) (need (isSl v_11) (BId ((0:Int)<(lenS v_11:Int)) (K true st) (BId (v_0≠7) (need (isSl v_12) (K ((decide ((0:Int)<(lenS v_12:Int)))) st)) (K false st)))) (BId (v_0≠7) (need (isSl v_12) (K ((decide ((0:Int)<(lenS v_12:Int)))) st)) (K false st))))) (BId (v_0≠6) (need (isSl v_11) (BId ((0:Int)<(lenS v_11:Int)) (K true st) (BId (v_0≠7) (need (isSl v_12) (K ((decide ((0:Int)<(lenS v_12:Int)))) st)) (K false st)))) (BId (v_0≠7) (need (isSl v_12) (K ((decide ((0:Int)<(lenS v_12:Int)))) st)) (K false st)))))) (BId (v_0≠4) (BId (v_9≠([]:B8)) (K true st) (BId (v_0≠5) (need (isSl v_10) (BId ((0:Int)<(lenS v_10:Int)) (K true st) (BId (v_0≠6) (need (isSl v_11) (BId ((0:Int)<(lenS v_11:Int)) (K true st) (BId (v_0≠7) (need (isSl v_12) (K ((decide ((0:Int)<(lenS v_12:Int)))) st)) (K false st)))) (BId (v_0≠7) (need (isSl v_12) (K ((decide ((0:Int)<(lenS v_12:Int)))) st)) (K false st))))) (BId (v_0≠6) (need (isSl v_11) (BId ((0:Int)<(lenS v_11:Int)) (K true st) (BId (v_0≠7) (need (isSl v_12) (K ((decide ((0:Int)<(lenS v_12:Int)))) st)) (K false st)))) (BId (v_0≠7) (need (isSl v_12) (K ((decide ((0:Int)<(lenS v_12:Int)))) st)) (K false st))))) (BId (v_0≠5) (need (isSl v_10) (BId ((0:Int)<(lenS v_10:Int)) (K true st) (BId (v_0≠6) (need (isSl v_11) (BId ((0:Int)<(lenS v_11:Int)) (K true st) (BId (v_0≠7) (need (isSl v_12) (K ((decide ((0:Int)<(lenS v_12:Int)))) st)) (K false st)))) (BId (v_0≠7) (need (isSl v_12) (K ((decide ((0:Int)<(lenS v_12:Int)))) st)) (K false st))))) (BId (v_0≠6) (need (isSl v_11) (BId ((0:Int)<(lenS v_11:Int)) (K true st) (BId (v_0≠7) (need (isSl v_12) (K ((decide ((0:Int)<(lenS v_12:Int)))) st)) (K false st)))) (BId (v_0≠7) (need (isSl v_12) (K ((decide ((0:Int)<(lenS v_12:Int)))) st)) (K false st))))))) (BId (v_0≠3) (BIf (!(decide (v_5=(0:Int))&&(decide (v_6=(0:Int))&&(decide (v_7=(0:Int))&&(decide (v_8=(0:Int))&&true))))) (K true st) (BId (v_0≠4) (BId (v_9≠([]:B8)) (K true st) (BId (v_0≠5) (need (isSl v_10) (BId ((0:Int)<(lenS v_10:Int)) (K true st) (BId (v_0≠6) (need (isSl v_11) (BId ((0:Int)<(lenS v_11:Int)) (K true st) (BId (v_0≠7) (need (isSl v_12) (K ((decide ((0:Int)<(lenS v_12:Int)))) st)) (K false st)))) (BId (v_0≠7) (need (isSl v_12) (K ((decide ((0:Int)<(lenS v_12:Int)))) st)) (K false st))))) (BId (v_0≠6) (need (isSl v_11) (BId ((0:Int)<(lenS v_11:Int)) (K true st) (BId (v_0≠7) (need (isSl v_12) (K ((decide ((0:Int)<(lenS v_12:Int)))) st)) (K false st)))) (BId (v_0≠7) (need (isSl v_12) (K ((decide ((0:Int)<(lenS v_12:Int)))) st)) (K false st))))) (BId (v_0≠5) (need (isSl v_10) (BId ((0:Int)<(lenS v_10:Int)) (K true st) (BId (v_0≠6) (need (isSl v_11) (BId ((0:Int)<(lenS v_11:Int)) (K true st) (BId (v_0≠7) (need (isSl v_12) (K ((decide ((0:Int)<(lenS v_12:Int)))) st)) (K false st)))) (BId (v_0≠7) (need (isSl v_12) (K ((decide ((0:Int)<(lenS v_12:Int)))) st)) (K false st))))) (BId (v_0≠6) (need (isSl v_11) (BId ((0:Int)<(lenS v_11:Int)) (K true st) (BId (v_0≠7) (need (isSl v_12) (K ((decide ((0:Int)<(lenS v_12:Int)))) st)) (K false st)))) (BId (v_0≠7) (need (isSl v_12) (K ((decide ((0:Int)<(lenS v_12:Int)))) st)) (K false st)))))) (BId (v_0≠4) (BId (v_9≠([]:B8)) (K true st) (BId (v_0≠5) (need (isSl v_10) (BId ((0:Int)<(lenS v_10:Int)) (K true st) (BId (v_0≠6) (need (isSl v_11) (BId ((0:Int)<(lenS v_11:Int)) (K true st) (BId (v_0≠7) (need (isSl v_12) (K ((decide ((0:Int)<(lenS v_12:Int)))) st)) (K false st)))) (BId (v_0≠7) (need (isSl v_12) (K ((decide ((0:Int)<(lenS v_12:Int)))) st)) (K false st))))) (BId (v_0≠6) (need (isSl v_11) (BId ((0:Int)<(lenS v_11:Int)) (K true st) (BId (v_0≠7) (need (isSl v_12) (K ((decide ((0:Int)<(lenS v_12:Int)))) st)) (K false st)))) (BId (v_0≠7) (need (isSl v_12) (K ((decide ((0:Int)<(lenS v_12:Int)))) st)) (K false st))))) (BId (v_0≠5) (need (isSl v_10) (BId ((0:Int)<(lenS v_10:Int)) (K true st) (BId (v_0≠6) (need (isSl v_11) (BId ((0:Int)<(lenS v_11:Int)) (K true st) (BId (v_0≠7) (need (isSl v_12) (K ((decide ((0:Int)<(lenS v_12:Int)))) st)) (K false st)))) (BId (v_0≠7) (need (isSl v_12) (K ((decide ((0:Int)<(lenS v_12:Int)))) st)) (K false st))))) (BId (v_0≠6) (need (isSl v_11) (BId ((0:Int)<(lenS v_11:Int)) (K true st) (BId (v_0≠7) (need (isSl v_12) (K ((decide ((0:Int)<(lenS v_12:Int)))) st)) (K false st)))) (BId (v_0≠7) (need (isSl v_12) (K ((decide ((0:Int)<(lenS v_12:Int)))) st)) (K false st)))))))):CallT PR Gj [(.agg (cV v_0 v_1 v_2 v_3 v_4 v_5 v_6 v_7 v_8 v_9 v_10 v_11 v_12))] [.one .bool] st K:=
 Ag (cfg:=⟨[1],[],[]⟩) (h:= .none) mixed (fun _ _=>Tryz.call197 _ _) Tryz.func197 (by kernel_rfl) (by kernel_rfl) h
theorem L0 (d_0:Bool) (d_1:B8) (d_2:Int) (st:St) (K:Bool->St->Prop) (h:BId (d_1=([]:B8)) (K (((d_0==false)&&(decide (d_1=([]:B8))&&(decide (d_2=(0:Int))&&true)))) st) (CallT PR Ed [.str d_1] [.one .bool] st (fun (b1:Bool) b=>BIf b1 (BId ((d_1.length:Int)<=(120:Int)) (CallT PR Fz [.str d_1] [.one (.int .i64)] b (fun (n1:Int) a=>BId (n1=0) (BId ((-400:Int)<=d_2) (K ((decide (d_2<=400))) a) (K false a)) (K false a))) (K false b)) (K false b)))):CallT PR DM [(.agg [.bool d_0,.str d_1,.int .i64 d_2])] [.one .bool] st K:=
 Ag (cfg:=⟨[1],[],[]⟩) (h:= .none) mixed (fun _ _=>Tryz.call198 _ _) Tryz.func198 (by kernel_rfl) (by kernel_rfl) h
theorem Nv (t_0:Int) (t_1:Int) (t_2:Int) (t_3:Int) (st:St) (K:Bool->St->Prop) (h:BId (t_0<1) (K false st) (BId ((4:Int)<t_0) (K false st) (BId (t_1<0) (K false st) (BId ((3652058:Int)<t_1) (K false st) (BId (t_2<0) (K false st) (BId ((86399999999999:Int)<t_2) (K false st) (BId (t_3<(-1439:Int)) (K false st) (BId ((1439:Int)<t_3) (K false st) (BId (t_0=2) (BId (t_1=0) (K ((decide (t_3=0))) st) (K false st)) (BId (t_0=1) (BId (t_2=0) (K ((decide (t_3=0))) st) (K false st)) (BId (t_0=3) (K ((decide (t_3=0))) st) (K true st)))))))))))):CallT PR CW [(.agg [.int .i64 t_0,.int .i64 t_1,.int .i64 t_2,.int .i64 t_3])] [.one .bool] st K:=
 Ag (cfg:=⟨[1],[],[]⟩) (h:= .none) mixed (fun _ _=>Tryz.call199 _ _) Tryz.func199 (by kernel_rfl) (by kernel_rfl) h
theorem Qc (l:TV) (st:St) (K:Int->St->Prop) (h:need (isSl l) (∃(I1:Int->TV->TV->Int->St->Prop) (M1:Int->TV->TV->Int->St->Nat),(I1 0 ((.map st.nb)) l ((lenS l:Int)) (st.push (.map []) none))/\∀b a c e d,I1 b a c e d->(BId (b<e) (((0<=b/\b<(lenZ 14 c:Int))/\Ae ((Ah d [] (.t (ixT 14 c b.toNat)) 0 14).map TV.agg) (fun (x1:TV)=>AK [.str,.int .i64,.bool,.bool,.str,.int .i64,.int .i64,.int .i64,.int .i64,.int .i64,.str,.tv,.tv,.tv] x1 (fun (s1:B8) (n1:Int) (b1 b2:Bool) (s2:B8) (n2 n3 n4 n5 n6:Int) (s3:B8) (v1 v2 v3:TV)=>need (List.all [.str s1,.int .i64 n1,.bool b1,.bool b2,.str s2,.int .i64 n2,.int .i64 n3,.int .i64 n4,.int .i64 n5,.int .i64 n6,.str s3,v1,v2,v3] As) (CallT PR Ii [.str s1] [.one (.int .i64)] d (fun (n7:Int) f=>BId (n7≠0) (K n7 f) (Ae (EA f a) (fun (es1:List (B8×TV))=>Af .bool (Ge (.bool false) (BP s1 es1)) (fun (b3:Bool)=>BIf b3 (K 8 f) (muK a s1 (.bool true) f (fun g=>(I1 ((i64.wrap (b+(1:Int)))) a c e g/\M1 ((i64.wrap (b+(1:Int)))) a c e g<M1 b a c e d)))))))))))) (K 0 d)))):CallT PR G6 [l] [.one (.int .i64)] st K:=
 Ag (cfg:=⟨[5],[],[]⟩) (h:=(.seq .none (.seq .none (.seq (.seq .none (.block (.loop ⟨[(10,.int .i64),(3,.tv),(8,.tv),(9,.int .i64)],[],[],[]⟩ .none))) .none)))) mixed (fun _ _=>Tryz.call200 _ _) Tryz.func200 (by kernel_rfl) (by kernel_rfl) h
end Go.TVF
