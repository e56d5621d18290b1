/- What the laws below rest on: a framework for Go programs, and contracts of the functions that they reach. -/
import Derived.Test.YtpfhcnpnngjpnaaGreatDoorHbB
import Derived.Deep.Slices
import Derived.WideShapes
import Derived.ChangeArms
import Derived.OpenShut
import Derived.Test.YtpfhcnpnngjpnaaGreatDoorProg
import Derived.KernelRfl
set_option maxRecDepth 20000
set_option linter.unusedVariables false
set_option linter.unusedSimpArgs false
section
namespace Go.TVF
open Go.IntKind(i64 u8)
open Go.RowKit (Below)
theorem QC {P:Program} {Q:Exit->Act->World->Prop} {a:Act} {w:World} {c:Code} (I:Nat->Act->World->Prop) (h₀:∃m,I m a w)
  (round:∀m a w,I m a w->c.wp P (Exit.then (fun a' w'=>∃m',m'<m/\I m' a' w') Q) a w):(Code.loop c).wp P Q a w:=by
 intro b k cs
 have key:∀m a w,I m a w->∃e a' w',Q e a' w'/\Arrives P (lone (b.at a (.code c:: .inLoop c::k)) cs w) b k cs e a' w':=by
  intro m
  induction m using Nat.strongRecOn with
  | _ m ih=>
   intro a w hI
   obtain⟨e,a₁,w₁,hq,harr⟩:=round m a w hI b (.inLoop c::k) cs
   cases e with
   | normal=>
    obtain⟨m',hlt,hI₁⟩:=hq
    obtain⟨e₂,a₂,w₂,hq₂,harr₂⟩:=ih m' hlt a₁ w₁ hI₁
    exact⟨e₂,a₂,w₂,hq₂,.of_steps (Steps.trans harr (.one step_inLoop)) harr₂⟩
   | exit id=>exact⟨_,a₁,w₁,hq,.pass (x:= .inLoop c) rfl (fun _ _=> .inl (by simp)) harr⟩
   | goto l=>exact⟨_,a₁,w₁,hq,.pass (x:= .inLoop c) rfl (fun _ _=> .inl (by simp)) harr⟩
   | ret=>exact⟨_,a₁,w₁,hq,.pass (x:= .inLoop c) rfl (fun _ _=> .inl (by simp)) harr⟩
   | panic ch=>exact⟨_,a₁,w₁,hq,.pass (x:= .inLoop c) rfl (fun _ _=> .inl (by simp)) harr⟩
   | outgrown=>exact⟨_,a₁,w₁,hq,.pass (x:= .inLoop c) rfl (fun _ _=> .inl (by simp)) harr⟩
 obtain⟨m,hm⟩:=h₀
 obtain⟨e,a',w',hq,harr⟩:=key m a w hm
 exact⟨e,a',w',hq,.of_steps (.one step_loop) harr⟩
theorem NZ:∀{cs:List CTy} {vs:List TV} {I:Fun cs (St->Prop)} {M:Fun cs (St->Nat)} {B:List TV->Nat->St->Prop} {st:St},AllC cs I M B->Jc cs vs I (fun p=>p st)->∃m,B vs m st
 | [],[],I,M,B,st,h,hd=>⟨_,h st hd⟩
 | [],_::_,I,M,B,st,h,hd=>hd.elim
 | _::_,[],I,M,B,st,h,hd=>hd.elim
 | c::cs,v::vs,I,M,B,st,h,hd=>by
  obtain⟨y,rfl,hd2⟩:=Dy hd
  exact NZ (B:=fun l=>B (enc c y::l)) (h y) hd2
theorem Pu:∀{cs:List CTy} {vs:List TV} {I:Fun cs (St->Prop)} {M:Fun cs (St->Nat)} {B:List TV->Nat->St->Prop} {st:St} {m:Nat},AllC cs I M B->R0 cs vs I M (fun p q=>p st/\q st<m)->∃m',m'<m/\B vs m' st
 | [],[],I,M,B,st,m,h,hd=>⟨_,hd.2,h st hd.1⟩
 | [],_::_,I,M,B,st,m,h,hd=>hd.elim
 | _::_,[],I,M,B,st,m,h,hd=>hd.elim
 | c::cs,v::vs,I,M,B,st,m,h,hd=>by
  obtain⟨y,rfl,hd2⟩:=Dy hd
  exact Pu (B:=fun l=>B (enc c y::l)) (h y) hd2
theorem LQ:∀{cs:List CTy} {vs:List TV} {I:Fun cs (St->Prop)} {B:List TV->St->Prop} {st:St},Xb cs I B->Jc cs vs I (fun p=>p st)->B vs st
 | [],[],I,B,st,h,hd=>h st hd
 | [],_::_,I,B,st,h,hd=>hd.elim
 | _::_,[],I,B,st,h,hd=>hd.elim
 | c::cs,v::vs,I,B,st,h,hd=>by
  obtain⟨y,rfl,hd2⟩:=Dy hd
  exact LQ (B:=fun l=>B (enc c y::l)) (h y) hd2
def QPost (g:Ghost) (w:World) (a0:Act) (Q:Exit->Fr->St->Prop) (e:Exit) (a:Act) (w':World):Prop:=Jf g w a0 (Q e) a w'
section
variable {P:Program} {cfg:Cfg} {ns nl:Nat}
theorem Vs (hm:P.follows .mixedOrders=true):∀(c:Code) (h:It) (Q:Exit->Fr->St->Prop) (fr:Fr) (st:St) (g:Ghost) (w:World) (a:Act),cwp cfg P ns nl c h Q fr st->Sim g st fr.loc w->FT g w fr a.tmps->a.tmps.size=ns->
  c.wp P (QPost g w a Q) a w:=by
 intro c
 induction c with
 | skip=>intro h Q fr st g w a hc s hf hn;exact wp_skip ⟨fr,st,g,hc,s,hf,Ext.refl _ _,rfl,rfl⟩
 | region id ops draw=>
  intro h Q fr st g w a hc s hf hn
  cases draw with
  | false=>exact wp_region_list (Lx ops.toList fr st g w a hc s hf fun a' w' hp=>hp)
  | true=>exact Qj hm hc s hf fun a' w' hp=>hp
 | seq x y ihx ihy=>
  intro h Q fr st g w a hc s hf hn
  have key:∀(hx hy:It),cwp cfg P ns nl x hx (QV (cwp cfg P ns nl y hy Q) Q) fr st->(Code.seq x y).wp P (QPost g w a Q) a w:=by
   intro hx hy hcx
   refine wp_seq (wp_mono (ihx hx _ fr st g w a hcx s hf hn) fun e a' w' hq=>?_)
   obtain⟨fr',st',g',h1,h2,h3,h4,h5⟩:=hq
   cases e with
   | normal=>
    refine wp_mono (ihy hy Q fr' st' g' w' a' h1 h2 h3 (h5.2.trans hn)) fun e a'' w'' hq2=>?_
    exact hq2.ext h4 h5
   | _=>exact⟨fr',st',g',h1,h2,h3,h4,h5⟩
  cases h with
  | cut k hx hy=>
   obtain⟨R,h1,h2⟩:=hc
   refine wp_seq (wp_mono (ihx hx _ fr st g w a h1 s hf hn) fun e a' w' hq=>?_)
   obtain⟨fr',st',g',q1,q2,q3,q4,q5⟩:=hq
   cases e with
   | normal=>
    have q1':need (k.ok nl fr') (Jc k.tys (k.vals fr') R fun p=>p st'):=q1
    rw[Aw]at q1'
    obtain⟨w1,w2⟩:=Ez.weak (ns:=ns) q1'.1 q2 q3 (q5.2.trans hn)
    have hb:=LQ h2 q1'.2
    exact wp_mono (ihy hy Q _ st' g' w' a' hb w1 w2 (q5.2.trans hn)) fun e a'' w'' hq2=>hq2.ext q4 q5
   | _=>exact⟨fr',st',g',q1,q2,q3,q4,q5⟩
  | none=>exact key _ _ hc
  | seq p q=>exact key _ _ hc
  | cond p q=>exact key _ _ hc
  | block p=>exact key _ _ hc
  | loop k p=>exact key _ _ hc
 | cond c x y ihx ihy=>
  intro h Q fr st g w a hc s hf hn
  simp only[cwp]at hc
  split at hc
  ·rename_i b hb
   have hr:=PV hf c
   rw[hb]at hr
   have hr':Rel g w (.bool b) (a.eval c):=hr
   have hev:a.eval c= .bool b:=by generalize a.eval c=q at hr';cases hr';rfl
   cases b with
   | true=>exact wp_cond_true hev (ihx h.l Q fr st g w a hc s hf hn)
   | false=>exact wp_cond_false hev (ihy h.r Q fr st g w a hc s hf hn)
  ·exact hc.elim
 | block id x ih=>
  intro h Q fr st g w a hc s hf hn
  refine wp_block (wp_mono (ih h.l (TA id Q) fr st g w a hc s hf hn) fun e a' w' hq=>?_)
  obtain⟨fr',st',g',h1,h2,h3,h4,h5⟩:=hq
  cases e with
  | exit id'=>
   simp only[TA]at h1
   by_cases hid:id'=id
   ·subst hid
    have hbe:(id'.beq id')=true:=Nat.beq_refl id'
    simp only[hbe]at h1
    simp only[Exit.inBlock,if_true]
    exact⟨fr',st',g',h1,h2,h3,h4,h5⟩
   ·have hbe:(id'.beq id)=false:=by
     cases hq:id'.beq id with
     | false=>rfl
     | true=>exact absurd (Nat.eq_of_beq_eq_true hq) hid
    simp only[hbe]at h1
    simp only[Exit.inBlock,hid,if_false]
    exact⟨fr',st',g',h1,h2,h3,h4,h5⟩
  | _=>exact⟨fr',st',g',h1,h2,h3,h4,h5⟩
 | loop x ih=>
  intro h Q fr st g w a hc s hf hn
  cases h with
  | loop k hx=>
   obtain⟨I,M,h1,h2⟩:=hc
   rw[Aw]at h1
   refine QC (fun m a' w'=>∃vals st' g',cwp cfg P ns nl x hx (QV (fun fr st=>need (k.ok nl fr) (R0 k.tys (k.vals fr) I M fun p q=>p st/\q st<m)) Q) (k.frame ns nl vals) st'/\
    Sim g' st' (k.frame ns nl vals).loc w'/\FT g' w' (k.frame ns nl vals) a'.tmps/\Ext g w g' w'/\a'.defers=a.defers/\a'.tmps.size=a.tmps.size) ?_ ?_
   ·obtain⟨m,hm⟩:=NZ h2 h1.2
    obtain⟨w1,w2⟩:=Ez.weak (ns:=ns) h1.1 s hf hn
    exact⟨m,_,st,g,hm,w1,w2,Ext.refl _ _,rfl,rfl⟩
   ·rintro m a' w' ⟨vals,st',g',q1,q2,q3,q4,q5⟩
    refine wp_mono (ih hx _ _ st' g' w' a' q1 q2 q3 (q5.2.trans hn)) fun e a'' w'' hq=>?_
    obtain⟨fr2,st2,g2,r1,r2,r3,r4,r5⟩:=hq
    cases e with
    | normal=>
     have r1':need (k.ok nl fr2) (R0 k.tys (k.vals fr2) I M fun p q=>p st2/\q st2<m):=r1
     rw[Aw]at r1'
     obtain⟨m',hlt,hB⟩:=Pu h2 r1'.2
     obtain⟨w1,w2⟩:=Ez.weak (ns:=ns) r1'.1 r2 r3 (r5.2.trans (q5.2.trans hn))
     exact⟨m',hlt,_,st2,g2,hB,w1,w2,q4.trans r4,r5.1.trans q5.1,r5.2.trans q5.2⟩
    | _=>exact⟨fr2,st2,g2,r1,r2,r3,q4.trans r4,r5.1.trans q5.1,r5.2.trans q5.2⟩
  | _=>exact hc.elim
 | exit id=>intro h Q fr st g w a hc s hf hn;exact wp_exit ⟨fr,st,g,hc,s,hf,Ext.refl _ _,rfl,rfl⟩
 | ret=>intro h Q fr st g w a hc s hf hn;exact wp_ret ⟨fr,st,g,hc,s,hf,Ext.refl _ _,rfl,rfl⟩
 | _=>intro h Q fr st g w a hc s hf hn;exact hc.elim
def KY (P:Program) (fr:Fr) (st:St):ResultVar->Option TV
 | .tmp t=>some (KR fr t)
 | .cell a t=>match JG P t with
  | some true=>match P.cellsOf t with
   | 0=>none
   | n=>(Aj st fr.loc (fr.slots.f a) 0 n).map .agg
  | some false=>Ab st fr.loc (fr.slots.f a) 0
  | none=>none
def H7 (P:Program) (fr:Fr) (st:St):List ResultVar->Option (List TV)
 | []=>some []
 | r::rs=>match KY P fr st r with
  | some v=>(H7 P fr st rs).map (v::·)
  | none=>none
def Sq:List TV->TV
 | [v]=>v
 | vs=> .tuple vs
def resT (P:Program) (fn:Func) (fr:Fr) (st:St):Option TV:=(H7 P fr st fn.results.toList).map Sq
def PZ (P:Program) (fr:Fr) (st:St) (r:ResultVar) (k:TV->Prop):Prop:=
 match r with
 | .tmp t=>k (KR fr t)
 | .cell a t=>match JG P t with
  | some true=>match P.cellsOf t with
   | 0=>False
   | n=>Af ((Aj st fr.loc (fr.slots.f a) 0 n).map .agg) k
  | some false=>Af (Ab st fr.loc (fr.slots.f a) 0) k
  | none=>False
def J1 (P:Program) (fr:Fr) (st:St):List ResultVar->(List TV->Prop)->Prop
 | [],k=>k []
 | r::rs,k=>PZ P fr st r fun v=>J1 P fr st rs fun vs=>k (v::vs)
theorem Ok {P:Program} {fr:Fr} {st:St} {r:ResultVar} {k:TV->Prop} (h:PZ P fr st r k):∃v,KY P fr st r=some v/\k v:=by
 cases r with
 | tmp t=>exact⟨_,rfl,h⟩
 | cell a t=>
  unfold PZ at h
  unfold KY
  simp only at h⊢
  cases ha:JG P t with
  | none=>rw[ha]at h;exact h.elim
  | some b=>
   rw[ha]at h
   cases b with
   | true=>
    simp only at h⊢
    cases hn:P.cellsOf t with
    | zero=>rw[hn]at h;exact h.elim
    | succ n=>
     rw[hn]at h
     exact Dk.1 h
   | false=>exact Dk.1 h
theorem IS {P:Program} {fr:Fr} {st:St}:∀{rs:List ResultVar} {k:List TV->Prop},J1 P fr st rs k->∃vs,H7 P fr st rs=some vs/\k vs
 | [],k,h=>⟨[],rfl,h⟩
 | r::rs,k,h=>by
  obtain⟨v,h1,h2⟩:=Ok h
  obtain⟨vs,h3,h4⟩:=IS h2
  exact⟨v::vs,by simp[H7,h1,h3],h4⟩
def retQ (P:Program) (fn:Func) (R:TV->St->Prop):Exit->Fr->St->Prop
 | .normal,fr,st=>J1 P fr st fn.results.toList fun vs=>R (Sq vs) st
 | .ret,fr,st=>J1 P fr st fn.results.toList fun vs=>R (Sq vs) st
 | _,_,_=>False
def Hc (cfg:Cfg) (fn:Func) (args:List TV):Fr:=⟨⟨fn.ntmps,fun i=>match args[i]? with | some v=> .t v | none=> .t .undef⟩,cfg.loc.map fun _=>none⟩
theorem PY {g:Ghost} {st:St} {w:World} {fr:Fr} {tmps:Array Value} (s:Sim g st fr.loc w) (hf:FT g w fr tmps) {r:ResultVar} {v:TV} (h:KY P fr st r=some v):
  ∃u,(match r with | .tmp t=>pure (tmps.getD t Go.undef) | .cell a t=>do loadVar t (<-asAddr (tmps.getD a Go.undef)):Sem Value).run P w= .ok u w/\Rel g w v u:=by
 cases r with
 | tmp t=>
  simp only[KY,Option.some.injEq]at h
  subst h
  exact⟨_,rfl,(hf.2 t).tv⟩
 | cell a t=>
  simp only[KY]at h
  have hld:∀p,Bx g w fr.loc p (tmps.getD a Go.undef)->(DN P st fr.loc t p).Is (.t v)->∃u,(do loadVar t (<-asAddr (tmps.getD a Go.undef)):Sem Value).run P w= .ok u w/\Rel g w v u:=by
   intro p hp hl
   have hl':=hl
   obtain⟨u,hu,hr⟩:=M8 (P:=P) s hp hl'
   have hsa:(Instr.loadAt t (tmps.getD a Go.undef)).run P w=(do loadVar t (<-asAddr (tmps.getD a Go.undef)):Sem Value).run P w:=by
    generalize hq:tmps.getD a Go.undef=q at hp hu
    simp only[Instr.loadAt,Sem.run_bind]
    cases q with
    | pointer o=>cases o with
     | none=>simp[Instr.loadAt,Instr.sureAddr]at hu
     | some ad=>simp[Instr.sureAddr,asAddr]
    | _=>simp[Instr.loadAt,Instr.sureAddr]at hu
   exact⟨u,by rw[<-hsa];exact hu,hr⟩
  split at h
  ·rename_i ha
   split at h
   ·cases h
   ·rename_i n hn
    refine hld _ (hf.2 a) ?_
    unfold DN
    rw[ha]
    exact⟨v,by
     split
     ·rename_i h0;exact absurd h0 hn
     ·exact h,rfl⟩
  ·rename_i ha
   refine hld _ (hf.2 a) ?_
   unfold DN
   rw[ha]
   exact⟨v,h,rfl⟩
  ·cases h
theorem J0 {g:Ghost} {st:St} {w:World} {fr:Fr} {tmps:Array Value} (s:Sim g st fr.loc w) (hf:FT g w fr tmps):∀{rs:List ResultVar} {vs:List TV},H7 P fr st rs=some vs->
  ∃us:List Value,(rs.mapM (fun r=>match r with | .tmp t=>pure (tmps.getD t Go.undef) | .cell a t=>do loadVar t (<-asAddr (tmps.getD a Go.undef))):Sem (List Value)).run P w= .ok us w/\AT g w vs us
 | [],vs,h=>by simp only[H7,Option.some.injEq]at h;subst h;exact⟨[],rfl,.nil _ _⟩
 | r::rs,vs,h=>by
  simp only[H7]at h
  split at h
  ·rename_i v hv
   obtain⟨vs',hvs',rfl⟩:=Option.map_eq_some_iff.1 h
   obtain⟨u,hu,hr⟩:=PY s hf hv
   obtain⟨us,hus,hrs⟩:=J0 s hf hvs'
   refine⟨u::us,?_,.cons hr hrs⟩
   rw[List.mapM_cons]
   simp only[Sem.run_bind,hu,Result.andThen_ok,hus,Sem.run_pure]
  ·cases h
theorem SG {g:Ghost} {st:St} {w:World} {fr:Fr} {tmps:Array Value} (s:Sim g st fr.loc w) (hf:FT g w fr tmps) {fn:Func} {v:TV} (h:resT P fn fr st=some v):∃u,(results fn tmps).run P w= .ok u w/\Rel g w v u:=by
 unfold resT at h
 cases hr:H7 P fr st fn.results.toList with
 | none=>rw[hr]at h;cases h
 | some vs=>
  rw[hr]at h
  obtain⟨us,hus,hrel⟩:=J0 s hf hr
  have hrun:(fn.results.mapM (fun r=>match r with | .tmp t=>pure (tmps.getD t Go.undef) | .cell a t=>do loadVar t (<-asAddr (tmps.getD a Go.undef))):Sem (Array Value)).run P w= .ok us.toArray w:=by
   rw[<-Array.toArray_toList (xs:=fn.results),List.mapM_toArray]
   simp only[Sem.run_map,hus,Result.andThen_ok]
  refine⟨if h:us.toArray.size=1 then us.toArray[0]else .tuple us.toArray,?_,?_⟩
  ·have hres:results fn tmps=(do
     let vs<-(fn.results.mapM (fun r=>match r with | .tmp t=>pure (tmps.getD t Go.undef) | .cell a t=>do loadVar t (<-asAddr (tmps.getD a Go.undef))):Sem (Array Value))
     pure (if h:vs.size=1 then vs[0]else .tuple vs)):=rfl
   rw[hres,Sem.run_bind,hrun]
   rfl
  ·cases vs with
   | nil=>
    simp only[Option.map_some,Option.some.injEq,Sq]at h;subst h
    have:us=[]:=List.eq_nil_of_length_eq_zero hrel.1.symm
    subst this
    exact Rel.tuple [] [] rfl (fun i hi=>absurd hi (Nat.not_lt_zero _))
   | cons v1 vs1=>cases vs1 with
    | nil=>
     simp only[Option.map_some,Option.some.injEq,Sq]at h;subst h
     cases us with
     | nil=>have:=hrel.1;simp at this
     | cons u1 us1=>
      have:us1=[]:=List.eq_nil_of_length_eq_zero (by have:=hrel.1;simpa using this.symm)
      subst this
      simpa using hrel.2 0 (by simp)
    | cons v2 vs2=>
     simp only[Option.map_some,Option.some.injEq,Sq]at h;subst h
     have hl:us.toArray.size≠1:=by have:=hrel.1;simp at this⊢;omega
     rw[dif_neg hl]
     exact Rel.tuple _ us hrel.1 hrel.2
theorem UL (hm:P.follows .mixedOrders=true) {f:FuncId} {fn:Func} {c:Code} (hcall:∀(vs:Array Value) (w:World),(callFunc f vs).run P w= .ok (.enter f vs) w) (hf:P.funcs[f]? =some fn) (hb:fn.body=some c)
  (cfg:Cfg) (h:It) {args:List TV} {st:St} {R:TV->St->Prop} (hn:args.length<=fn.ntmps)
  (hc:cwp cfg P fn.ntmps cfg.loc.length c h (retQ P fn R) (Hc cfg fn args) st):ET P f args st R:=by
 refine E5 hcall fun g w vargs s hr=>?_
 refine calls_of_wp hf hb ?_
 have hlen:vargs.length=args.length:=hr.1.symm
 have hsize:(vargs.toArray++Array.replicate (fn.ntmps-vargs.toArray.size) Go.undef).size=fn.ntmps:=by simp;omega
 have hsim:Sim g st (Hc cfg fn args).loc w:=s.weakLoc fun j x' hx'=>by
  simp only[Hc,List.getElem?_map]at hx'
  cases hq:cfg.loc[j]? with
  | none=>rw[hq]at hx';cases hx'
  | some q=>rw[hq]at hx';simp at hx'
 have hfr:FT g w (Hc cfg fn args) (vargs.toArray++Array.replicate (fn.ntmps-vargs.toArray.size) Go.undef):=by
  refine⟨by rw[hsize];rfl,fun i=>?_⟩
  by_cases hia:i<args.length
  ·have h1:(Hc cfg fn args).slots.f i= .t args[i]:=by simp[Hc,hia]
   have h2:(vargs.toArray++Array.replicate (fn.ntmps-vargs.toArray.size) Go.undef).getD i Go.undef=vargs.getD i Go.undef:=by
    have:i<vargs.length:=by omega
    have hin:i<fn.ntmps:=by omega
    simp[Array.getD,Array.getElem_append,this,hin,List.getD_eq_getElem?_getD]
    omega
   rw[h1,h2]
   exact hr.2 i hia
  ·have h1:(Hc cfg fn args).slots.f i= .t .undef:=by simp[Hc,hia]
   have h2:(vargs.toArray++Array.replicate (fn.ntmps-vargs.toArray.size) Go.undef).getD i Go.undef=Go.undef:=by
    have:¬i<vargs.length:=by omega
    simp[Array.getD,Array.getElem_append,this]
   rw[h1,h2]
   exact Rel.undef
 refine wp_mono (Vs hm c h _ _ st g w {tmps:=vargs.toArray++Array.replicate (fn.ntmps-vargs.toArray.size) Go.undef,defers:=[]} hc hsim hfr hsize) fun e a' w' hq=>?_
 obtain⟨fr',st',g',h1,h2,h3,h4,h5,h6⟩:=hq
 have fin:J1 P fr' st' fn.results.toList (fun vs=>R (Sq vs) st')->a'.defers=[]/\∃v,(results fn a'.tmps).run P w'= .ok v w'/\∃v',Ending.returned v= .returned v'/\∃r st' g',R r st'/\Sim g' st' [] w'/\Rel g' w' r v'/\Ext g w g' w':=by
  intro ho
  obtain⟨vs,hvs,hR⟩:=IS ho
  obtain⟨u,hu,hrel⟩:=SG (fn:=fn) h2 h3 (by unfold resT;rw[hvs];rfl)
  exact⟨h5,u,hu,u,rfl,_,st',g',hR,h2.dropLoc (fun j x hx=>by simp at hx),hrel,h4⟩
 cases e with
 | normal=>exact fin h1
 | ret=>exact fin h1
 | _=>exact h1.elim
def St.zero:St:={nb:=0,box:=fun _=> .dead,nt:=0,live:=fun _=>false,ty:=fun _=>none,bt:=fun _=>none}
def Ghost.start (w:World):Ghost:={base:=w.heap.size,w0:=w,nb:=0,bk:=fun _=>0,lam:=fun _=>0,nt:=0,sp:=fun _=>none,S:=fun a=>a.spot=none/\∃v,w.cell? a=some v,prot:=fun _=>False}
theorem Sim.start (w:World) (hG:∀w',Below w.heap.size w w'->GlobOK w'):Sim (Ghost.start w) St.zero [] w:=by
 have hd:∀k,¬Dom St.zero [] k:=by
  intro k d
  cases k with
  | box i=>exact absurd d (Nat.not_lt_zero _)
  | loc i=>obtain⟨x,hx⟩:=d;simp at hx
 exact⟨rfl,rfl,Below.refl _ _,Nat.le_refl _,fun k d=>absurd d (hd k),fun k k' d=>absurd d (hd k),fun k d=>absurd d (hd k),fun id h=>absurd h (Nat.not_lt_zero _),
  fun id b l h hh=>(by cases hh),fun i j b l h l' h' _ hh=>(by cases hh),fun id _=>rfl,fun a ha=>⟨ha.1,ha.2,fun k d=>absurd d (hd k),fun id l h hh=>(by cases hh)⟩,fun b hb=>hb.elim,fun id b l h hh=>(by cases hh),fun id b l h T hh=>(by cases hh),fun b T hb=>absurd hb (Nat.not_lt_zero _),hG⟩
theorem Tv {f:FuncId} {args:List TV} (hcall:∀(vs:Array Value) (w:World),(callFunc f vs).run P w= .ok (.enter f vs) w) (h:ET P f args St.zero fun r _=>r= .bool true) (w:World) (hG:∀w',Below w.heap.size w w'->GlobOK w') (vargs:List Value) (hr:AT (Ghost.start w) w args vargs):
  Calls P f vargs.toArray w fun e w'=>e= .returned (.bool true)/\Below w.heap.size w w':=by
 have h1:=h.run (Ghost.start w) w vargs (Sim.start w hG) hr
 unfold CP at h1
 rw[hcall]at h1
 refine Calls.mono h1 ?_
 rintro e w' ⟨v,rfl,r,st',g',rfl,s',hrel,e'⟩
 have hb:=s'.below
 rw[e'.base,e'.w0]at hb
 cases hrel
 exact⟨rfl,hb⟩
end
def Tz (fn:Func):Code:=match fn.body with | some c=>c | none=> .skip
def Fw (cfg:Cfg) (P:Program) (h:It) (fn:Func) (args:List TV) (st:St) (R:TV->St->Prop):Prop:=
 cwp cfg P fn.ntmps cfg.loc.length (Tz fn) h (retQ P fn R) (Hc cfg fn args) st
def fits (fn:Func) (args:List TV):Bool:=(fn.body.isSome).and (args.length.ble fn.ntmps)
theorem Ak {P:Program} (hm:P.follows .mixedOrders=true) {f:FuncId} {fn:Func} (hcall:∀(vs:Array Value) (w:World),(callFunc f vs).run P w= .ok (.enter f vs) w) (hf:P.funcs[f]? =some fn)
  {cfg:Cfg} {h:It} {args:List TV} {st:St} {R:TV->St->Prop} (hn:fits fn args=true) {V:Prop} (he:Fw cfg P h fn args st R=V) (hV:V):ET P f args st R:=by
 simp only[fits,Bool.and_eq_true]at hn
 obtain⟨c,hc⟩:=Option.isSome_iff_exists.1 hn.1
 have hb:fn.body=some (Tz fn):=by rw[Tz,hc]
 rw[<-he]at hV
 exact UL hm hcall hf hb cfg h (Nat.le_of_ble_eq_true hn.2) hV
def AU (cs:List CTy) (v:TV) (f:Fun cs Prop):Prop:=
 match v with
 | .agg l=>decL cs l f
 | _=>False
def stB (st:St) (p:TV) (xs:List TV) (k:St->Prop):Prop:=
 match p with
 | .box b off=>∃l,st.box b= .cells l/\off+xs.length<=l.length/\k (st.put b (.cells (setAll l off xs)))
 | _=>False
theorem Ac {p:Prop} [Decidable p] {x y:Prop} (h1:p->x) (h2:¬p->y):BIf (decide p) x y:=by
 by_cases h:p
 ·simp only[h,decide_true,BIf];exact h1 h
 ·simp only[h,decide_false,BIf];exact h2 h
theorem Au {b:Bool} {x y:Prop} (h1:b=true->x) (h2:b=false->y):BIf b x y:=by
 cases b
 ·exact h2 rfl
 ·exact h1 rfl
end Go.TVF
end
section
namespace Go.TVF
open Go.IntKind(i64 u8)
structure Ay (a b:St):Prop where
 nb:a.nb<=b.nb
 box:∀i,i<a.nb->b.box i=a.box i
 nt:a.nt<=b.nt
 live:∀i,i<a.nt->b.live i=a.live i
 ty:∀i,i<a.nt->b.ty i=a.ty i
 bt:∀i,i<a.nb->b.bt i=a.bt i
theorem Ay.refl (a:St):Ay a a:=⟨Nat.le_refl _,fun _ _=>rfl,Nat.le_refl _,fun _ _=>rfl,fun _ _=>rfl,fun _ _=>rfl⟩
theorem Ay.trans {a b c:St} (h:Ay a b) (k:Ay b c):Ay a c:=
 ⟨Nat.le_trans h.nb k.nb,fun i hi=>(k.box i (Nat.lt_of_lt_of_le hi h.nb)).trans (h.box i hi),Nat.le_trans h.nt k.nt,fun i hi=>(k.live i (Nat.lt_of_lt_of_le hi h.nt)).trans (h.live i hi),fun i hi=>(k.ty i (Nat.lt_of_lt_of_le hi h.nt)).trans (h.ty i hi),fun i hi=>(k.bt i (Nat.lt_of_lt_of_le hi h.nb)).trans (h.bt i hi)⟩
theorem Ay.fresh {a b:St} (h:Ay a b) (T:Option Nat):Ay a (b.fresh T):=
 h.trans ⟨Nat.le_refl _,fun _ _=>rfl,Nat.le_succ _,fun i hi=>by simp only[St.fresh];rw[if_neg (by omega)],fun i hi=>by simp only[St.fresh];rw[if_neg (by omega)],fun _ _=>rfl⟩
theorem Ay.push {a b:St} (h:Ay a b) (o:IM) (T:Option Nat):Ay a (b.push o T):=
 h.trans ⟨Nat.le_succ _,fun i hi=>by simp only[St.push];rw[if_neg (by omega)],Nat.le_refl _,fun _ _=>rfl,fun _ _=>rfl,fun i hi=>by simp only[St.push];rw[if_neg (by omega)]⟩
theorem Ay.retire {a b:St} (h:Ay a b) {id:Nat} (hid:a.nt<=id):Ay a (b.retire id):=
 ⟨h.nb,h.box,h.nt,fun i hi=>by simp only[St.retire];rw[if_neg (by omega)];exact h.live i hi,h.ty,h.bt⟩
theorem Ay.put {a b:St} (h:Ay a b) {i:Nat} (hi:a.nb<=i) (o:IM):Ay a (b.put i o):=
 ⟨h.nb,fun j hj=>by simp only[St.put];rw[if_neg (by omega)];exact h.box j hj,h.nt,h.live,h.ty,h.bt⟩
theorem Gh (l:B8):(AQ l).length=l.length:=by simp[AQ]
theorem C7:∀l:B8,Dt (AQ l)=some l
 | []=>rfl
 | c::l=>by
  have:=C7 l
  simp only[AQ]at this
  simp[AQ,Dt,UC,TD,this]
theorem SR (l:B8):(AQ l).all Ap=true:=by simp[AQ,UC,Ap]
theorem Je (a b:B8):AQ a++AQ b=AQ (a++b):=by simp[AQ]
def Rd (sz:Nat) (v:TV) (n:Nat) (xs:List TV):Prop:=
 (v= .nilSlice/\n=0/\xs=[])∨∃tip,v= .list sz tip n xs
def Own (b sz:Nat) (st:St) (v:TV) (n:Nat) (xs:List TV):Prop:=
 (v= .nilSlice/\n=0/\xs=[])∨∃tip,v= .list sz tip n xs/\(tip= .full∨∃id,tip= .own id/\b<=id/\id<st.nt/\st.live id=true)
theorem Own.rd {b sz:Nat} {st:St} {v:TV} {n:Nat} {xs:List TV} (h:Own b sz st v n xs):Rd sz v n xs:=by
 rcases h with h | ⟨tip,h,_⟩
 ·exact .inl h
 ·exact .inr ⟨tip,h⟩
theorem Own.ext {b sz:Nat} {st st':St} {v:TV} {n:Nat} {xs:List TV} (h:Own b sz st v n xs) (e:Ay st st'):Own b sz st' v n xs:=by
 rcases h with h | ⟨tip,h,ht | ⟨id,h1,h2,h3,h4⟩⟩
 ·exact .inl h
 ·exact .inr ⟨tip,h,.inl ht⟩
 ·exact .inr ⟨tip,h,.inr ⟨id,h1,h2,Nat.lt_of_lt_of_le h3 e.nt,(e.live id h3).trans h4⟩⟩
theorem Own.nil (b sz:Nat) (st:St):Own b sz st .nilSlice 0 []:= .inl ⟨rfl,rfl,rfl⟩
theorem Own.full (b sz:Nat) (st:St) (n:Nat) (xs:List TV):Own b sz st (.list sz .full n xs) n xs:= .inr ⟨_,rfl,.inl rfl⟩
theorem Own.fresh {b sz:Nat} {st:St} {T:Option Nat} (n:Nat) (xs:List TV) (hb:b<=st.nt):Own b sz (st.fresh T) (.list sz (.own st.nt) n xs) n xs:=
 .inr ⟨_,rfl,.inr ⟨st.nt,rfl,hb,Nat.lt_succ_self _,by simp[St.fresh]⟩⟩
theorem Rd.isSl {sz:Nat} {v:TV} {n:Nat} {xs:List TV} (h:Rd sz v n xs):TVF.isSl v=true:=by
 rcases h with⟨rfl,_⟩ | ⟨tip,rfl⟩<;>rfl
theorem Rd.lenS {sz:Nat} {v:TV} {n:Nat} {xs:List TV} (h:Rd sz v n xs):TVF.lenS v=n:=by
 rcases h with⟨rfl,rfl,_⟩ | ⟨tip,rfl⟩<;>rfl
theorem Rd.lenZ {sz:Nat} {v:TV} {n:Nat} {xs:List TV} (h:Rd sz v n xs):TVF.lenZ sz v=n:=by
 rcases h with⟨rfl,rfl,_⟩ | ⟨tip,rfl⟩
 ·rfl
 ·simp[TVF.lenZ]
theorem Rd.one {sz:Nat} {v:TV} {n:Nat} {xs:List TV} (h:Rd sz v n xs):Ap v=true:=by
 rcases h with⟨rfl,rfl,_⟩ | ⟨tip,rfl⟩<;>rfl
theorem Rd.ld {sz:Nat} {v:TV} {n:Nat} {xs:List TV} (h:Rd sz v n xs) (st:St) (i j:Nat) (hi:i*sz+j<xs.length):Ab st [] (.t (ixT sz v i)) j=some xs[i*sz+j]:=by
 rcases h with⟨rfl,rfl,rfl⟩ | ⟨tip,rfl⟩
 ·simp at hi
 ·simp[Ab,ixT,hi]
theorem Rd.ldf {sz:Nat} {v:TV} {n:Nat} {xs:List TV} (h:Rd sz v n xs) (st:St) (i f:Nat) (hi:i*sz+f<xs.length):Ab st [] (.t (Ag (ixT sz v i) f)) 0=some xs[i*sz+f]:=by
 rcases h with⟨rfl,rfl,rfl⟩ | ⟨tip,rfl⟩
 ·simp at hi
 ·simp[Ab,ixT,Ag,hi]
theorem TZ (st:St) (l:B8):BI st 1 (.str l)=some (l.length,AQ l):=rfl
theorem FR {T b sz bytes:Nat} {st0 st:St} {v:TV} {n k:Nat} {xs ys:List TV} {K:TV->St->Prop} (e:Ay st0 st) (hb:b=st0.nt) (h:Own b sz st v n xs) (hby:(n+k)*bytes<=140737488355328) (hys:k=0->ys=[])
  (hK:∀v' st',Ay st0 st'->st'.box=st.box->Own b sz st' v' (n+k) (xs++ys)->K v' st'):AF T sz bytes v k ys st K:=by
 subst hb
 rcases h with⟨rfl,rfl,rfl⟩ | ⟨tip,rfl,ht⟩
 ·simp only[AF]
  cases k with
  | zero=>rw[hys rfl]at hK;exact hK _ _ e rfl (.nil _ _ _)
  | succ m=>
   simp only[Aw]
   refine⟨by simpa using hby,hK _ _ (e.fresh _) rfl ?_⟩
   simp only[List.nil_append,Nat.zero_add]
   exact Own.fresh _ _ e.nt
 ·simp only[AF,Nat.beq_refl]
  refine⟨hby,?_⟩
  rcases ht with rfl | ⟨id,rfl,h1,h2,h3⟩
  ·cases k with
   | zero=>rw[hys rfl]at hK;simp only[List.append_nil]at hK;exact hK _ _ e rfl (Own.full _ _ _ _ _)
   | succ m=>exact hK _ _ (e.fresh _) rfl (Own.fresh _ _ e.nt)
  ·exact⟨h3,hK _ _ ((e.retire h1).fresh _) rfl (Own.fresh (st:=st.retire id) _ _ e.nt)⟩
theorem Aa {b:Bool} {k:Prop} (h:b=true) (hk:k):need b k:=Aw.2 ⟨h,hk⟩
theorem Ad {α:Type} {o:Option α} {x:α} {k:α->Prop} (h:o=some x) (hk:k x):Af o k:=by rw[h];exact hk
theorem As (x:Int) (h1: -9223372036854775808<=x) (h2:x<=9223372036854775807):IntKind.wrap .i64 x=x:=by
 unfold IntKind.wrap
 simp only[IntKind.signed,IntKind.bits]
 simp
 omega
theorem PB (x:Int) (h1:0<=x) (h2:x<=255):IntKind.wrap .u8 x=x:=by
 unfold IntKind.wrap
 simp only[IntKind.signed,IntKind.bits]
 simp
 omega
end Go.TVF
end
section
namespace Go.TVF
open Go.IntKind(i64 u8)
open Go.RowKit (Below)
theorem WW {r:TV} {st':St} (h:Gx [.one .bool] r (fun (b:Bool) (_:St)=>b=true) (fun p=>p st')):r= .bool true:=by
 cases r<;>simp only[Gx,FL,Ah]at h<;>first | exact h.elim | skip
 subst h;rfl
theorem calls_law {P:Program} {f:FuncId} {args:List TV} (hcall:∀(vs:Array Value) (w:World),(callFunc f vs).run P w= .ok (.enter f vs) w) (h:Ae P f args [.one .bool] St.zero (fun r _=>r=true)) (w:World) (hG:∀w',Below w.heap.size w w'->GlobOK w') (vargs:List Value) (hr:AT (Ghost.start w) w args vargs):
  Calls P f vargs.toArray w fun e w'=>e= .returned (.bool true)/\Below w.heap.size w w':=
 Tv hcall (ET.mono h fun r st' hd=>WW hd) w hG vargs hr
theorem MQ (g:Ghost) (w:World) (s:ByteArray):Rel g w (.str s.data.toList) (.string s):=by
 have:=Rel.str (g:=g) (w:=w) s.data.toList
 simpa using this
def flatIs:List CTy->List TV->Prop
 | [],xs=>xs=[]
 | .int k::cs,xs=>∃n ys,xs= .int k n::ys/\(Lit.int k n).wf=true/\flatIs cs ys
 | .str::cs,xs=>∃l ys,xs= .str l::ys/\l.length<=maxLen/\flatIs cs ys
 | .bool::cs,xs=>∃b ys,xs= .bool b::ys/\flatIs cs ys
 | .tv::_,_=>False
def QA (P:Program):CTy->TypeId->Prop
 | .int k,t=>P.underlying t=some (.int k)
 | .bool,t=>P.underlying t=some .bool
 | .str,t=>P.underlying t=some .string
 | .tv,_=>False
def FieldsTy (P:Program):List CTy->List Field->Nat->Prop
 | [],[],_=>True
 | c::cs,f::fs,o=>f.offset=o/\P.cellsOf f.type=1/\QA P c f.type/\FieldsTy P cs fs (o+1)
 | _,_,_=>False
section
variable {H:Type} {enc:TypeId×Value->H} {P:Program} {w:World} {base:Nat} {sp:Nat->Bool} {held:Bool}
theorem K5 {c:CTy} {t:TypeId} {fuel:Nat} {cs:List Value} {x:DataW H×List MemPlace} (g:Ghost) (hc:QA P c t) (h:DataW.trod enc P w base sp held fuel t cs=some x):
  ∃v u,cs=[u]/\Rel g w v u/\flatIs [c] [v]:=by
 cases c with
 | int k=>
  obtain⟨n,rfl,_,hw⟩:=DataW.trod_int hc h
  exact⟨_,_,rfl,.int k n,n,[],rfl,hw,rfl⟩
 | bool=>
  obtain⟨b,rfl,_⟩:=DataW.trod_bool hc h
  exact⟨_,_,rfl,.bool b,b,[],rfl,rfl⟩
 | str=>
  obtain⟨s,rfl,_,hs⟩:=DataW.trod_string hc h
  exact⟨_,_,rfl,MQ g w s,_,[],rfl,by rw[Array.length_toList];exact hs,rfl⟩
 | tv=>exact hc.elim
theorem flatIs.cons {c:CTy} {cs:List CTy} {v:TV} {xs:List TV} (h:flatIs [c] [v]) (k:flatIs cs xs):flatIs (c::cs) (v::xs):=by
 cases c with
 | int _=>
  obtain⟨n,ys,h1,h2,_⟩:=h
  simp only[List.cons.injEq]at h1
  exact⟨n,xs,by rw[h1.1],h2,k⟩
 | bool=>
  obtain⟨b,ys,h1,_⟩:=h
  simp only[List.cons.injEq]at h1
  exact⟨b,xs,by rw[h1.1],k⟩
 | str=>
  obtain⟨l,ys,h1,h2,_⟩:=h
  simp only[List.cons.injEq]at h1
  exact⟨l,xs,by rw[h1.1],h2,k⟩
 | tv=>exact h.elim
theorem Ly {n:Nat} {vs:List Value} (g:Ghost):∀(cs:List CTy) (fs:List Field) (o:Nat) (xs:List (DataW H×List MemPlace)),FieldsTy P cs fs o->xs.length=fs.length->vs.length=o+cs.length->
  (∀(i:Nat) (f:Field),fs[i]? =some f->DataW.trod enc P w base sp held n f.type ((vs.drop f.offset).take (P.cellsOf f.type))=xs[i]?)->∃tv,AT g w tv (vs.drop o)/\flatIs cs tv
 | [],[],o,xs,_,_,hl,_=>⟨[],by rw[List.drop_of_length_le (by simp at hl;omega)];exact .nil _ _,rfl⟩
 | c::cs,f::fs,o,[],_,hx,_,_=>by simp at hx
 | c::cs,f::fs,o,x::xs,ht,hx,hl,hd=>by
  obtain⟨h1,h2,h3,h4⟩:=ht
  have hd0:=hd 0 f rfl
  rw[h1,h2]at hd0
  obtain⟨v,u,hu,hr,hf⟩:=K5 g h3 hd0
  obtain⟨tv,hr',hf'⟩:=Ly (n:=n) (vs:=vs) g cs fs (o+1) xs h4 (by simpa using hx) (by simp at hl;omega) (fun i f' hi=>by simpa using hd (i+1) f' (by simpa using hi))
  refine⟨v::tv,?_,hf.cons hf'⟩
  have hlt:o<vs.length:=by simp at hl;omega
  rw[List.drop_eq_getElem_cons hlt]
  rw[List.drop_eq_getElem_cons hlt]at hu
  simp only[List.take_succ_cons,List.take_zero,List.cons.injEq]at hu
  rw[hu.1]
  exact .cons hr hr'
 | [],f::fs,o,xs,ht,_,_,_=>ht.elim
 | c::cs,[],o,xs,ht,_,_,_=>ht.elim
theorem Hr (b off i:Nat):(⟨b,off,none⟩:Addr).add i=⟨b,off+i,none⟩:=by
 unfold Addr.add;split
 ·rename_i h;subst h;rfl
 ·rfl
def Opens (enc:TypeId×Value->H) (P:Program) (w:World) (base:Nat) (sp:Nat->Bool) (held:Bool) (cs:List CTy) (e:TypeId):Prop:=
 ∀(g:Ghost) n vs x,DataW.trod enc P w base sp held n e vs=some x->∃tv,AT g w tv vs/\flatIs cs tv
theorem opens_struct {cs:List CTy} {e:TypeId} {fs:Array Field} (ht:P.underlying e=some (.struct fs)) (hf:FieldsTy P cs fs.toList 0) (hc:P.cellsOf e=cs.length):Opens enc P w base sp held cs e:=fun g n vs x hd=>by
 obtain⟨xs,m,rfl,_,hl,hx,hi⟩:=DataW.trod_struct ht hd
 have:=Ly (enc:=enc) (P:=P) (w:=w) (base:=base) (sp:=sp) (held:=held) (n:=m) (vs:=vs) g cs fs.toList 0 xs hf (by simpa using hx) (by omega) (fun i f h=>hi i f (by simpa using h))
 simpa using this
end
end Go.TVF
end
namespace Go.TVF
open Go.IntKind(i64 u8)
open Go Go.Proofs
theorem mixed:Tryz.prog.follows .mixedOrders=true:=by kernel_rfl
noncomputable def PR:Program:=Tryz.prog
abbrev V13(X:Type):=Int->Bool->Bool->B8->Int->Int->Int->Int->Int->B8->TV->TV->TV->X
abbrev sV:RTy:=.agg [.int .i64,.bool,.bool,.str,.int .i64,.int .i64,.int .i64,.int .i64,.int .i64,.str,.tv,.tv,.tv]
abbrev cV(a:Int)(b c:Bool)(d:B8)(e f g h i:Int)(j:B8)(k l m:TV):List TV:=[.int .i64 a,.bool b,.bool c,.str d,.int .i64 e,.int .i64 f,.int .i64 g,.int .i64 h,.int .i64 i,.str j,k,l,m]
abbrev BId(p:Prop)[Decidable p](a b:Prop):Prop:=BIf (decide p) a b
def Bp:Nat:=9
def CH:Nat:=15
def A1:Nat:=16
def A5:Nat:=17
def BB:Nat:=19
def Cs:Nat:=20
def CW:Nat:=22
def AN:Nat:=24
def BA:Nat:=29
def Bt:Nat:=31
def BC:Nat:=36
def AE:Nat:=37
def Hg:Nat:=39
def Gq:Nat:=42
def Ik:Nat:=46
def FH:Nat:=53
def DQ:Nat:=55
def Gp:Nat:=56
def Gn:Nat:=57
def D4:Nat:=62
def D5:Nat:=63
def IZ:Nat:=68
def DP:Nat:=69
def DO:Nat:=70
def Bl:Nat:=74
def Bk:Nat:=75
def BR:Nat:=76
def AB:Nat:=77
def AV:Nat:=78
def BS:Nat:=82
def AO:Nat:=83
def CB:Nat:=93
def I0:Nat:=94
def Gl:Nat:=95
def Ck:Nat:=96
def Fc:Nat:=97
def Cw:Nat:=98
def Ek:Nat:=99
def Eg:Nat:=105
def EM:Nat:=106
def Eu:Nat:=109
def Ef:Nat:=118
def Ct:Nat:=119
def Dn:Nat:=120
def F5:Nat:=121
def Em:Nat:=122
def BX:Nat:=123
def BO:Nat:=128
def El:Nat:=133
def Bv:Nat:=134
def AY:Nat:=135
def AG:Nat:=136
def Be:Nat:=137
def AM:Nat:=138
def Ai:Nat:=139
def Ax:Nat:=140
def Az:Nat:=142
def CF:Nat:=146
def A8:Nat:=156
def CV:Nat:=157
def Eh:Nat:=158
def Dg:Nat:=159
def Cy:Nat:=160
def CG:Nat:=161
def EO:Nat:=162
def En:Nat:=173
def CC:Nat:=174
def Gk:Nat:=178
def Bw:Nat:=191
def Am:Nat:=192
def A0:Nat:=193
def AP:Nat:=194
def Hf:Nat:=195
def A3:Nat:=196
def EL:Nat:=203
def Ij:Nat:=210
def Gm:Nat:=211
def He:Nat:=212
def Ar:Nat:=213
def Av:Nat:=214
def AL:Nat:=215
def CE:Nat:=216
def Do:Nat:=235
def EK:Nat:=236
def EN:Nat:=241
def Bo:Nat:=242
def BV:Nat:=243
def AK:Nat:=244
def BF:Nat:=245
def CL:Nat:=246
def DR:Nat:=247
def Fe:Nat:=252
def Cv:Nat:=255
def B3:Nat:=265
def BG:Nat:=266
def EJ:Nat:=267
def D3:Nat:=272
def Et:Nat:=289
def AC:Nat:=290
def BY:Nat:=291
def CK:Nat:=292
def Ei:Nat:=293
def BH:Nat:=296
def Cu:Nat:=299
def Hy:Nat:=300
def Gr:Nat:=301
def MF:B8:=[97,44,98,10]
def PQ:B8:=[49,44]
def Sv:B8:=[120]
def str5:B8:=[97,44,34,98]
def str6:B8:=[99,34]
def str7:B8:=[97,34]
def str8:B8:=[98]
def TX:B8:=[116,114,117,101]
def str13:B8:=[102,97,108,115,101]
def VW:B8:=[48]
def TW:B8:=[45]
def str16:B8:=[46]
def str20:B8:=[43]
def TU:B8:=[58]
def str25:B8:=[84,116,32]
def str31:B8:=[90,122,43,45]
theorem DJ (parts:TV) (d_0:Int) (d_1:Int) (d_2:Bool) (d_3:Bool) (inx_0:Int) (inx_1:Int) (inx_2:Int) (inx_3:Int) (inx_4:Int) (inx_5:Int) (st:St) (K:Bool->St->Prop) (h:Ae PR CH [parts] [.one .bool] st (fun (b1:Bool) d=>BIf (!b1) (Ae PR A1 [] [.one .bool] d (fun (b2:Bool) t=>K b2 t)) (Ae PR CW [parts] [.one .str] d (fun (s1:B8) l=>Ae PR A5 [parts,(.agg [.int .u8 d_0,.int .u8 d_1,.bool d_2,.bool d_3]),(.agg [.int .i64 inx_0,.int .i64 inx_1,.int .i64 inx_2,.int .i64 inx_3,.int .i64 inx_4]),.int .i64 inx_5] [.one .tv,.one (.int .i64),.one (.int .i64)] l (fun (v1:TV) (n1 n2:Int) s=>Ae PR A5 [(.list 1 .full 1 [.str s1]),(.agg [.int .u8 d_0,.int .u8 d_1,.bool d_2,.bool d_3]),(.agg [.int .i64 inx_0,.int .i64 inx_1,.int .i64 inx_2,.int .i64 inx_3,.int .i64 inx_4]),.int .i64 inx_5] [.one .tv,.one (.int .i64),.one (.int .i64)] s (fun (v2:TV) (n3 n4:Int) q=>Ae PR BB [v1,v2] [.one .bool] q (fun (b3:Bool) b=>BIf (!b3) (K false b) (BId (n1≠n3) (K false b) (BId (n2≠n4) (K false b) (BId (inx_5<(s1.length:Int)) (Ae PR A1 [] [.one .bool] b (fun (b4:Bool) r=>K b4 r)) (BId (inx_5<1) (Ae PR A1 [] [.one .bool] b (fun (b5:Bool) m=>K b5 m)) (BId ((65536:Int)<inx_5) (Ae PR A1 [] [.one .bool] b (fun (b6:Bool) n=>K b6 n)) (Ae PR Hg [.str s1,(.agg [.int .u8 d_0,.int .u8 d_1,.bool d_2,.bool d_3]),(.agg [.int .i64 inx_0,.int .i64 inx_1,.int .i64 inx_2,.int .i64 inx_3,.int .i64 inx_4])] [sV,.one (.int .i64),.one (.int .i64)] b (fun (n5:Int) (b7 b8:Bool) (s2:B8) (n6 n7 n8 n9 f:Int) (s3:B8) (v3 v4 v5:TV) (p e:Int) a=>need (List.all (cV n5 b7 b8 s2 n6 n7 n8 n9 f s3 v3 v4 v5) Ap) (BId (e≠0) (need (isSl v1) (BId ((lenS v1:Int)=(0:Int)) (BId (n1=p) (BId (n2=e) (Ae PR A1 [] [.one .bool] a (fun (b9:Bool) i=>K b9 i)) (K false a)) (K false a)) (K false a))) (BId (n2=0) (BId (n1=0) (Ae PR Ik [(.agg (cV n5 b7 b8 s2 n6 n7 n8 n9 f s3 v3 v4 v5))] [.one .tv] a (fun (v6:TV) j=>Ae PR BB [v1,v6] [.one .bool] j (fun (o:Bool) c=>BIf o (Ae PR A1 [] [.one .bool] c (fun (k:Bool) g=>K k g)) (K false c)))) (K false a)) (K false a))))))))))))))))):Ae PR Bp [parts,(.agg [.int .u8 d_0,.int .u8 d_1,.bool d_2,.bool d_3]),(.agg [.int .i64 inx_0,.int .i64 inx_1,.int .i64 inx_2,.int .i64 inx_3,.int .i64 inx_4,.int .i64 inx_5])] [.one .bool] st K:=
 Ak (cfg:=⟨[4,5,14],[],[]⟩) (h:= .none) mixed (fun _ _=>Tryz.call9 _ _) Tryz.func9 (by kernel_rfl) (by kernel_rfl) h
theorem HM (parts:TV) (st:St) (K:Bool->St->Prop) (h:∃(I1:Int->Int->TV->St->Prop) (M1:Int->Int->TV->St->Nat),(I1 0 0 parts st)/\∀d c a b,I1 d c a b->(need (isSl a) (BId (c<(lenS a:Int)) (BId (c<61) (((0<=c/\c<(lenZ 1 a:Int))/\Af (Ab b [] (.t (ixT 1 a c.toNat)) 0) (fun (x1:TV)=>Ah .str x1 (fun (s1:B8)=>(I1 ((i64.wrap (d+(s1.length:Int)))) ((i64.wrap (c+(1:Int)))) a b/\M1 ((i64.wrap (d+(s1.length:Int)))) ((i64.wrap (c+(1:Int)))) a b<M1 d c a b))))) (need (isSl a) (BId ((lenS a:Int)<=(60:Int)) (K ((decide (d<=1500))) b) (K false b)))) (need (isSl a) (BId ((lenS a:Int)<=(60:Int)) (K ((decide (d<=1500))) b) (K false b)))))):Ae PR CH [parts] [.one .bool] st K:=
 Ak (cfg:=⟨[],[],[]⟩) (h:=(.seq .none (.seq .none (.seq (.seq .none (.block (.loop ⟨[(3,.int .i64),(4,.int .i64),(0,.tv)],[],[],[]⟩ .none))) .none)))) mixed (fun _ _=>Tryz.call15 _ _) Tryz.func15 (by kernel_rfl) (by kernel_rfl) h
theorem HL (st:St) (K:Bool->St->Prop) (h:Ae PR D4 [] [.agg [.int .u8,.int .u8,.bool,.bool]] st (fun (n1 n2:Int) (b1 b2:Bool) e=>Ae PR D5 [] [.agg [.int .i64,.int .i64,.int .i64,.int .i64,.int .i64]] e (fun (n3 n4 n5 n6 n7:Int) r=>Ae PR Cs [(.agg [.int .u8 n1,.int .u8 n2,.bool b1,.bool b2]),(.agg [.int .i64 n3,.int .i64 n4,.int .i64 n5,.int .i64 n6,.int .i64 n7]),.int .i64 10] [.one .tv,.one (.int .i64)] r (fun (v1:TV) (n8:Int) b=>BId (n8≠0) (K false b) (Ae PR AN [v1,.str MF] [.one .tv,.one (.int .i64)] b (fun (v2:TV) (n9:Int) q=>Ae PR BA [v1] [.one .tv] q (fun (v3:TV) j=>Ae PR AN [v1,.str PQ] [.one .tv,.one (.int .i64)] j (fun (v4:TV) (c:Int) n=>Ae PR AN [v1,.str Sv] [.one .tv,.one (.int .i64)] n (fun (v5:TV) (f:Int) p=>Ae PR Bt [v1] [.one .tv,.one (.int .i64)] p (fun (v6:TV) (m:Int) l=>Ae PR A5 [(.list 1 .full 2 [.str str5,.str str6]),(.agg [.int .u8 n1,.int .u8 n2,.bool b1,.bool b2]),(.agg [.int .i64 n3,.int .i64 n4,.int .i64 n5,.int .i64 n6,.int .i64 n7]),.int .i64 3] [.one .tv,.one (.int .i64),.one (.int .i64)] l (fun (v7:TV) (g k:Int) o=>Ae PR A5 [(.list 1 .full 1 [.str str7]),(.agg [.int .u8 n1,.int .u8 n2,.bool b1,.bool b2]),(.agg [.int .i64 n3,.int .i64 n4,.int .i64 n5,.int .i64 n6,.int .i64 n7]),.int .i64 3] [.one .tv,.one (.int .i64),.one (.int .i64)] o (fun (v8:TV) (i d:Int) a=>BId (n9≠0) (K false a) (BId (c≠0) (K false a) (BId (f≠0) (K false a) (BId (m≠0) (K false a) (need (isSl v2) (BId ((lenS v2:Int)≠(1:Int)) (K false a) (need (isSl v4) (BId ((lenS v4:Int)≠(3:Int)) (K false a) (need (isSl v5) (BId ((lenS v5:Int)≠(0:Int)) (K false a) (need (isSl v6) (BId ((lenS v6:Int)≠(4:Int)) (K false a) (need (isSl v3) (BId ((lenS v3:Int)≠(2:Int)) (K false a) (((0<=(1:Int)/\(1:Int)<(lenZ 1 v3:Int))/\Af (Ab a [] (.t (ixT 1 v3 (Int.toNat (1:Int)))) 0) (fun (x1:TV)=>Ah .str x1 (fun (s1:B8)=>BId (s1≠str8) (K false a) (BId (g=2) (BId (k=28) (BId (i=1) (K ((decide (d=3))) a) (K false a)) (K false a)) (K false a))))))))))))))))))))))))))))))):Ae PR A1 [] [.one .bool] st K:=
 Ak (cfg:=⟨[1,2],[],[]⟩) (h:= .none) mixed (fun _ _=>Tryz.call16 _ _) Tryz.func16 (by kernel_rfl) (by kernel_rfl) h
theorem HG (parts:TV) (d_0:Int) (d_1:Int) (d_2:Bool) (d_3:Bool) (l_0:Int) (l_1:Int) (l_2:Int) (l_3:Int) (l_4:Int) (size:Int) (st:St) (K:TV->Int->Int->St->Prop) (h:Ae PR Cs [(.agg [.int .u8 d_0,.int .u8 d_1,.bool d_2,.bool d_3]),(.agg [.int .i64 l_0,.int .i64 l_1,.int .i64 l_2,.int .i64 l_3,.int .i64 l_4]),.int .i64 size] [.one .tv,.one (.int .i64)] st (fun (v1:TV) (n1:Int) i=>BId (n1≠0) (K .nilSlice 0 n1 i) (need (isSl parts) (∃(I1:TV->Int->TV->TV->Int->St->Prop) (M1:TV->Int->TV->TV->Int->St->Nat),(I1 .nilSlice 0 v1 parts ((lenS parts:Int)) i)/\∀c b a d e f,I1 c b a d e f->(BId (b<e) (((0<=b/\b<(lenZ 1 d:Int))/\Af (Ab f [] (.t (ixT 1 d b.toNat)) 0) (fun (x1:TV)=>Ah .str x1 (fun (s1:B8)=>Ae PR AN [a,.str s1] [.one .tv,.one (.int .i64)] f (fun (v2:TV) (n2:Int) j=>Af (BI j 15 v2) (fun (q1:Nat×List TV)=>need (List.all q1.2 Ap) (AF 118 15 192 c q1.1 q1.2 j (fun (v3:TV) k=>(I1 v3 ((i64.wrap (b+(1:Int)))) a d e k/\M1 v3 ((i64.wrap (b+(1:Int)))) a d e k<M1 c b a d e f))))))))) (Ae PR Bt [a] [.one .tv,.one (.int .i64)] f (fun (v4:TV) (n3:Int) g=>BId (n3≠0) (need (isPtr a) (need (isPtr a) (Af (Ab g [] (.t (Ag a 27)) 0) (fun (x2:TV)=>Ah (.int .i64) x2 (fun (n4:Int)=>K .nilSlice n4 n3 g))))) (Af (BI g 15 v4) (fun (q2:Nat×List TV)=>need (List.all q2.2 Ap) (AF 118 15 192 c q2.1 q2.2 g (fun (v5:TV) l=>K v5 0 0 l))))))))))):Ae PR A5 [parts,(.agg [.int .u8 d_0,.int .u8 d_1,.bool d_2,.bool d_3]),(.agg [.int .i64 l_0,.int .i64 l_1,.int .i64 l_2,.int .i64 l_3,.int .i64 l_4]),.int .i64 size] [.one .tv,.one (.int .i64),.one (.int .i64)] st K:=
 Ak (cfg:=⟨[5,6],[],[]⟩) (h:=(.seq .none (.seq .none (.seq .none (.seq .none (.seq (.seq .none (.block (.loop ⟨[(13,.tv),(31,.int .i64),(11,.tv),(29,.tv),(30,.int .i64)],[],[],[]⟩ .none))) .none)))))) mixed (fun _ _=>Tryz.call17 _ _) Tryz.func17 (by kernel_rfl) (by kernel_rfl) h
theorem HY (a:TV) (b:TV) (st:St) (K:Bool->St->Prop) (h:need (isSl a) (need (isSl b) (BId ((lenS a:Int)≠(lenS b:Int)) (K false st) (∃(I1:Int->TV->TV->St->Prop) (M1:Int->TV->TV->St->Nat),(I1 0 a b st)/\∀c d f e,I1 c d f e->(need (isSl d) (BId (c<(lenS d:Int)) (((0<=c/\c<(lenZ 15 d:Int))/\need (isPtr (ixT 15 d c.toNat)) (Af (Ab e [] (.t (Ag (ixT 15 d c.toNat) 0)) 0) (fun (x1:TV)=>Ah (.int .i64) x1 (fun (n1:Int)=>((0<=c/\c<(lenZ 15 f:Int))/\need (isPtr (ixT 15 f c.toNat)) (Af (Ab e [] (.t (Ag (ixT 15 f c.toNat) 0)) 0) (fun (x2:TV)=>Ah (.int .i64) x2 (fun (n2:Int)=>BId (n1≠n2) ((Ab e [] (.t (Ag (ixT 15 f c.toNat) 0)) 0=some (.int .i64 n2)/\(Ab e [] (.t (Ag (ixT 15 d c.toNat) 0)) 0=some (.int .i64 n1)/\K false e))) (((0<=c/\c<(lenZ 15 d:Int))/\need (isPtr (ixT 15 d c.toNat)) (Af (Ab e [] (.t (Ag (ixT 15 d c.toNat) 1)) 0) (fun (x3:TV)=>Ah .str x3 (fun (s1:B8)=>((0<=c/\c<(lenZ 15 f:Int))/\need (isPtr (ixT 15 f c.toNat)) (Af (Ab e [] (.t (Ag (ixT 15 f c.toNat) 1)) 0) (fun (x4:TV)=>Ah .str x4 (fun (s2:B8)=>BId (s1≠s2) ((Ab e [] (.t (Ag (ixT 15 f c.toNat) 1)) 0=some (.str s2)/\(Ab e [] (.t (Ag (ixT 15 d c.toNat) 1)) 0=some (.str s1)/\(Ab e [] (.t (Ag (ixT 15 f c.toNat) 0)) 0=some (.int .i64 n2)/\(Ab e [] (.t (Ag (ixT 15 d c.toNat) 0)) 0=some (.int .i64 n1)/\K false e))))) (((0<=c/\c<(lenZ 15 d:Int))/\need (isPtr (ixT 15 d c.toNat)) (Af ((Aj e [] (.t (Ag (ixT 15 d c.toNat) 2)) 0 13).map TV.agg) (fun (x5:TV)=>AU [.int .i64,.bool,.bool,.str,.int .i64,.int .i64,.int .i64,.int .i64,.int .i64,.str,.tv,.tv,.tv] x5 (fun (n3:Int) (b1 b2:Bool) (s3:B8) (n4 n5 n6 n7 n8:Int) (s4:B8) (v1 v2 v3:TV)=>((0<=c/\c<(lenZ 15 f:Int))/\need (isPtr (ixT 15 f c.toNat)) (Af ((Aj e [] (.t (Ag (ixT 15 f c.toNat) 2)) 0 13).map TV.agg) (fun (x6:TV)=>AU [.int .i64,.bool,.bool,.str,.int .i64,.int .i64,.int .i64,.int .i64,.int .i64,.str,.tv,.tv,.tv] x6 (fun (n9:Int) (b3 b4:Bool) (s5:B8) (i j m k l:Int) (s6:B8) (v4 v5 v6:TV)=>Ae PR BC [(.agg (cV n3 b1 b2 s3 n4 n5 n6 n7 n8 s4 v1 v2 v3)),(.agg (cV n9 b3 b4 s5 i j m k l s6 v4 v5 v6))] [.one .bool] e (fun (b5:Bool) g=>(Ab g [] (.t (Ag (ixT 15 f c.toNat) 1)) 0=some (.str s2)/\(Ab g [] (.t (Ag (ixT 15 d c.toNat) 1)) 0=some (.str s1)/\(Ab g [] (.t (Ag (ixT 15 f c.toNat) 0)) 0=some (.int .i64 n2)/\(Ab g [] (.t (Ag (ixT 15 d c.toNat) 0)) 0=some (.int .i64 n1)/\BIf (!b5) (K false g) ((I1 ((i64.wrap (c+(1:Int)))) d f g/\M1 ((i64.wrap (c+(1:Int)))) d f g<M1 c d f e)))))))))))))))))))))))))))))))))) (K true e))))))):Ae PR BB [a,b] [.one .bool] st K:=
 Ak (cfg:=⟨[],[],[21,26,33,38,46,51]⟩) (h:=(.seq .none (.seq .none (.seq (.seq .none (.block (.loop ⟨[(5,.int .i64),(0,.tv),(1,.tv)],[],[],[]⟩ .none))) .none)))) mixed (fun _ _=>Tryz.call19 _ _) Tryz.func19 (by kernel_rfl) (by kernel_rfl) h
theorem Jj (d_0:Int) (d_1:Int) (d_2:Bool) (d_3:Bool) (l_0:Int) (l_1:Int) (l_2:Int) (l_3:Int) (l_4:Int) (size:Int) (st:St) (K:TV->Int->St->Prop) (h:Ae PR IZ [.int .i64 size] [.one .tv,.one (.int .i64)] st (fun (v1:TV) (n1:Int) b=>BId (n1≠0) (K .nilPtr 1 b) (Ae PR DP [(.agg [.int .u8 d_0,.int .u8 d_1,.bool d_2,.bool d_3])] [.one .bool] b (fun (b1:Bool) c=>BIf (!b1) (K .nilPtr 1 c) (Ae PR DO [(.agg [.int .i64 l_0,.int .i64 l_1,.int .i64 l_2,.int .i64 l_3,.int .i64 l_4])] [.one .bool] c (fun (b2:Bool) a=>BIf (!b2) (K .nilPtr 1 a) (need (List.all [v1,(.map a.nb)] Ap) (K ((.box (a.push (.map []) none).nb 0)) 0 ((a.push (.map []) none).push (.cells [v1,.int .u8 d_0,.int .u8 d_1,.bool d_2,.bool d_3,.int .i64 l_0,.int .i64 l_1,.int .i64 l_2,.int .i64 l_3,.int .i64 l_4,.int .i64 0,.bool false,.bool false,.int .i64 0,.int .i64 0,.int .i64 0,.nilSlice,(.map a.nb),.bool false,.int .i64 1,.int .i64 0,.int .i64 0,.int .i64 0,.int .i64 0,(.int .i64 (-1:Int)),(.str []),.nilSlice,.int .i64 0,.int .i64 0,.bool false]) (some 113)))))))))):Ae PR Cs [(.agg [.int .u8 d_0,.int .u8 d_1,.bool d_2,.bool d_3]),(.agg [.int .i64 l_0,.int .i64 l_1,.int .i64 l_2,.int .i64 l_3,.int .i64 l_4]),.int .i64 size] [.one .tv,.one (.int .i64)] st K:=
 Ak (cfg:=⟨[3,4],[],[]⟩) (h:= .none) mixed (fun _ _=>Tryz.call20 _ _) Tryz.func20 (by kernel_rfl) (by kernel_rfl) h
theorem H1 (parts:TV) (st:St) (K:B8->St->Prop) (h:∃(I1:B8->Int->TV->St->Prop) (M1:B8->Int->TV->St->Nat),(I1 [] 0 parts st)/\∀d b a c,I1 d b a c->(need (isSl a) (BId (b<(lenS a:Int)) (((0<=b/\b<(lenZ 1 a:Int))/\Af (Ab c [] (.t (ixT 1 a b.toNat)) 0) (fun (x1:TV)=>Ah .str x1 (fun (s1:B8)=>(d.length+s1.length<=9223372036854775807/\(I1 ((d++s1)) ((i64.wrap (b+(1:Int)))) a c/\M1 ((d++s1)) ((i64.wrap (b+(1:Int)))) a c<M1 d b a c)))))) (K d c)))):Ae PR CW [parts] [.one .str] st K:=
 Ak (cfg:=⟨[],[],[]⟩) (h:=(.seq .none (.seq .none (.seq (.seq .none (.block (.loop ⟨[(3,.str),(4,.int .i64),(0,.tv)],[],[],[]⟩ .none))) .none)))) mixed (fun _ _=>Tryz.call22 _ _) Tryz.func22 (by kernel_rfl) (by kernel_rfl) h
theorem Fy (r:Nat) (s:B8) (st:St) (K:TV->Int->St->Prop) (h:Af (Ab st [] (.t (.box r 0)) 0) (fun (v1:TV)=>need (Ng v1) (BIf (Hb v1) (K .nilSlice 29 st) (Af (Ab st [] (.t (.box r 29)) 0) (fun (x2:TV)=>Ah .bool x2 (fun (b1:Bool)=>BIf b1 (K .nilSlice 29 st) (Ae PR Bl [(.box r 0)] [] st (fun (f:St)=>Ae PR Bk [(.box r 0),.str s,.bool false] [] f (fun (i:St)=>∃(I1:Int->TV->B8->St->Prop) (M1:Int->TV->B8->St->Nat),(I1 0 ((.box r 0)) s i)/\∀d a b c,I1 d a b c->(BId (d<(b.length:Int)) (need (isPtr a) (need (isPtr a) (Af (Ab c [] (.t (Ag a 28)) 0) (fun (x3:TV)=>Ah (.int .i64) x3 (fun (n1:Int)=>BId (n1=0) (((0<=d/\d<(b.length:Int))/\need (isPtr a) (need (isPtr a) (Af (Ab c [] (.t (Ag a 23)) 0) (fun (x4:TV)=>Ah (.int .i64) x4 (fun (n2:Int)=>Ae PR BR [a,(.int .u8 ((List.getD b d.toNat 0).toNat:Int)),(.int .i64 (i64.wrap (n2+d)))] [] c (fun (e:St)=>(Ab e [] (.t (Ag a 23)) 0=some (.int .i64 n2)/\(I1 ((i64.wrap (d+(1:Int)))) a b e/\M1 ((i64.wrap (d+(1:Int)))) a b e<M1 d a b c))))))))) (need (isPtr a) (need (isPtr a) (Af (Ab c [] (.t (Ag a 23)) 0) (fun (x5:TV)=>Ah (.int .i64) x5 (fun (n3:Int)=>need (isPtr a) (need (isPtr a) (stB c (Ag a 23) [(.int .i64 (i64.wrap (n3+(b.length:Int))))] (fun g=>Ae PR AB [a] [.one .tv] g (fun (v2:TV) k=>K v2 0 k)))))))))))))) (need (isPtr a) (need (isPtr a) (Af (Ab c [] (.t (Ag a 23)) 0) (fun (x6:TV)=>Ah (.int .i64) x6 (fun (n4:Int)=>need (isPtr a) (need (isPtr a) (stB c (Ag a 23) [(.int .i64 (i64.wrap (n4+(b.length:Int))))] (fun l=>Ae PR AB [a] [.one .tv] l (fun (v3:TV) j=>K v3 0 j))))))))))))))))))):Ae PR AN [(.box r 0),.str s] [.one .tv,.one (.int .i64)] st K:=
 Ak (cfg:=⟨[],[],[47]⟩) (h:=(.seq .none (.seq .none (.seq .none (.seq .none (.seq (.seq .none (.block (.loop ⟨[(6,.int .i64),(0,.tv),(1,.str)],[],[],[]⟩ .none))) .none)))))) mixed (fun _ _=>Tryz.call24 _ _) Tryz.func24 (by kernel_rfl) (by kernel_rfl) h
theorem Er (r:Nat) (st:St) (K:TV->St->Prop) (h:Af (Ab st [] (.t (.box r 18)) 0) (fun (x1:TV)=>Ah .bool x1 (fun (b1:Bool)=>BIf (!b1) (K .nilSlice st) (Af (Ab st [] (.t (.box r 3)) 0) (fun (x2:TV)=>Ah .bool x2 (fun (b2:Bool)=>BIf (!b2) (K .nilSlice st) (Af (Ab st [] (.t (.box r 16)) 0) (fun (v1:TV)=>Af (BI st 1 v1) (fun (q1:Nat×List TV)=>need (List.all q1.2 Ap) (AF 9 1 16 (.list 1 .full 0 []) q1.1 q1.2 st (fun (v2:TV) a=>K v2 a))))))))))):Ae PR BA [(.box r 0)] [.one .tv] st K:=
 Ak (cfg:=⟨[],[],[]⟩) (h:= .none) mixed (fun _ _=>Tryz.call29 _ _) Tryz.func29 (by kernel_rfl) (by kernel_rfl) h
theorem FV (r:Nat) (st:St) (K:TV->Int->St->Prop) (h:Af (Ab st [] (.t (.box r 0)) 0) (fun (v1:TV)=>need (Ng v1) (BIf (Hb v1) (K .nilSlice 29 st) (Af (Ab st [] (.t (.box r 29)) 0) (fun (x2:TV)=>Ah .bool x2 (fun (b1:Bool)=>BIf b1 (K .nilSlice 29 st) (Ae PR Bl [(.box r 0)] [] st (fun (a3:St)=>Ae PR Bk [(.box r 0),(.str []),.bool true] [] a3 (fun (l:St)=>∃(C1:TV->St->Prop),(Af (Ab l [] (.t (.box r 28)) 0) (fun (x3:TV)=>Ah (.int .i64) x3 (fun (n1:Int)=>BId (n1=0) (Ae PR BS [(.box r 0)] [] l (fun (a8:St)=>C1 ((.box r 0)) a8)) (C1 ((.box r 0)) l))))/\∀a b,C1 a b->(need (isPtr a) (need (isPtr a) (Af (Ab b [] (.t (Ag a 23)) 0) (fun (x4:TV)=>Ah (.int .i64) x4 (fun (n2:Int)=>need (isPtr a) (need (isPtr a) (need (isPtr (Ag a 5)) (Af (Ab b [] (.t (Ag (Ag a 5) 2)) 0) (fun (x5:TV)=>Ah (.int .i64) x5 (fun (n3:Int)=>BId (n3<n2) (need (isPtr a) (need (isPtr a) (stB b (Ag a 27) [.int .i64 0] (fun b4=>need (isPtr a) (need (isPtr a) (stB b4 (Ag a 28) [.int .i64 10] (fun b3=>Ae PR AB [a] [.one .tv] b3 (fun (v2:TV) k=>need (isPtr a) (need (isPtr a) (Af (Ab k [] (.t (Ag a 0)) 0) (fun (v3:TV)=>need (isPtr a) (need (isPtr a) (Af (Ab k [] (.t (Ag a 0)) 0) (fun (v4:TV)=>Ae PR AV [v4] [.one (.int .i64)] k (fun (n4:Int) o=>(Ab o [] (.t (Ag a 0)) 0=some v3/\Ae PR AO [v3,.int .i64 n4] [.one .str,.one (.int .i64)] o (fun (s1:B8) (n5:Int) p=>(Ab p [] (.t (Ag a 0)) 0=some v4/\need (isPtr a) (need (isPtr a) (stB p (Ag a 29) [.bool true] (fun x=>need (isPtr a) (need (isPtr a) (stB x (Ag a 18) [.bool true] (fun d=>need (isPtr a) (need (isPtr a) (Af (Ab d [] (.t (Ag a 28)) 0) (fun (x8:TV)=>Ah (.int .i64) x8 (fun (n6:Int)=>BId (n6≠0) (need (isPtr a) (need (isPtr a) (Af (Ab d [] (.t (Ag a 28)) 0) (fun (x9:TV)=>Ah (.int .i64) x9 (fun (n7:Int)=>K .nilSlice n7 d))))) (AF 118 15 192 v2 1 [.int .i64 3,(.str []),.int .i64 0,.bool false,.bool false,(.str []),.int .i64 0,.int .i64 0,.int .i64 0,.int .i64 0,.int .i64 0,(.str []),.nilSlice,.nilSlice,.nilSlice] d (fun (v5:TV) a0=>K v5 0 a0)))))))))))))))))))))))))))))) (need (isPtr a) (need (isPtr a) (Af (Ab b [] (.t (Ag a 24)) 0) (fun (a7:TV)=>Ah (.int .i64) a7 (fun (n8:Int)=>BId ((0:Int)<=n8) (need (isPtr a) (need (isPtr a) (Af (Ab b [] (.t (Ag a 24)) 0) (fun (b9:TV)=>Ah (.int .i64) b9 (fun (n9:Int)=>need (isPtr a) (need (isPtr a) (stB b (Ag a 27) [.int .i64 n9] (fun w=>need (isPtr a) (need (isPtr a) (stB w (Ag a 28) [.int .i64 5] (fun v=>Ae PR AB [a] [.one .tv] v (fun (v6:TV) f=>need (isPtr a) (need (isPtr a) (Af (Ab f [] (.t (Ag a 0)) 0) (fun (v7:TV)=>need (isPtr a) (need (isPtr a) (Af (Ab f [] (.t (Ag a 0)) 0) (fun (v8:TV)=>Ae PR AV [v8] [.one (.int .i64)] f (fun (b8:Int) j=>(Ab j [] (.t (Ag a 0)) 0=some v7/\Ae PR AO [v7,.int .i64 b8] [.one .str,.one (.int .i64)] j (fun (s2:B8) (c2:Int) i=>(Ab i [] (.t (Ag a 0)) 0=some v8/\need (isPtr a) (need (isPtr a) (stB i (Ag a 29) [.bool true] (fun u=>need (isPtr a) (need (isPtr a) (stB u (Ag a 18) [.bool true] (fun e=>need (isPtr a) (need (isPtr a) (Af (Ab e [] (.t (Ag a 28)) 0) (fun (b5:TV)=>Ah (.int .i64) b5 (fun (b0:Int)=>BId (b0≠0) (need (isPtr a) (need (isPtr a) (Af (Ab e [] (.t (Ag a 28)) 0) (fun (b7:TV)=>Ah (.int .i64) b7 (fun (a4:Int)=>K .nilSlice a4 e))))) (AF 118 15 192 v6 1 [.int .i64 3,(.str []),.int .i64 0,.bool false,.bool false,(.str []),.int .i64 0,.int .i64 0,.int .i64 0,.int .i64 0,.int .i64 0,(.str []),.nilSlice,.nilSlice,.nilSlice] e (fun (v9:TV) y=>K v9 0 y)))))))))))))))))))))))))))))))))) (Ae PR AB [a] [.one .tv] b (fun (a2:TV) g=>need (isPtr a) (need (isPtr a) (Af (Ab g [] (.t (Ag a 0)) 0) (fun (s:TV)=>need (isPtr a) (need (isPtr a) (Af (Ab g [] (.t (Ag a 0)) 0) (fun (q:TV)=>Ae PR AV [q] [.one (.int .i64)] g (fun (b6:Int) n=>(Ab n [] (.t (Ag a 0)) 0=some s/\Ae PR AO [s,.int .i64 b6] [.one .str,.one (.int .i64)] n (fun (s3:B8) (c1:Int) m=>(Ab m [] (.t (Ag a 0)) 0=some q/\need (isPtr a) (need (isPtr a) (stB m (Ag a 29) [.bool true] (fun z=>need (isPtr a) (need (isPtr a) (stB z (Ag a 18) [.bool true] (fun c=>need (isPtr a) (need (isPtr a) (Af (Ab c [] (.t (Ag a 28)) 0) (fun (c0:TV)=>Ah (.int .i64) c0 (fun (a5:Int)=>BId (a5≠0) (need (isPtr a) (need (isPtr a) (Af (Ab c [] (.t (Ag a 28)) 0) (fun (b2:TV)=>Ah (.int .i64) b2 (fun (a6:Int)=>K .nilSlice a6 c))))) (AF 118 15 192 a2 1 [.int .i64 3,(.str []),.int .i64 0,.bool false,.bool false,(.str []),.int .i64 0,.int .i64 0,.int .i64 0,.int .i64 0,.int .i64 0,(.str []),.nilSlice,.nilSlice,.nilSlice] c (fun (a9:TV) a1=>K a9 0 a1)))))))))))))))))))))))))))))))))))))))))))))))):Ae PR Bt [(.box r 0)] [.one .tv,.one (.int .i64)] st K:=
 Ak (cfg:=⟨[],[],[69,73]⟩) (h:=(.seq .none (.seq .none (.seq .none (.seq .none (.cut ⟨[(0,.tv)],[],[],[]⟩ .none .none)))))) mixed (fun _ _=>Tryz.call31 _ _) Tryz.func31 (by kernel_rfl) (by kernel_rfl) h
theorem HZ (a_0:Int) (a_1:Bool) (a_2:Bool) (a_3:B8) (a_4:Int) (a_5:Int) (a_6:Int) (a_7:Int) (a_8:Int) (a_9:B8) (a_10:TV) (a_11:TV) (a_12:TV) (b_0:Int) (b_1:Bool) (b_2:Bool) (b_3:B8) (b_4:Int) (b_5:Int) (b_6:Int) (b_7:Int) (b_8:Int) (b_9:B8) (b_10:TV) (b_11:TV) (b_12:TV) (st:St) (K:Bool->St->Prop) (h:BId (a_0≠b_0) (K false st) (BIf (!(a_1==b_1)) (K false st) (BIf (!((a_2==b_2)&&(decide (a_3=b_3)&&(decide (a_4=b_4)&&true)))) (K false st) (BIf (!(decide (a_5=b_5)&&(decide (a_6=b_6)&&(decide (a_7=b_7)&&(decide (a_8=b_8)&&true))))) (K false st) (BId (a_9≠b_9) (K false st) (Af ((toBytes st a_10).map TV.str) (fun (x1:TV)=>Ah .str x1 (fun (s1:B8)=>Af ((toBytes st b_10).map TV.str) (fun (x2:TV)=>Ah .str x2 (fun (s2:B8)=>BId (s1≠s2) (K false st) (need (isSl a_11) (need (isSl b_11) (BId ((lenS a_11:Int)≠(lenS b_11:Int)) (K false st) (need (isSl a_12) (need (isSl b_12) (BId ((lenS a_12:Int)≠(lenS b_12:Int)) (K false st) (∃(I1:Int->V13 (V13 (St->Prop))) (M1:Int->V13 (V13 (St->Nat))),(I1 0 a_0 a_1 a_2 a_3 a_4 a_5 a_6 a_7 a_8 a_9 a_10 a_11 a_12 b_0 b_1 b_2 b_3 b_4 b_5 b_6 b_7 b_8 b_9 b_10 b_11 b_12 st)/\∀d n1 b1 b2 s3 n2 n3 n4 n5 n6 s4 v1 v2 v3 n7 b3 b4 s5 n8 n9 k j i s6 v4 v5 v6 f,I1 d n1 b1 b2 s3 n2 n3 n4 n5 n6 s4 v1 v2 v3 n7 b3 b4 s5 n8 n9 k j i s6 v4 v5 v6 f->(need (isSl v2) (BId (d<(lenS v2:Int)) (((0<=d/\d<(lenZ 13 v2:Int))/\Af ((Aj f [] (.t (ixT 13 v2 d.toNat)) 0 13).map TV.agg) (fun (x3:TV)=>AU [.int .i64,.bool,.bool,.str,.int .i64,.int .i64,.int .i64,.int .i64,.int .i64,.str,.tv,.tv,.tv] x3 (fun (c3:Int) (b5 b6:Bool) (s7:B8) (e0 c7 c2 e8 f3:Int) (s8:B8) (v7 v8 v9:TV)=>((0<=d/\d<(lenZ 13 v5:Int))/\Af ((Aj f [] (.t (ixT 13 v5 d.toNat)) 0 13).map TV.agg) (fun (x4:TV)=>AU [.int .i64,.bool,.bool,.str,.int .i64,.int .i64,.int .i64,.int .i64,.int .i64,.str,.tv,.tv,.tv] x4 (fun (c4:Int) (b7 b8:Bool) (s9:B8) (g0 d8 d2 f5 f7:Int) (c6:B8) (e7 e5 c8:TV)=>Ae PR BC [(.agg (cV c3 b5 b6 s7 e0 c7 c2 e8 f3 s8 v7 v8 v9)),(.agg (cV c4 b7 b8 s9 g0 d8 d2 f5 f7 c6 e7 e5 c8))] [.one .bool] f (fun (b9:Bool) c1=>BIf (!b9) (K false c1) ((I1 ((i64.wrap (d+(1:Int)))) n1 b1 b2 s3 n2 n3 n4 n5 n6 s4 v1 v2 v3 n7 b3 b4 s5 n8 n9 k j i s6 v4 v5 v6 c1/\M1 ((i64.wrap (d+(1:Int)))) n1 b1 b2 s3 n2 n3 n4 n5 n6 s4 v1 v2 v3 n7 b3 b4 s5 n8 n9 k j i s6 v4 v5 v6 c1<M1 d n1 b1 b2 s3 n2 n3 n4 n5 n6 s4 v1 v2 v3 n7 b3 b4 s5 n8 n9 k j i s6 v4 v5 v6 f)))))))))) (∃(I2:Int->V13 (V13 (St->Prop))) (M2:Int->V13 (V13 (St->Nat))),(I2 0 n1 b1 b2 s3 n2 n3 n4 n5 n6 s4 v1 v2 v3 n7 b3 b4 s5 n8 n9 k j i s6 v4 v5 v6 f)/\∀a q z l a6 p a2 n a5 a7 a9 s v b y r x u a3 m a4 a1 o a8 a0 w c e,I2 a q z l a6 p a2 n a5 a7 a9 s v b y r x u a3 m a4 a1 o a8 a0 w c e->(need (isSl b) (BId (a<(lenS b:Int)) (((0<=a/\a<(lenZ 14 b:Int))/\need (isPtr (ixT 14 b a.toNat)) (Af (Ab e [] (.t (Ag (ixT 14 b a.toNat) 0)) 0) (fun (x5:TV)=>Ah .str x5 (fun (c0:B8)=>((0<=a/\a<(lenZ 14 c:Int))/\need (isPtr (ixT 14 c a.toNat)) (Af (Ab e [] (.t (Ag (ixT 14 c a.toNat) 0)) 0) (fun (x6:TV)=>Ah .str x6 (fun (b0:B8)=>BId (c0≠b0) ((Ab e [] (.t (Ag (ixT 14 c a.toNat) 0)) 0=some (.str b0)/\(Ab e [] (.t (Ag (ixT 14 b a.toNat) 0)) 0=some (.str c0)/\K false e))) (((0<=a/\a<(lenZ 14 b:Int))/\need (isPtr (ixT 14 b a.toNat)) (Af ((Aj e [] (.t (Ag (ixT 14 b a.toNat) 1)) 0 13).map TV.agg) (fun (x7:TV)=>AU [.int .i64,.bool,.bool,.str,.int .i64,.int .i64,.int .i64,.int .i64,.int .i64,.str,.tv,.tv,.tv] x7 (fun (f2:Int) (e9 f4:Bool) (f8:B8) (d7 g4 f9 d9 g1:Int) (c5:B8) (g3 c9 g2:TV)=>((0<=a/\a<(lenZ 14 c:Int))/\need (isPtr (ixT 14 c a.toNat)) (Af ((Aj e [] (.t (Ag (ixT 14 c a.toNat) 1)) 0 13).map TV.agg) (fun (x8:TV)=>AU [.int .i64,.bool,.bool,.str,.int .i64,.int .i64,.int .i64,.int .i64,.int .i64,.str,.tv,.tv,.tv] x8 (fun (d4:Int) (f0 d3:Bool) (d1:B8) (d5 d6 e6 d0 e2:Int) (f6:B8) (e3 e4 f1:TV)=>Ae PR BC [(.agg (cV f2 e9 f4 f8 d7 g4 f9 d9 g1 c5 g3 c9 g2)),(.agg (cV d4 f0 d3 d1 d5 d6 e6 d0 e2 f6 e3 e4 f1))] [.one .bool] e (fun (e1:Bool) g=>(Ab g [] (.t (Ag (ixT 14 c a.toNat) 0)) 0=some (.str b0)/\(Ab g [] (.t (Ag (ixT 14 b a.toNat) 0)) 0=some (.str c0)/\BIf (!e1) (K false g) ((I2 ((i64.wrap (a+(1:Int)))) q z l a6 p a2 n a5 a7 a9 s v b y r x u a3 m a4 a1 o a8 a0 w c g/\M2 ((i64.wrap (a+(1:Int)))) q z l a6 p a2 n a5 a7 a9 s v b y r x u a3 m a4 a1 o a8 a0 w c g<M2 a q z l a6 p a2 n a5 a7 a9 s v b y r x u a3 m a4 a1 o a8 a0 w c e))))))))))))))))))))))) (K true e))))))))))))))))))))))):Ae PR BC [(.agg (cV a_0 a_1 a_2 a_3 a_4 a_5 a_6 a_7 a_8 a_9 a_10 a_11 a_12)),(.agg (cV b_0 b_1 b_2 b_3 b_4 b_5 b_6 b_7 b_8 b_9 b_10 b_11 b_12))] [.one .bool] st K:=
 Ak (cfg:=⟨[2,3],[],[78,83,98,104,112,118]⟩) (h:=(.seq .none (.seq .none (.seq (.seq .none (.block (.loop ⟨[(5,.int .i64)],[(2,0,0),(3,1,0)],[(0,13),(1,13)],[(0,0,.int .i64),(0,1,.bool),(0,2,.bool),(0,3,.str),(0,4,.int .i64),(0,5,.int .i64),(0,6,.int .i64),(0,7,.int .i64),(0,8,.int .i64),(0,9,.str),(0,10,.tv),(0,11,.tv),(0,12,.tv),(1,0,.int .i64),(1,1,.bool),(1,2,.bool),(1,3,.str),(1,4,.int .i64),(1,5,.int .i64),(1,6,.int .i64),(1,7,.int .i64),(1,8,.int .i64),(1,9,.str),(1,10,.tv),(1,11,.tv),(1,12,.tv)]⟩ .none))) (.seq (.seq .none (.block (.loop ⟨[(6,.int .i64)],[(2,0,0),(3,1,0)],[(0,13),(1,13)],[(0,0,.int .i64),(0,1,.bool),(0,2,.bool),(0,3,.str),(0,4,.int .i64),(0,5,.int .i64),(0,6,.int .i64),(0,7,.int .i64),(0,8,.int .i64),(0,9,.str),(0,10,.tv),(0,11,.tv),(0,12,.tv),(1,0,.int .i64),(1,1,.bool),(1,2,.bool),(1,3,.str),(1,4,.int .i64),(1,5,.int .i64),(1,6,.int .i64),(1,7,.int .i64),(1,8,.int .i64),(1,9,.str),(1,10,.tv),(1,11,.tv),(1,12,.tv)]⟩ .none))) .none))))) mixed (fun _ _=>Tryz.call36 _ _) Tryz.func36 (by kernel_rfl) (by kernel_rfl) h
theorem PI (s:B8) (quoted:Bool) (d_0:Int) (d_1:Int) (d_2:Bool) (d_3:Bool) (st:St) (K:V13 (St->Prop)) (h:BIf (!d_3) (Ae PR CB [.str s] [sV] st (fun (n1:Int) (b1 b2:Bool) (s1:B8) (n2 n3 n4 n5 n6:Int) (s2:B8) (v1 v2 v3:TV) m2=>need (List.all (cV n1 b1 b2 s1 n2 n3 n4 n5 n6 s2 v1 v2 v3) Ap) (K n1 b1 b2 s1 n2 n3 n4 n5 n6 s2 v1 v2 v3 m2))) (BIf quoted (Ae PR CB [.str s] [sV] st (fun (n7:Int) (b3 b4:Bool) (s3:B8) (n8 n9 g6 g2 f6:Int) (s4:B8) (v4 v5 v6:TV) l6=>need (List.all (cV n7 b3 b4 s3 n8 n9 g6 g2 f6 s4 v4 v5 v6) Ap) (K n7 b3 b4 s3 n8 n9 g6 g2 f6 s4 v4 v5 v6 l6))) (BId (s=([]:B8)) (Ae PR I0 [] [sV] st (fun (e:Int) (b5 b6:Bool) (s5:B8) (d1 n c e7 g7:Int) (s6:B8) (v7 v8 v9:TV) l3=>need (List.all (cV e b5 b6 s5 d1 n c e7 g7 s6 v7 v8 v9) Ap) (K e b5 b6 s5 d1 n c e7 g7 s6 v7 v8 v9 l3))) (BId (s=TX) (BId (s=TX) (Ae PR Gl [(.bool (decide (s=TX)))] [sV] st (fun (i:Int) (b7 b8:Bool) (s7:B8) (i1 c4 a0 g9 h7:Int) (s8:B8) (e6 e3 p:TV) k6=>need (List.all (cV i b7 b8 s7 i1 c4 a0 g9 h7 s8 e6 e3 p) Ap) (K i b7 b8 s7 i1 c4 a0 g9 h7 s8 e6 e3 p k6))) (Ae PR Ck [.str s] [.agg [.bool,.str,.int .i64],.one (.int .i64)] st (fun (b9:Bool) (s9:B8) (l2 l1:Int) c9=>BId (l1=0) (Ae PR Fc [(.agg [.bool b9,.str s9,.int .i64 l2])] [sV] c9 (fun (h1:Int) (g0 f:Bool) (l:B8) (o i2 i8 d6 h8:Int) (i3:B8) (c1 c7 a1:TV) k5=>need (List.all (cV h1 g0 f l o i2 i8 d6 h8 i3 c1 c7 a1) Ap) (K h1 g0 f l o i2 i8 d6 h8 i3 c1 c7 a1 k5))) (Ae PR Cw [.str s] [.agg [.int .i64,.int .i64,.int .i64,.int .i64],.one (.int .i64)] c9 (fun (k4 m3 m1 k8 m0:Int) t=>BId (m0=0) (Ae PR Ek [(.agg [.int .i64 k4,.int .i64 m3,.int .i64 m1,.int .i64 k8])] [sV] t (fun (c3:Int) (z d0:Bool) (j5:B8) (j7 i0 c5 i4 a8:Int) (c2:B8) (g4 c8 f9:TV) l5=>need (List.all (cV c3 z d0 j5 j7 i0 c5 i4 a8 c2 g4 c8 f9) Ap) (K c3 z d0 j5 j7 i0 c5 i4 a8 c2 g4 c8 f9 l5))) (Ae PR CB [.str s] [sV] t (fun (b0:Int) (f5 g8:Bool) (j0:B8) (c0 e4 v d5 d4:Int) (d2:B8) (i9 q i5:TV) l8=>need (List.all (cV b0 f5 g8 j0 c0 e4 v d5 d4 d2 i9 q i5) Ap) (K b0 f5 g8 j0 c0 e4 v d5 d4 d2 i9 q i5 l8)))))))) (BId (s=str13) (Ae PR Gl [(.bool (decide (s=TX)))] [sV] st (fun (e5:Int) (f8 a4:Bool) (k:B8) (j2 j4 a3 f4 f0:Int) (h9:B8) (d7 e2 g1:TV) j8=>need (List.all (cV e5 f8 a4 k j2 j4 a3 f4 f0 h9 d7 e2 g1) Ap) (K e5 f8 a4 k j2 j4 a3 f4 f0 h9 d7 e2 g1 j8))) (Ae PR Ck [.str s] [.agg [.bool,.str,.int .i64],.one (.int .i64)] st (fun (l7:Bool) (k3:B8) (l0 k9:Int) b=>BId (k9=0) (Ae PR Fc [(.agg [.bool l7,.str k3,.int .i64 l0])] [sV] b (fun (h5:Int) (g5 a7:Bool) (y:B8) (a5 a6 d d3 m:Int) (h3:B8) (a9 i6 d9:TV) j9=>need (List.all (cV h5 g5 a7 y a5 a6 d d3 m h3 a9 i6 d9) Ap) (K h5 g5 a7 y a5 a6 d d3 m h3 a9 i6 d9 j9))) (Ae PR Cw [.str s] [.agg [.int .i64,.int .i64,.int .i64,.int .i64],.one (.int .i64)] b (fun (k2 m4 k7 l4 l9:Int) a=>BId (l9=0) (Ae PR Ek [(.agg [.int .i64 k2,.int .i64 m4,.int .i64 k7,.int .i64 l4])] [sV] a (fun (x:Int) (e8 h4:Bool) (h2:B8) (j1 c6 u j r:Int) (i7:B8) (f3 h0 w:TV) k0=>need (List.all (cV x e8 h4 h2 j1 c6 u j r i7 f3 h0 w) Ap) (K x e8 h4 h2 j1 c6 u j r i7 f3 h0 w k0))) (Ae PR CB [.str s] [sV] a (fun (j3:Int) (f1 f7:Bool) (e0:B8) (g d8 h6 f2 g3:Int) (e9:B8) (e1 a2 j6:TV) k1=>need (List.all (cV j3 f1 f7 e0 g d8 h6 f2 g3 e9 e1 a2 j6) Ap) (K j3 f1 f7 e0 g d8 h6 f2 g3 e9 e1 a2 j6 k1)))))))))))):Ae PR AE [.str s,.bool quoted,(.agg [.int .u8 d_0,.int .u8 d_1,.bool d_2,.bool d_3])] [sV] st K:=
 Ak (cfg:=⟨[5,6,7,9],[],[]⟩) (h:= .none) mixed (fun _ _=>Tryz.call37 _ _) Tryz.func37 (by kernel_rfl) (by kernel_rfl) h
theorem PH (src:B8) (d_0:Int) (d_1:Int) (d_2:Bool) (d_3:Bool) (l_0:Int) (l_1:Int) (l_2:Int) (l_3:Int) (l_4:Int) (st:St) (K:V13 (Int->Int->St->Prop)) (h:Ae PR DQ [.str src,(.agg [.int .u8 d_0,.int .u8 d_1,.bool d_2,.bool d_3]),(.agg [.int .i64 l_0,.int .i64 l_1,.int .i64 l_2,.int .i64 l_3,.int .i64 l_4])] [.agg [.int .i64,.str,.str,.tv,.str],.one (.int .i64),.one (.int .i64)] st (fun (n1:Int) (s1 s2:B8) (v1:TV) (s3:B8) (n2 n3:Int) a=>need (List.all [.int .i64 n1,.str s1,.str s2,v1,.str s3] Ap) (BId (n3≠0) (K 0 false false [] 0 0 0 0 0 [] .nilSlice .nilSlice .nilSlice n2 n3 a) (Ae PR Gq [(.agg [.int .i64 n1,.str s1,.str s2,v1,.str s3]),(.agg [.int .u8 d_0,.int .u8 d_1,.bool d_2,.bool d_3])] [sV,.one (.int .i64)] a (fun (n4:Int) (b1 b2:Bool) (s4:B8) (n5 n6 n7 n8 n9:Int) (s5:B8) (v2 v3 v4:TV) (b:Int) c=>need (List.all (cV n4 b1 b2 s4 n5 n6 n7 n8 n9 s5 v2 v3 v4) Ap) (need (List.all (cV n4 b1 b2 s4 n5 n6 n7 n8 n9 s5 v2 v3 v4) Ap) (K n4 b1 b2 s4 n5 n6 n7 n8 n9 s5 v2 v3 v4 0 b c))))))):Ae PR Hg [.str src,(.agg [.int .u8 d_0,.int .u8 d_1,.bool d_2,.bool d_3]),(.agg [.int .i64 l_0,.int .i64 l_1,.int .i64 l_2,.int .i64 l_3,.int .i64 l_4])] [sV,.one (.int .i64),.one (.int .i64)] st K:=
 Ak (cfg:=⟨[4,5,6,9,12],[],[]⟩) (h:= .none) mixed (fun _ _=>Tryz.call39 _ _) Tryz.func39 (by kernel_rfl) (by kernel_rfl) h
theorem Of (n_0:Int) (g:B8) (k:B8) (i:TV) (q:B8) (d_0:Int) (d_1:Int) (d_2:Bool) (d_3:Bool) (st:St) (K:V13 (Int->St->Prop)) (h:Ae PR Eg [(.agg [.int .i64 n_0,.str g,.str k,i,.str q]),(.agg [.int .u8 d_0,.int .u8 d_1,.bool d_2,.bool d_3])] [.one .tv,.one (.int .i64)] st (fun (v1:TV) (n1:Int) m8=>BId (n1≠0) (K 0 false false [] 0 0 0 0 0 [] .nilSlice .nilSlice .nilSlice n1 m8) (Ae PR EM [(.agg [.int .i64 n_0,.str g,.str k,i,.str q]),(.agg [.int .u8 d_0,.int .u8 d_1,.bool d_2,.bool d_3])] [.one .tv,.one (.int .i64)] m8 (fun (v2:TV) (n2:Int) o6=>need (isSl v1) (∃(I1:Int->TV->TV->TV->Int->Int->Int->Bool->Bool->V13 (V13 (St->Prop))) (M1:Int->TV->TV->TV->Int->Int->Int->Bool->Bool->V13 (V13 (St->Nat))),(I1 0 v1 v2 v1 ((lenS v1:Int)) d_0 d_1 d_2 d_3 0 false false [] 0 0 0 0 0 [] .nilSlice .nilSlice .nilSlice 6 false false [] 0 0 0 0 0 [] .nilSlice .nilSlice .nilSlice o6)/\∀g b e u k n3 n4 b1 b2 n5 b3 b4 s1 n6 n7 n8 n9 y s2 v3 v4 v5 s b5 b6 s3 r m p n l s4 v6 v7 v8 o,I1 g b e u k n3 n4 b1 b2 n5 b3 b4 s1 n6 n7 n8 n9 y s2 v3 v4 v5 s b5 b6 s3 r m p n l s4 v6 v7 v8 o->(BId (g<k) (((0<=g/\g<(lenZ 1 u:Int))/\Af (Ab o [] (.t (ixT 1 u g.toNat)) 0) (fun (v9:TV)=>BIf (!b1) (need (isSl v9) (∃(I2:Int->TV->TV->Int->TV->Int->Int->TV->Int->Int->Int->Bool->Bool->V13 (V13 (V13 (St->Prop)))) (M2:Int->TV->TV->Int->TV->Int->Int->TV->Int->Int->Int->Bool->Bool->V13 (V13 (V13 (St->Nat)))),(I2 0 b e g u k g v9 ((lenS v9:Int)) n3 n4 b1 b2 n5 b3 b4 s1 n6 n7 n8 n9 y s2 v3 v4 v5 s b5 b6 s3 r m p n l s4 v6 v7 v8 6 false false [] 0 0 0 0 0 [] .nilSlice .nilSlice .nilSlice o)/\∀i f c w h6 q f0 g8 j3 a4 a6 b7 b8 a9 b9 h3 s5 i5 e9 d7 h7 i1 s6 g2 f9 c5 d5 a8 d6 s7 d4 h8 c3 i6 i8 s8 e7 j1 d8 f6 f1 h0 s9 i2 c1 i4 h5 c9 c2 h4 j2 h2 a0,I2 i f c w h6 q f0 g8 j3 a4 a6 b7 b8 a9 b9 h3 s5 i5 e9 d7 h7 i1 s6 g2 f9 c5 d5 a8 d6 s7 d4 h8 c3 i6 i8 s8 e7 j1 d8 f6 f1 h0 s9 i2 c1 i4 h5 c9 c2 h4 j2 h2 a0->(BId (i<j3) (((0<=i/\i<(lenZ 1 g8:Int))/\Af (Ab a0 [] (.t (ixT 1 g8 i.toNat)) 0) (fun (x2:TV)=>Ah .str x2 (fun (o9:B8)=>((0<=w/\w<(lenZ 1 c:Int))/\Af (Ab a0 [] (.t (ixT 1 c w.toNat)) 0) (fun (k6:TV)=>((0<=i/\i<(lenZ 1 k6:Int))/\Af (Ab a0 [] (.t (ixT 1 k6 i.toNat)) 0) (fun (x4:TV)=>Ah .bool x4 (fun (o7:Bool)=>Ae PR AE [.str o9,.bool o7,(.agg [.int .u8 a4,.int .u8 a6,.bool b7,.bool b8])] [sV] a0 (fun (m6:Int) (m4 l4:Bool) (o4:B8) (l7 o5 m9 l8 o1:Int) (l6:B8) (l0 o2 m1:TV) m0=>(Ab m0 [] (.t (ixT 1 c w.toNat)) 0=some k6/\need (List.all (cV m6 m4 l4 o4 l7 o5 m9 l8 o1 l6 l0 o2 m1) Ap) (AF 63 13 168 j2 1 (cV m6 m4 l4 o4 l7 o5 m9 l8 o1 l6 l0 o2 m1) m0 (fun (k0:TV) k9=>need (List.all [k0] Ap) ((I2 ((i64.wrap (i+(1:Int)))) f c w h6 q f0 g8 j3 a4 a6 b7 b8 a9 b9 h3 s5 i5 e9 d7 h7 i1 s6 g2 f9 c5 d5 a8 d6 s7 d4 h8 c3 i6 i8 s8 e7 j1 d8 f6 f1 h0 s9 i2 c1 i4 h5 c9 c2 h4 k0 h2 k9/\M2 ((i64.wrap (i+(1:Int)))) f c w h6 q f0 g8 j3 a4 a6 b7 b8 a9 b9 h3 s5 i5 e9 d7 h7 i1 s6 g2 f9 c5 d5 a8 d6 s7 d4 h8 c3 i6 i8 s8 e7 j1 d8 f6 f1 h0 s9 i2 c1 i4 h5 c9 c2 h4 k0 h2 k9<M2 i f c w h6 q f0 g8 j3 a4 a6 b7 b8 a9 b9 h3 s5 i5 e9 d7 h7 i1 s6 g2 f9 c5 d5 a8 d6 s7 d4 h8 c3 i6 i8 s8 e7 j1 d8 f6 f1 h0 s9 i2 c1 i4 h5 c9 c2 h4 j2 h2 a0))))))))))))))) (need (List.all (cV f6 f1 h0 s9 i2 c1 i4 h5 c9 c2 h4 j2 h2) Ap) (AF 63 13 168 j1 1 (cV f6 f1 h0 s9 i2 c1 i4 h5 c9 c2 h4 j2 h2) a0 (fun (k1:TV) l1=>need (List.all [k1] Ap) ((I1 ((i64.wrap (f0+(1:Int)))) f c h6 q a4 a6 b7 b8 a9 b9 h3 s5 i5 e9 d7 h7 i1 s6 g2 f9 c5 d5 a8 d6 s7 d4 h8 c3 i6 i8 s8 e7 k1 d8 l1/\M1 ((i64.wrap (f0+(1:Int)))) f c h6 q a4 a6 b7 b8 a9 b9 h3 s5 i5 e9 d7 h7 i1 s6 g2 f9 c5 d5 a8 d6 s7 d4 h8 c3 i6 i8 s8 e7 k1 d8 l1<M1 g b e u k n3 n4 b1 b2 n5 b3 b4 s1 n6 n7 n8 n9 y s2 v3 v4 v5 s b5 b6 s3 r m p n l s4 v6 v7 v8 o)))))))) (BId ((0:Int)<g) (need (isSl v9) (∃(I3:Int->TV->TV->Int->TV->Int->Int->TV->Int->Int->Int->Bool->Bool->V13 (V13 (V13 (St->Prop)))) (M3:Int->TV->TV->Int->TV->Int->Int->TV->Int->Int->Int->Bool->Bool->V13 (V13 (V13 (St->Nat)))),(I3 0 b e g u k g v9 ((lenS v9:Int)) n3 n4 b1 b2 n5 b3 b4 s1 n6 n7 n8 n9 y s2 v3 v4 v5 s b5 b6 s3 r m p n l s4 v6 v7 v8 7 false false [] 0 0 0 0 0 [] .nilSlice .nilSlice .nilSlice o)/\∀j a d x e8 g4 c6 c4 z a1 a2 a3 a5 e6 e3 g3 i9 g0 c8 f5 f4 g1 f2 e5 i7 f7 j0 h9 g6 c0 e4 e0 g9 g5 d2 i3 g7 j4 d0 d1 h1 c7 b0 i0 e1 e2 a7 f3 d3 f8 d9 j5 v,I3 j a d x e8 g4 c6 c4 z a1 a2 a3 a5 e6 e3 g3 i9 g0 c8 f5 f4 g1 f2 e5 i7 f7 j0 h9 g6 c0 e4 e0 g9 g5 d2 i3 g7 j4 d0 d1 h1 c7 b0 i0 e1 e2 a7 f3 d3 f8 d9 j5 v->(BId (j<z) (((0<=j/\j<(lenZ 1 c4:Int))/\Af (Ab v [] (.t (ixT 1 c4 j.toNat)) 0) (fun (x5:TV)=>Ah .str x5 (fun (o8:B8)=>((0<=(0:Int)/\(0:Int)<(lenZ 1 a:Int))/\Af (Ab v [] (.t (ixT 1 a (Int.toNat (0:Int)))) 0) (fun (j7:TV)=>((0<=j/\j<(lenZ 1 j7:Int))/\Af (Ab v [] (.t (ixT 1 j7 j.toNat)) 0) (fun (x7:TV)=>Ah .str x7 (fun (k4:B8)=>((0<=x/\x<(lenZ 1 d:Int))/\Af (Ab v [] (.t (ixT 1 d x.toNat)) 0) (fun (k3:TV)=>((0<=j/\j<(lenZ 1 k3:Int))/\Af (Ab v [] (.t (ixT 1 k3 j.toNat)) 0) (fun (x9:TV)=>Ah .bool x9 (fun (p0:Bool)=>Ae PR AE [.str o8,.bool p0,(.agg [.int .u8 a1,.int .u8 a2,.bool a3,.bool a5])] [sV] v (fun (k8:Int) (n0 m7:Bool) (o3:B8) (k7 o0 l2 l5 m5:Int) (m2:B8) (m3 l3 l9:TV) j6=>(Ab j6 [] (.t (ixT 1 d x.toNat)) 0=some k3/\(Ab j6 [] (.t (ixT 1 j7 j.toNat)) 0=some (.str k4)/\(Ab j6 [] (.t (ixT 1 a (Int.toNat (0:Int)))) 0=some j7/\need (List.all [.str k4,.int .i64 k8,.bool n0,.bool m7,.str o3,.int .i64 k7,.int .i64 o0,.int .i64 l2,.int .i64 l5,.int .i64 m5,.str m2,m3,l3,l9] Ap) (AF 136 14 184 j5 1 [.str k4,.int .i64 k8,.bool n0,.bool m7,.str o3,.int .i64 k7,.int .i64 o0,.int .i64 l2,.int .i64 l5,.int .i64 m5,.str m2,m3,l3,l9] j6 (fun (j9:TV) j8=>need (List.all [j9] Ap) ((I3 ((i64.wrap (j+(1:Int)))) a d x e8 g4 c6 c4 z a1 a2 a3 a5 e6 e3 g3 i9 g0 c8 f5 f4 g1 f2 e5 i7 f7 j0 h9 g6 c0 e4 e0 g9 g5 d2 i3 g7 j4 d0 d1 h1 c7 b0 i0 e1 e2 a7 f3 d3 f8 d9 j9 j8/\M3 ((i64.wrap (j+(1:Int)))) a d x e8 g4 c6 c4 z a1 a2 a3 a5 e6 e3 g3 i9 g0 c8 f5 f4 g1 f2 e5 i7 f7 j0 h9 g6 c0 e4 e0 g9 g5 d2 i3 g7 j4 d0 d1 h1 c7 b0 i0 e1 e2 a7 f3 d3 f8 d9 j9 j8<M3 j a d x e8 g4 c6 c4 z a1 a2 a3 a5 e6 e3 g3 i9 g0 c8 f5 f4 g1 f2 e5 i7 f7 j0 h9 g6 c0 e4 e0 g9 g5 d2 i3 g7 j4 d0 d1 h1 c7 b0 i0 e1 e2 a7 f3 d3 f8 d9 j5 v)))))))))))))))))))))) (need (List.all (cV d1 h1 c7 b0 i0 e1 e2 a7 f3 d3 f8 d9 j5) Ap) (AF 63 13 168 j4 1 (cV d1 h1 c7 b0 i0 e1 e2 a7 f3 d3 f8 d9 j5) v (fun (k5:TV) k2=>need (List.all [k5] Ap) ((I1 ((i64.wrap (c6+(1:Int)))) a d e8 g4 a1 a2 a3 a5 e6 e3 g3 i9 g0 c8 f5 f4 g1 f2 e5 i7 f7 j0 h9 g6 c0 e4 e0 g9 g5 d2 i3 g7 k5 d0 k2/\M1 ((i64.wrap (c6+(1:Int)))) a d e8 g4 a1 a2 a3 a5 e6 e3 g3 i9 g0 c8 f5 f4 g1 f2 e5 i7 f7 j0 h9 g6 c0 e4 e0 g9 g5 d2 i3 g7 k5 d0 k2<M1 g b e u k n3 n4 b1 b2 n5 b3 b4 s1 n6 n7 n8 n9 y s2 v3 v4 v5 s b5 b6 s3 r m p n l s4 v6 v7 v8 o)))))))) ((I1 ((i64.wrap (g+(1:Int)))) b e u k n3 n4 b1 b2 n5 b3 b4 s1 n6 n7 n8 n9 y s2 v3 v4 v5 s b5 b6 s3 r m p n l s4 v6 v7 v8 o/\M1 ((i64.wrap (g+(1:Int)))) b e u k n3 n4 b1 b2 n5 b3 b4 s1 n6 n7 n8 n9 y s2 v3 v4 v5 s b5 b6 s3 r m p n l s4 v6 v7 v8 o<M1 g b e u k n3 n4 b1 b2 n5 b3 b4 s1 n6 n7 n8 n9 y s2 v3 v4 v5 s b5 b6 s3 r m p n l s4 v6 v7 v8 o)))))) (need (List.all (cV s b5 b6 s3 r m p n l s4 v6 v7 v8) Ap) (K s b5 b6 s3 r m p n l s4 v6 v7 v8 0 o)))))))):Ae PR Gq [(.agg [.int .i64 n_0,.str g,.str k,i,.str q]),(.agg [.int .u8 d_0,.int .u8 d_1,.bool d_2,.bool d_3])] [sV,.one (.int .i64)] st K:=
 Ak (cfg:=⟨[2,3,4,10,13,16],[],[61,64,92,95,100,103]⟩) (h:=(.seq .none (.seq .none (.seq .none (.seq .none (.seq .none (.seq (.seq .none (.block (.loop ⟨[(38,.int .i64),(6,.tv),(8,.tv),(36,.tv),(37,.int .i64)],[(3,1,0),(4,2,0),(10,3,0)],[(1,4),(2,13),(3,13)],[(1,0,.int .u8),(1,1,.int .u8),(1,2,.bool),(1,3,.bool),(2,0,.int .i64),(2,1,.bool),(2,2,.bool),(2,3,.str),(2,4,.int .i64),(2,5,.int .i64),(2,6,.int .i64),(2,7,.int .i64),(2,8,.int .i64),(2,9,.str),(2,10,.tv),(2,11,.tv),(2,12,.tv),(3,0,.int .i64),(3,1,.bool),(3,2,.bool),(3,3,.str),(3,4,.int .i64),(3,5,.int .i64),(3,6,.int .i64),(3,7,.int .i64),(3,8,.int .i64),(3,9,.str),(3,10,.tv),(3,11,.tv),(3,12,.tv)]⟩ (.seq .none (.seq .none (.seq (.block (.seq .none (.block (.seq .none (.cond (.seq .none (.seq (.seq .none (.block (.loop ⟨[(50,.int .i64),(6,.tv),(8,.tv),(11,.int .i64),(36,.tv),(37,.int .i64),(38,.int .i64),(48,.tv),(49,.int .i64)],[(3,1,0),(4,2,0),(10,3,0),(13,4,0)],[(1,4),(2,13),(3,13),(4,13)],[(1,0,.int .u8),(1,1,.int .u8),(1,2,.bool),(1,3,.bool),(2,0,.int .i64),(2,1,.bool),(2,2,.bool),(2,3,.str),(2,4,.int .i64),(2,5,.int .i64),(2,6,.int .i64),(2,7,.int .i64),(2,8,.int .i64),(2,9,.str),(2,10,.tv),(2,11,.tv),(2,12,.tv),(3,0,.int .i64),(3,1,.bool),(3,2,.bool),(3,3,.str),(3,4,.int .i64),(3,5,.int .i64),(3,6,.int .i64),(3,7,.int .i64),(3,8,.int .i64),(3,9,.str),(3,10,.tv),(3,11,.tv),(3,12,.tv),(4,0,.int .i64),(4,1,.bool),(4,2,.bool),(4,3,.str),(4,4,.int .i64),(4,5,.int .i64),(4,6,.int .i64),(4,7,.int .i64),(4,8,.int .i64),(4,9,.str),(4,10,.tv),(4,11,.tv),(4,12,.tv)]⟩ .none))) .none)) (.seq .none (.cond (.seq .none (.seq (.seq .none (.block (.loop ⟨[(83,.int .i64),(6,.tv),(8,.tv),(11,.int .i64),(36,.tv),(37,.int .i64),(38,.int .i64),(81,.tv),(82,.int .i64)],[(3,1,0),(4,2,0),(10,3,0),(16,5,0)],[(1,4),(2,13),(3,13),(5,13)],[(1,0,.int .u8),(1,1,.int .u8),(1,2,.bool),(1,3,.bool),(2,0,.int .i64),(2,1,.bool),(2,2,.bool),(2,3,.str),(2,4,.int .i64),(2,5,.int .i64),(2,6,.int .i64),(2,7,.int .i64),(2,8,.int .i64),(2,9,.str),(2,10,.tv),(2,11,.tv),(2,12,.tv),(3,0,.int .i64),(3,1,.bool),(3,2,.bool),(3,3,.str),(3,4,.int .i64),(3,5,.int .i64),(3,6,.int .i64),(3,7,.int .i64),(3,8,.int .i64),(3,9,.str),(3,10,.tv),(3,11,.tv),(3,12,.tv),(5,0,.int .i64),(5,1,.bool),(5,2,.bool),(5,3,.str),(5,4,.int .i64),(5,5,.int .i64),(5,6,.int .i64),(5,7,.int .i64),(5,8,.int .i64),(5,9,.str),(5,10,.tv),(5,11,.tv),(5,12,.tv)]⟩ .none))) .none)) .none))))))) .none)))))) .none))))))) mixed (fun _ _=>Tryz.call42 _ _) Tryz.func42 (by kernel_rfl) (by kernel_rfl) h
theorem QJ (v_0:Int) (v_1:Bool) (v_2:Bool) (v_3:B8) (v_4:Int) (v_5:Int) (v_6:Int) (v_7:Int) (v_8:Int) (v_9:B8) (v_10:TV) (v_11:TV) (v_12:TV) (st:St) (K:TV->St->Prop) (h:Ae PR Eu [.nilSlice,(.agg (cV v_0 v_1 v_2 v_3 v_4 v_5 v_6 v_7 v_8 v_9 v_10 v_11 v_12))] [.one .tv] st (fun (v1:TV) a=>K v1 a)):Ae PR Ik [(.agg (cV v_0 v_1 v_2 v_3 v_4 v_5 v_6 v_7 v_8 v_9 v_10 v_11 v_12))] [.one .tv] st K:=
 Ak (cfg:=⟨[1],[],[]⟩) (h:= .none) mixed (fun _ _=>Tryz.call46 _ _) Tryz.func46 (by kernel_rfl) (by kernel_rfl) h
theorem N5 (size:Int) (st:St) (K:TV->Int->St->Prop) (h:BId (size<1) (K .nilPtr 1 st) (BId ((65536:Int)<size) (K .nilPtr 1 st) (K ((.box st.nb 0)) 0 (st.push (.cells [.int .i64 size,.nilSlice,.int .i64 0,.bool false]) (some 194))))):Ae PR IZ [.int .i64 size] [.one .tv,.one (.int .i64)] st K:=
 Ak (cfg:=⟨[],[],[]⟩) (h:= .none) mixed (fun _ _=>Tryz.call68 _ _) Tryz.func68 (by kernel_rfl) (by kernel_rfl) h
theorem E0 (r:Nat) (st:St) (K:St->Prop) (h:Af (Ab st [] (.t (.box r 11)) 0) (fun (x1:TV)=>Ah .bool x1 (fun (b1:Bool)=>BIf (!b1) (stB st (.box r 11) [.bool true] (fun a=>Af (Ab a [] (.t (.box r 26)) 0) (fun (v1:TV)=>AF 118 15 192 v1 1 [.int .i64 2,(.str []),.int .i64 0,.bool false,.bool false,(.str []),.int .i64 0,.int .i64 0,.int .i64 0,.int .i64 0,.int .i64 0,(.str []),.nilSlice,.nilSlice,.nilSlice] a (fun (v2:TV) c=>need (List.all [v2] Ap) (stB c (.box r 26) [v2] (fun b=>K b)))))) (K st)))):Ae PR Bl [(.box r 0)] [] st K:=
 Ak (cfg:=⟨[],[],[]⟩) (h:= .none) mixed (fun _ _=>Tryz.call74 _ _) Tryz.func74 (by kernel_rfl) (by kernel_rfl) h
theorem EZ (r:Nat) (s:B8) (last:Bool) (st:St) (K:St->Prop) (h:Af (Ab st [] (.t (.box r 24)) 0) (fun (x1:TV)=>Ah (.int .i64) x1 (fun (n1:Int)=>BId ((0:Int)<=n1) (K st) (Af (Ab st [] (.t (.box r 23)) 0) (fun (x2:TV)=>Ah (.int .i64) x2 (fun (n2:Int)=>Af (Ab st [] (.t (.box r 25)) 0) (fun (x3:TV)=>Ah .str x3 (fun (s1:B8)=>Af (Ab st [] (.t (.box r 25)) 0) (fun (x4:TV)=>Ah .str x4 (fun (s2:B8)=>(s2.length+s.length<=9223372036854775807/\∃(I1:Int->TV->B8->Bool->Int->St->Prop) (M1:Int->TV->B8->Bool->Int->St->Nat),(I1 0 ((.box r 0)) ((s2++s)) last ((i64.wrap (n2-(s1.length:Int)))) st)/\∀b a e c d i,I1 b a e c d i->(BId (b<(e.length:Int)) (Ae PR El [.str e,.int .i64 b] [.one (.int .i64),.one (.int .i64)] i (fun (n3 n4:Int) k=>BId (n4=0) (((0<=b/\b<=(e.length:Int))/\need (isPtr a) (need (isPtr a) (stB k (Ag a 25) [(.str (List.drop b.toNat e))] (fun f=>need (isPtr a) (need (isPtr a) (Af (Ab f [] (.t (Ag a 25)) 0) (fun (x5:TV)=>Ah .str x5 (fun (s3:B8)=>BId (s3≠([]:B8)) (BIf c (need (isPtr a) (need (isPtr a) (stB f (Ag a 24) [(.int .i64 (i64.wrap (d+b)))] (fun w=>need (isPtr a) (need (isPtr a) (stB w (Ag a 25) [(.str [])] (fun u=>K u))))))) (need (isPtr a) (need (isPtr a) (Af (Ab f [] (.t (Ag a 25)) 0) (fun (x6:TV)=>Ah .str x6 (fun (s4:B8)=>Ae PR Bv [.str s4] [.one .bool] f (fun (b1:Bool) l=>BIf (!b1) (need (isPtr a) (need (isPtr a) (stB l (Ag a 24) [(.int .i64 (i64.wrap (d+b)))] (fun v=>need (isPtr a) (need (isPtr a) (stB v (Ag a 25) [(.str [])] (fun q=>K q))))))) (K l)))))))) (K f)))))))))) ((I1 ((i64.wrap (b+n4))) a e c d k/\M1 ((i64.wrap (b+n4))) a e c d k<M1 b a e c d i)))) (((0<=b/\b<=(e.length:Int))/\need (isPtr a) (need (isPtr a) (stB i (Ag a 25) [(.str (List.drop b.toNat e))] (fun g=>need (isPtr a) (need (isPtr a) (Af (Ab g [] (.t (Ag a 25)) 0) (fun (x7:TV)=>Ah .str x7 (fun (s5:B8)=>BId (s5≠([]:B8)) (BIf c (need (isPtr a) (need (isPtr a) (stB g (Ag a 24) [(.int .i64 (i64.wrap (d+b)))] (fun o=>need (isPtr a) (need (isPtr a) (stB o (Ag a 25) [(.str [])] (fun p=>K p))))))) (need (isPtr a) (need (isPtr a) (Af (Ab g [] (.t (Ag a 25)) 0) (fun (x8:TV)=>Ah .str x8 (fun (s6:B8)=>Ae PR Bv [.str s6] [.one .bool] g (fun (b2:Bool) j=>BIf (!b2) (need (isPtr a) (need (isPtr a) (stB j (Ag a 24) [(.int .i64 (i64.wrap (d+b)))] (fun n=>need (isPtr a) (need (isPtr a) (stB n (Ag a 25) [(.str [])] (fun m=>K m))))))) (K j)))))))) (K g)))))))))))))))))))))):Ae PR Bk [(.box r 0),.str s,.bool last] [] st K:=
 Ak (cfg:=⟨[],[],[]⟩) (h:=(.seq .none (.seq .none (.seq .none (.seq .none (.seq (.block (.loop ⟨[(7,.int .i64),(0,.tv),(1,.str),(2,.bool),(6,.int .i64)],[],[],[]⟩ .none)) .none)))))) mixed (fun _ _=>Tryz.call75 _ _) Tryz.func75 (by kernel_rfl) (by kernel_rfl) h
theorem Fs (r:Nat) (c:Int) (atx:Int) (st:St) (K:St->Prop) (h:Af (Ab st [] (.t (.box r 10)) 0) (fun (x1:TV)=>Ah (.int .i64) x1 (fun (n1:Int)=>BId (n1=0) (Ae PR AY [(.box r 0),.int .i64 atx] [] st (fun (a:St)=>Af (Ab a [] (.t (.box r 2)) 0) (fun (x2:TV)=>Ah (.int .u8) x2 (fun (n2:Int)=>BId (c=n2) (stB a (.box r 10) [.int .i64 2] (fun j=>Ae PR AG [(.box r 0),.int .u8 c] [] j (fun (o:St)=>K o))) (stB a (.box r 10) [.int .i64 1] (fun p=>Ae PR Be [(.box r 0),.int .u8 c,.int .i64 atx] [] p (fun (i:St)=>K i))))))) (BId (n1=1) (Ae PR Be [(.box r 0),.int .u8 c,.int .i64 atx] [] st (fun (l:St)=>K l)) (BId (n1=2) (Af (Ab st [] (.t (.box r 2)) 0) (fun (x3:TV)=>Ah (.int .u8) x3 (fun (n3:Int)=>BId (c=n3) (stB st (.box r 10) [.int .i64 3] (fun n=>Ae PR AG [(.box r 0),.int .u8 c] [] n (fun (k:St)=>K k))) (Ae PR AG [(.box r 0),.int .u8 c] [] st (fun (m:St)=>K m))))) (BId (n1=3) (Af (Ab st [] (.t (.box r 2)) 0) (fun (x4:TV)=>Ah (.int .u8) x4 (fun (n4:Int)=>BId (c=n4) (stB st (.box r 10) [.int .i64 2] (fun f=>Ae PR AG [(.box r 0),.int .u8 c] [] f (fun (g:St)=>K g))) (Ae PR AM [(.box r 0),.int .u8 c,.int .i64 atx] [] st (fun (e:St)=>K e))))) (BId (n1=4) (BId (c≠10) (Af (Ab st [] (.t (.box r 21)) 0) (fun (x5:TV)=>Ah (.int .i64) x5 (fun (n5:Int)=>Ae PR Ai [(.box r 0),.int .i64 n5,.int .i64 3] [] st (fun (d:St)=>K d)))) (Af (Ab st [] (.t (.box r 21)) 0) (fun (x6:TV)=>Ah (.int .i64) x6 (fun (n6:Int)=>Ae PR Ax [(.box r 0),.int .i64 n6] [] st (fun (b:St)=>K b))))) (K st)))))))):Ae PR BR [(.box r 0),.int .u8 c,.int .i64 atx] [] st K:=
 Ak (cfg:=⟨[],[],[]⟩) (h:= .none) mixed (fun _ _=>Tryz.call76 _ _) Tryz.func76 (by kernel_rfl) (by kernel_rfl) h
theorem EH (r:Nat) (st:St) (K:TV->St->Prop) (h:Af (Ab st [] (.t (.box r 26)) 0) (fun (v1:TV)=>stB st (.box r 26) [.nilSlice] (fun a=>K v1 a))):Ae PR AB [(.box r 0)] [.one .tv] st K:=
 Ak (cfg:=⟨[],[],[]⟩) (h:= .none) mixed (fun _ _=>Tryz.call77 _ _) Tryz.func77 (by kernel_rfl) (by kernel_rfl) h
theorem HT (w:Nat) (st:St) (K:Int->St->Prop) (h:Af (Ab st [] (.t (.box w 1)) 0) (fun (v1:TV)=>need (isSl v1) (K ((lenS v1:Int)) st))):Ae PR AV [(.box w 0)] [.one (.int .i64)] st K:=
 Ak (cfg:=⟨[],[],[]⟩) (h:= .none) mixed (fun _ _=>Tryz.call78 _ _) Tryz.func78 (by kernel_rfl) (by kernel_rfl) h
theorem Ft (r:Nat) (st:St) (K:St->Prop) (h:Af (Ab st [] (.t (.box r 10)) 0) (fun (x1:TV)=>Ah (.int .i64) x1 (fun (n1:Int)=>BId (n1=2) (BId (n1=2) (Af (Ab st [] (.t (.box r 22)) 0) (fun (x2:TV)=>Ah (.int .i64) x2 (fun (n2:Int)=>BId (n2≠0) (Af (Ab st [] (.t (.box r 20)) 0) (fun (x3:TV)=>Ah (.int .i64) x3 (fun (n3:Int)=>Af (Ab st [] (.t (.box r 22)) 0) (fun (x4:TV)=>Ah (.int .i64) x4 (fun (n4:Int)=>Ae PR Ai [(.box r 0),.int .i64 n3,.int .i64 n4] [] st (fun (e:St)=>Af (Ab e [] (.t (.box r 23)) 0) (fun (x5:TV)=>Ah (.int .i64) x5 (fun (n5:Int)=>Ae PR Ai [(.box r 0),.int .i64 n5,.int .i64 4] [] e (fun (b0:St)=>K b0))))))))) (Af (Ab st [] (.t (.box r 23)) 0) (fun (x6:TV)=>Ah (.int .i64) x6 (fun (n6:Int)=>Ae PR Ai [(.box r 0),.int .i64 n6,.int .i64 4] [] st (fun (x:St)=>K x))))))) (BId (n1=0) (Af (Ab st [] (.t (.box r 12)) 0) (fun (x7:TV)=>Ah .bool x7 (fun (b1:Bool)=>BIf (!b1) (K st) (Af (Ab st [] (.t (.box r 23)) 0) (fun (x8:TV)=>Ah (.int .i64) x8 (fun (n7:Int)=>Ae PR AY [(.box r 0),.int .i64 n7] [] st (fun (a9:St)=>Ae PR Az [(.box r 0)] [] a9 (fun (g:St)=>Af (Ab g [] (.t (.box r 23)) 0) (fun (x9:TV)=>Ah (.int .i64) x9 (fun (n8:Int)=>Ae PR Ax [(.box r 0),.int .i64 n8] [] g (fun (a3:St)=>K a3))))))))))) (BId (n1=1) (BId (n1=1) (Ae PR Az [(.box r 0)] [] st (fun (i:St)=>Af (Ab i [] (.t (.box r 23)) 0) (fun (v:TV)=>Ah (.int .i64) v (fun (n9:Int)=>Ae PR Ax [(.box r 0),.int .i64 n9] [] i (fun (a0:St)=>K a0))))) (K st)) (BId (n1=3) (Ae PR Az [(.box r 0)] [] st (fun (f:St)=>Af (Ab f [] (.t (.box r 23)) 0) (fun (b6:TV)=>Ah (.int .i64) b6 (fun (b5:Int)=>Ae PR Ax [(.box r 0),.int .i64 b5] [] f (fun (n:St)=>K n))))) (K st))))) (BId (n1=4) (Af (Ab st [] (.t (.box r 22)) 0) (fun (a6:TV)=>Ah (.int .i64) a6 (fun (a5:Int)=>BId (a5≠0) (Af (Ab st [] (.t (.box r 20)) 0) (fun (c0:TV)=>Ah (.int .i64) c0 (fun (a1:Int)=>Af (Ab st [] (.t (.box r 22)) 0) (fun (a7:TV)=>Ah (.int .i64) a7 (fun (u:Int)=>Ae PR Ai [(.box r 0),.int .i64 a1,.int .i64 u] [] st (fun (b:St)=>Af (Ab b [] (.t (.box r 23)) 0) (fun (b3:TV)=>Ah (.int .i64) b3 (fun (a8:Int)=>Ae PR Ai [(.box r 0),.int .i64 a8,.int .i64 4] [] b (fun (p:St)=>K p))))))))) (Af (Ab st [] (.t (.box r 23)) 0) (fun (y:TV)=>Ah (.int .i64) y (fun (z:Int)=>Ae PR Ai [(.box r 0),.int .i64 z,.int .i64 4] [] st (fun (l:St)=>K l))))))) (BId (n1=0) (Af (Ab st [] (.t (.box r 12)) 0) (fun (b4:TV)=>Ah .bool b4 (fun (b2:Bool)=>BIf (!b2) (K st) (Af (Ab st [] (.t (.box r 23)) 0) (fun (b9:TV)=>Ah (.int .i64) b9 (fun (q:Int)=>Ae PR AY [(.box r 0),.int .i64 q] [] st (fun (k:St)=>Ae PR Az [(.box r 0)] [] k (fun (a:St)=>Af (Ab a [] (.t (.box r 23)) 0) (fun (a2:TV)=>Ah (.int .i64) a2 (fun (s:Int)=>Ae PR Ax [(.box r 0),.int .i64 s] [] a (fun (m:St)=>K m))))))))))) (BId (n1=1) (BId (n1=1) (Ae PR Az [(.box r 0)] [] st (fun (d:St)=>Af (Ab d [] (.t (.box r 23)) 0) (fun (b8:TV)=>Ah (.int .i64) b8 (fun (b7:Int)=>Ae PR Ax [(.box r 0),.int .i64 b7] [] d (fun (j:St)=>K j))))) (K st)) (BId (n1=3) (Ae PR Az [(.box r 0)] [] st (fun (c:St)=>Af (Ab c [] (.t (.box r 23)) 0) (fun (a4:TV)=>Ah (.int .i64) a4 (fun (w:Int)=>Ae PR Ax [(.box r 0),.int .i64 w] [] c (fun (o:St)=>K o))))) (K st)))))))):Ae PR BS [(.box r 0)] [] st K:=
 Ak (cfg:=⟨[],[],[23,27]⟩) (h:= .none) mixed (fun _ _=>Tryz.call82 _ _) Tryz.func82 (by kernel_rfl) (by kernel_rfl) h
theorem HA (w:Nat) (n:Int) (st:St) (K:B8->Int->St->Prop) (h:BId (n<0) (K [] 2 st) (Af (Ab st [] (.t (.box w 1)) 0) (fun (v1:TV)=>need (isSl v1) (BId ((lenS v1:Int)<n) (K [] 2 st) (Af (Ab st [] (.t (.box w 1)) 0) (fun (v2:TV)=>((Hx 1 v2=true/\0<=n/\n<=(lenS v2:Int)/\n=n)/\Af ((toBytes st (slT 1 .full v2 0 n.toNat)).map TV.str) (fun (x3:TV)=>Ah .str x3 (fun (s1:B8)=>Af (Ab st [] (.t (.box w 1)) 0) (fun (v3:TV)=>((Hx 1 v3=true/\0<=n/\n<=(lenS v3:Int))/\Af (BI st 1 (slT 1 .non v3 n.toNat (lenS v3))) (fun (q1:Nat×List TV)=>need (List.all q1.2 Ap) (AF 5 1 1 (.list 1 .full 0 []) q1.1 q1.2 st (fun (v4:TV) b=>need (List.all [v4] Ap) (stB b (.box w 1) [v4] (fun a=>Af (Ab a [] (.t (.box w 2)) 0) (fun (x5:TV)=>Ah (.int .i64) x5 (fun (n1:Int)=>stB a (.box w 2) [(.int .i64 (i64.wrap (n1+n)))] (fun c=>K s1 0 c))))))))))))))))))):Ae PR AO [(.box w 0),.int .i64 n] [.one .str,.one (.int .i64)] st K:=
 Ak (cfg:=⟨[],[],[]⟩) (h:= .none) mixed (fun _ _=>Tryz.call83 _ _) Tryz.func83 (by kernel_rfl) (by kernel_rfl) h
theorem Gd (s:B8) (st:St) (K:V13 (St->Prop)) (h:K 4 false false [] 0 0 0 0 0 s .nilSlice .nilSlice .nilSlice st):Ae PR CB [.str s] [sV] st K:=
 Ak (cfg:=⟨[2],[],[]⟩) (h:= .none) mixed (fun _ _=>Tryz.call93 _ _) Tryz.func93 (by kernel_rfl) (by kernel_rfl) h
theorem N7 (st:St) (K:V13 (St->Prop)) (h:K 0 false false [] 0 0 0 0 0 [] .nilSlice .nilSlice .nilSlice st):Ae PR I0 [] [sV] st K:=
 Ak (cfg:=⟨[0],[],[]⟩) (h:= .none) mixed (fun _ _=>Tryz.call94 _ _) Tryz.func94 (by kernel_rfl) (by kernel_rfl) h
theorem IN (b:Bool) (st:St) (K:V13 (St->Prop)) (h:K 1 b false [] 0 0 0 0 0 [] .nilSlice .nilSlice .nilSlice st):Ae PR Gl [.bool b] [sV] st K:=
 Ak (cfg:=⟨[2],[],[]⟩) (h:= .none) mixed (fun _ _=>Tryz.call95 _ _) Tryz.func95 (by kernel_rfl) (by kernel_rfl) h
theorem KJ (s:B8) (st:St) (K:Bool->B8->Int->Int->St->Prop) (h:Ae PR A8 [.str s,.str TW] [.one .bool] st (fun (b1:Bool) z=>∃(C1:B8->Bool->Bool->B8->Int->St->Prop),(BIf b1 (((0<=(1:Int)/\(1:Int)<=(s.length:Int))/\C1 ((List.drop (Int.toNat (1:Int)) s)) b1 false [] 0 z)) (C1 s b1 false [] 0 z))/\∀l m b2 s1 n1 a5,C1 l m b2 s1 n1 a5->(Ae PR CV [.str l] [.one (.int .i64)] a5 (fun (n2:Int) t=>∃(C2:B8->Bool->Int->Bool->B8->Int->St->Prop),(BId (n2=0) (K false [] 0 3 t) (BId ((1:Int)<n2) (((0<=(0:Int)/\(0:Int)<(l.length:Int))/\BId (((List.getD l (Int.toNat (0:Int)) 0).toNat:Int)=(48:Int)) (K false [] 0 3 t) (C2 l m n2 b2 s1 n1 t))) (C2 l m n2 b2 s1 n1 t)))/\∀b n a b3 s2 n3 a4,C2 b n a b3 s2 n3 a4->(((0<=a/\a<=(b.length:Int))/\((0<=a/\a<=(b.length:Int))/\∃(C3:B8->B8->Int->Bool->Bool->B8->Int->St->Prop),(Ae PR A8 [(.str (List.drop a.toNat b)),.str str16] [.one .bool] a4 (fun (b4:Bool) a3=>BIf b4 (((0<=(1:Int)/\(1:Int)<=(((List.drop a.toNat b)).length:Int))/\Ae PR CV [(.str (List.drop (Int.toNat (1:Int)) (List.drop a.toNat b)))] [.one (.int .i64)] a3 (fun (n4:Int) a1=>BId (n4=0) (K false [] 0 3 a1) (((0<=(1:Int)/\(1:Int)<=(i64.wrap (n4+(1:Int)))/\(i64.wrap (n4+(1:Int)))<=(((List.drop a.toNat b)).length:Int))/\(((List.take a.toNat b)).length+((List.drop (Int.toNat (1:Int)) (List.take (Int.toNat (i64.wrap (n4+(1:Int)))) (List.drop a.toNat b)))).length<=9223372036854775807/\((0<=(i64.wrap (n4+(1:Int)))/\(i64.wrap (n4+(1:Int)))<=(((List.drop a.toNat b)).length:Int))/\C3 ((List.drop (Int.toNat (i64.wrap (n4+(1:Int)))) (List.drop a.toNat b))) (((List.take a.toNat b)++(List.drop (Int.toNat (1:Int)) (List.take (Int.toNat (i64.wrap (n4+(1:Int)))) (List.drop a.toNat b))))) ((i64.wrap (0-n4))) n b3 s2 n3 a1))))))) (C3 ((List.drop a.toNat b)) ((List.take a.toNat b)) 0 n b3 s2 n3 a3)))/\∀d i f j b5 s3 n5 q,C3 d i f j b5 s3 n5 q->(BId (d≠([]:B8)) (∃(C4:B8->Bool->B8->Int->Bool->B8->Int->St->Prop),(((0<=(0:Int)/\(0:Int)<(d.length:Int))/\BId (((List.getD d (Int.toNat (0:Int)) 0).toNat:Int)≠(101:Int)) (((0<=(0:Int)/\(0:Int)<(d.length:Int))/\BId (((List.getD d (Int.toNat (0:Int)) 0).toNat:Int)≠(69:Int)) (K false [] 0 3 q) (C4 d j i f b5 s3 n5 q))) (C4 d j i f b5 s3 n5 q)))/\∀c k g e b6 s4 n6 a0,C4 c k g e b6 s4 n6 a0->(((0<=(1:Int)/\(1:Int)<=(c.length:Int))/\Ae PR A8 [(.str (List.drop (Int.toNat (1:Int)) c)),.str TW] [.one .bool] a0 (fun (b7:Bool) a2=>∃(C5:B8->Bool->B8->Int->Bool->Bool->B8->Int->St->Prop),(BIf b7 (((0<=(1:Int)/\(1:Int)<=(((List.drop (Int.toNat (1:Int)) c)).length:Int))/\C5 ((List.drop (Int.toNat (1:Int)) (List.drop (Int.toNat (1:Int)) c))) k g e b7 b6 s4 n6 a2)) (Ae PR A8 [(.str (List.drop (Int.toNat (1:Int)) c)),.str str20] [.one .bool] a2 (fun (b8:Bool) x=>BIf b8 (((0<=(1:Int)/\(1:Int)<=(((List.drop (Int.toNat (1:Int)) c)).length:Int))/\C5 ((List.drop (Int.toNat (1:Int)) (List.drop (Int.toNat (1:Int)) c))) k g e b7 b6 s4 n6 x)) (C5 ((List.drop (Int.toNat (1:Int)) c)) k g e b7 b6 s4 n6 x))))/\∀p u v w o b9 s5 n7 r,C5 p u v w o b9 s5 n7 r->(BId (p=([]:B8)) (K false [] 0 3 r) (Ae PR CV [.str p] [.one (.int .i64)] r (fun (n8:Int) y=>BId (n8≠(p.length:Int)) (K false [] 0 3 y) (Ae PR Dg [.str p,.str VW] [.one .str] y (fun (s6:B8) a8=>Ae PR Eh [.int .i64 w,.bool o,.str s6] [.one (.int .i64)] a8 (fun (n9:Int) a7=>Ae PR Cy [.bool u,.str v,.int .i64 n9] [.agg [.bool,.str,.int .i64],.one (.int .i64)] a7 (fun (c2:Bool) (s7:B8) (c4 c3:Int) a6=>K c2 s7 c4 c3 a6))))))))))) (Ae PR Cy [.bool j,.str i,.int .i64 f] [.agg [.bool,.str,.int .i64],.one (.int .i64)] q (fun (c0:Bool) (s8:B8) (c1 b0:Int) a9=>K c0 s8 c1 b0 a9)))))))))):Ae PR Ck [.str s] [.agg [.bool,.str,.int .i64],.one (.int .i64)] st K:=
 Ak (cfg:=⟨[2],[],[]⟩) (h:=(.seq .none (.seq .none (.cut ⟨[(0,.str),(4,.bool)],[(2,0,0)],[(0,3)],[(0,0,.bool),(0,1,.str),(0,2,.int .i64)]⟩ .none (.seq .none (.cut ⟨[(0,.str),(4,.bool),(5,.int .i64)],[(2,0,0)],[(0,3)],[(0,0,.bool),(0,1,.str),(0,2,.int .i64)]⟩ .none (.seq .none (.seq .none (.seq .none (.cut ⟨[(0,.str),(6,.str),(7,.int .i64),(4,.bool)],[(2,0,0)],[(0,3)],[(0,0,.bool),(0,1,.str),(0,2,.int .i64)]⟩ .none (.seq (.seq .none (.cond (.cut ⟨[(0,.str),(4,.bool),(6,.str),(7,.int .i64)],[(2,0,0)],[(0,3)],[(0,0,.bool),(0,1,.str),(0,2,.int .i64)]⟩ .none (.seq .none (.seq .none (.cut ⟨[(0,.str),(4,.bool),(6,.str),(7,.int .i64),(8,.bool)],[(2,0,0)],[(0,3)],[(0,0,.bool),(0,1,.str),(0,2,.int .i64)]⟩ .none .none)))) .none)) .none))))))))))) mixed (fun _ _=>Tryz.call96 _ _) Tryz.func96 (by kernel_rfl) (by kernel_rfl) h
theorem PC (d_0:Bool) (d_1:B8) (d_2:Int) (st:St) (K:V13 (St->Prop)) (h:K 2 false d_0 d_1 d_2 0 0 0 0 [] .nilSlice .nilSlice .nilSlice st):Ae PR Fc [(.agg [.bool d_0,.str d_1,.int .i64 d_2])] [sV] st K:=
 Ak (cfg:=⟨[1,2],[],[]⟩) (h:= .none) mixed (fun _ _=>Tryz.call97 _ _) Tryz.func97 (by kernel_rfl) (by kernel_rfl) h
theorem LU (s:B8) (st:St) (K:Int->Int->Int->Int->Int->St->Prop) (h:Ae PR CG [(.box st.nb 0),(.box (st.push (.cells [.str s,.bool false]) (some 220)).nb 0)] [.one (.int .i64)] ((st.push (.cells [.str s,.bool false]) (some 220)).push (.cells [.int .i64 0,.int .i64 0,.int .i64 0,.int .i64 0,.int .i64 0,.int .i64 0,.int .i64 0,.int .u8 0,.int .i64 0,.int .i64 0]) (some 222)) (fun (n1:Int) a=>Af (Ab a [] (.t (.box st.nb 1)) 0) (fun (x1:TV)=>Ah .bool x1 (fun (b1:Bool)=>BIf b1 (K 0 0 0 0 3 a) (Af (Ab a [] (.t (.box st.nb 0)) 0) (fun (x2:TV)=>Ah .str x2 (fun (s1:B8)=>BId (s1≠([]:B8)) (K 0 0 0 0 3 a) (BId (n1≠2) (Af (Ab a [] (.t (.box (st.push (.cells [.str s,.bool false]) (some 220)).nb 0)) 0) (fun (x3:TV)=>Ah (.int .i64) x3 (fun (n2:Int)=>Af (Ab a [] (.t (.box (st.push (.cells [.str s,.bool false]) (some 220)).nb 1)) 0) (fun (x4:TV)=>Ah (.int .i64) x4 (fun (n3:Int)=>Af (Ab a [] (.t (.box (st.push (.cells [.str s,.bool false]) (some 220)).nb 2)) 0) (fun (x5:TV)=>Ah (.int .i64) x5 (fun (n4:Int)=>Ae PR EO [.int .i64 n2,.int .i64 n3,.int .i64 n4] [.one (.int .i64),.one (.int .i64)] a (fun (n5 n6:Int) b=>BId (n6≠0) (K 0 0 0 0 2 b) (Af (Ab b [] (.t (.box (st.push (.cells [.str s,.bool false]) (some 220)).nb 3)) 0) (fun (x6:TV)=>Ah (.int .i64) x6 (fun (n7:Int)=>BId ((23:Int)<n7) (K 0 0 0 0 2 b) (Af (Ab b [] (.t (.box (st.push (.cells [.str s,.bool false]) (some 220)).nb 4)) 0) (fun (x7:TV)=>Ah (.int .i64) x7 (fun (n8:Int)=>BId ((59:Int)<n8) (K 0 0 0 0 2 b) (Af (Ab b [] (.t (.box (st.push (.cells [.str s,.bool false]) (some 220)).nb 5)) 0) (fun (x8:TV)=>Ah (.int .i64) x8 (fun (n9:Int)=>BId ((59:Int)<n9) (K 0 0 0 0 2 b) (Af (Ab b [] (.t (.box (st.push (.cells [.str s,.bool false]) (some 220)).nb 8)) 0) (fun (x9:TV)=>Ah (.int .i64) x9 (fun (b0:Int)=>BId ((23:Int)<b0) (K 0 0 0 0 2 b) (Af (Ab b [] (.t (.box (st.push (.cells [.str s,.bool false]) (some 220)).nb 9)) 0) (fun (p:TV)=>Ah (.int .i64) p (fun (a2:Int)=>BId ((59:Int)<a2) (K 0 0 0 0 2 b) (Af (Ab b [] (.t (.box (st.push (.cells [.str s,.bool false]) (some 220)).nb 3)) 0) (fun (b3:TV)=>Ah (.int .i64) b3 (fun (j:Int)=>Af (Ab b [] (.t (.box (st.push (.cells [.str s,.bool false]) (some 220)).nb 4)) 0) (fun (a3:TV)=>Ah (.int .i64) a3 (fun (e:Int)=>Af (Ab b [] (.t (.box (st.push (.cells [.str s,.bool false]) (some 220)).nb 5)) 0) (fun (c0:TV)=>Ah (.int .i64) c0 (fun (l:Int)=>Af (Ab b [] (.t (.box (st.push (.cells [.str s,.bool false]) (some 220)).nb 6)) 0) (fun (a4:TV)=>Ah (.int .i64) a4 (fun (g:Int)=>Af (Ab b [] (.t (.box (st.push (.cells [.str s,.bool false]) (some 220)).nb 8)) 0) (fun (a6:TV)=>Ah (.int .i64) a6 (fun (c:Int)=>Af (Ab b [] (.t (.box (st.push (.cells [.str s,.bool false]) (some 220)).nb 9)) 0) (fun (w:TV)=>Ah (.int .i64) w (fun (d:Int)=>Af (Ab b [] (.t (.box (st.push (.cells [.str s,.bool false]) (some 220)).nb 7)) 0) (fun (a7:TV)=>Ah (.int .u8) a7 (fun (b4:Int)=>BId (b4=45) (K n1 n5 ((i64.wrap ((i64.wrap ((i64.wrap ((i64.wrap ((i64.wrap ((i64.wrap (j*(60:Int)))+e))*(60:Int)))+l))*(1000000000:Int)))+g))) ((i64.wrap (0-(i64.wrap ((i64.wrap (c*(60:Int)))+d))))) 0 b) (K n1 n5 ((i64.wrap ((i64.wrap ((i64.wrap ((i64.wrap ((i64.wrap ((i64.wrap (j*(60:Int)))+e))*(60:Int)))+l))*(1000000000:Int)))+g))) ((i64.wrap ((i64.wrap (c*(60:Int)))+d))) 0 b))))))))))))))))))))))))))))))))))))))) (Af (Ab a [] (.t (.box (st.push (.cells [.str s,.bool false]) (some 220)).nb 3)) 0) (fun (a8:TV)=>Ah (.int .i64) a8 (fun (r:Int)=>BId ((23:Int)<r) (K 0 0 0 0 2 a) (Af (Ab a [] (.t (.box (st.push (.cells [.str s,.bool false]) (some 220)).nb 4)) 0) (fun (x:TV)=>Ah (.int .i64) x (fun (z:Int)=>BId ((59:Int)<z) (K 0 0 0 0 2 a) (Af (Ab a [] (.t (.box (st.push (.cells [.str s,.bool false]) (some 220)).nb 5)) 0) (fun (b8:TV)=>Ah (.int .i64) b8 (fun (y:Int)=>BId ((59:Int)<y) (K 0 0 0 0 2 a) (Af (Ab a [] (.t (.box (st.push (.cells [.str s,.bool false]) (some 220)).nb 8)) 0) (fun (a0:TV)=>Ah (.int .i64) a0 (fun (b9:Int)=>BId ((23:Int)<b9) (K 0 0 0 0 2 a) (Af (Ab a [] (.t (.box (st.push (.cells [.str s,.bool false]) (some 220)).nb 9)) 0) (fun (q:TV)=>Ah (.int .i64) q (fun (b6:Int)=>BId ((59:Int)<b6) (K 0 0 0 0 2 a) (Af (Ab a [] (.t (.box (st.push (.cells [.str s,.bool false]) (some 220)).nb 3)) 0) (fun (b7:TV)=>Ah (.int .i64) b7 (fun (f:Int)=>Af (Ab a [] (.t (.box (st.push (.cells [.str s,.bool false]) (some 220)).nb 4)) 0) (fun (v:TV)=>Ah (.int .i64) v (fun (n:Int)=>Af (Ab a [] (.t (.box (st.push (.cells [.str s,.bool false]) (some 220)).nb 5)) 0) (fun (u:TV)=>Ah (.int .i64) u (fun (m:Int)=>Af (Ab a [] (.t (.box (st.push (.cells [.str s,.bool false]) (some 220)).nb 6)) 0) (fun (b5:TV)=>Ah (.int .i64) b5 (fun (o:Int)=>Af (Ab a [] (.t (.box (st.push (.cells [.str s,.bool false]) (some 220)).nb 8)) 0) (fun (a1:TV)=>Ah (.int .i64) a1 (fun (i:Int)=>Af (Ab a [] (.t (.box (st.push (.cells [.str s,.bool false]) (some 220)).nb 9)) 0) (fun (a5:TV)=>Ah (.int .i64) a5 (fun (k:Int)=>Af (Ab a [] (.t (.box (st.push (.cells [.str s,.bool false]) (some 220)).nb 7)) 0) (fun (b2:TV)=>Ah (.int .u8) b2 (fun (a9:Int)=>BId (a9=45) (K n1 0 ((i64.wrap ((i64.wrap ((i64.wrap ((i64.wrap ((i64.wrap ((i64.wrap (f*(60:Int)))+n))*(60:Int)))+m))*(1000000000:Int)))+o))) ((i64.wrap (0-(i64.wrap ((i64.wrap (i*(60:Int)))+k))))) 0 a) (K n1 0 ((i64.wrap ((i64.wrap ((i64.wrap ((i64.wrap ((i64.wrap ((i64.wrap (f*(60:Int)))+n))*(60:Int)))+m))*(1000000000:Int)))+o))) ((i64.wrap ((i64.wrap (i*(60:Int)))+k))) 0 a))))))))))))))))))))))))))))))))))))))):Ae PR Cw [.str s] [.agg [.int .i64,.int .i64,.int .i64,.int .i64],.one (.int .i64)] st K:=
 Ak (cfg:=⟨[2,7],[],[]⟩) (h:= .none) mixed (fun _ _=>Tryz.call98 _ _) Tryz.func98 (by kernel_rfl) (by kernel_rfl) h
theorem N6 (t_0:Int) (t_1:Int) (t_2:Int) (t_3:Int) (st:St) (K:V13 (St->Prop)) (h:K 3 false false [] 0 t_0 t_1 t_2 t_3 [] .nilSlice .nilSlice .nilSlice st):Ae PR Ek [(.agg [.int .i64 t_0,.int .i64 t_1,.int .i64 t_2,.int .i64 t_3])] [sV] st K:=
 Ak (cfg:=⟨[1,2],[],[]⟩) (h:= .none) mixed (fun _ _=>Tryz.call99 _ _) Tryz.func99 (by kernel_rfl) (by kernel_rfl) h
theorem QI (l:TV) (v_0:Int) (b:Bool) (a:Bool) (v_3:B8) (v_4:Int) (v_5:Int) (v_6:Int) (v_7:Int) (v_8:Int) (v_9:B8) (v_10:TV) (v_11:TV) (v_12:TV) (st:St) (K:TV->St->Prop) (h:BId (v_0=6) (AF 118 15 192 l 1 [.int .i64 2,(.str []),.int .i64 0,.bool false,.bool false,(.str []),.int .i64 0,.int .i64 0,.int .i64 0,.int .i64 0,.int .i64 0,(.str []),.nilSlice,.nilSlice,.nilSlice] st (fun (v1:TV) a5=>need (isSl v_11) (∃(I1:TV->Int->TV->Int->St->Prop) (M1:TV->Int->TV->Int->St->Nat),(I1 v1 0 v_11 ((lenS v_11:Int)) a5)/\∀k c b f i,I1 k c b f i->(BId (c<f) (((0<=c/\c<(lenZ 13 b:Int))/\Af ((Aj i [] (.t (ixT 13 b c.toNat)) 0 13).map TV.agg) (fun (x1:TV)=>AU [.int .i64,.bool,.bool,.str,.int .i64,.int .i64,.int .i64,.int .i64,.int .i64,.str,.tv,.tv,.tv] x1 (fun (n1:Int) (b1 b2:Bool) (s1:B8) (n2 n3 n4 n5 n6:Int) (s2:B8) (v2 v3 v4:TV)=>need (List.all (cV n1 b1 b2 s1 n2 n3 n4 n5 n6 s2 v2 v3 v4) Ap) (Ae PR Eu [k,(.agg (cV n1 b1 b2 s1 n2 n3 n4 n5 n6 s2 v2 v3 v4))] [.one .tv] i (fun (v5:TV) r=>(I1 v5 ((i64.wrap (c+(1:Int)))) b f r/\M1 v5 ((i64.wrap (c+(1:Int)))) b f r<M1 k c b f i))))))) (AF 118 15 192 k 1 [.int .i64 3,(.str []),.int .i64 0,.bool false,.bool false,(.str []),.int .i64 0,.int .i64 0,.int .i64 0,.int .i64 0,.int .i64 0,(.str []),.nilSlice,.nilSlice,.nilSlice] i (fun (v6:TV) b7=>K v6 b7)))))) (BId (v_0=7) (AF 118 15 192 l 1 [.int .i64 4,(.str []),.int .i64 0,.bool false,.bool false,(.str []),.int .i64 0,.int .i64 0,.int .i64 0,.int .i64 0,.int .i64 0,(.str []),.nilSlice,.nilSlice,.nilSlice] st (fun (v7:TV) a9=>need (isSl v_12) (∃(I2:TV->Int->TV->Int->St->Prop) (M2:TV->Int->TV->Int->St->Nat),(I2 v7 0 v_12 ((lenS v_12:Int)) a9)/\∀j d a e g,I2 j d a e g->(BId (d<e) (((0<=d/\d<(lenZ 14 a:Int))/\Af ((Aj g [] (.t (ixT 14 a d.toNat)) 0 14).map TV.agg) (fun (x2:TV)=>AU [.str,.int .i64,.bool,.bool,.str,.int .i64,.int .i64,.int .i64,.int .i64,.int .i64,.str,.tv,.tv,.tv] x2 (fun (s3:B8) (n7:Int) (b3 b4:Bool) (s4:B8) (n8 n9 a1 y u:Int) (s5:B8) (v8 v9 m:TV)=>need (List.all [.str s3,.int .i64 n7,.bool b3,.bool b4,.str s4,.int .i64 n8,.int .i64 n9,.int .i64 a1,.int .i64 y,.int .i64 u,.str s5,v8,v9,m] Ap) (AF 118 15 192 j 1 [.int .i64 6,.str s3,.int .i64 0,.bool false,.bool false,(.str []),.int .i64 0,.int .i64 0,.int .i64 0,.int .i64 0,.int .i64 0,(.str []),.nilSlice,.nilSlice,.nilSlice] g (fun (b8:TV) b0=>Ae PR Eu [b8,(.agg (cV n7 b3 b4 s4 n8 n9 a1 y u s5 v8 v9 m))] [.one .tv] b0 (fun (w:TV) v=>(I2 w ((i64.wrap (d+(1:Int)))) a e v/\M2 w ((i64.wrap (d+(1:Int)))) a e v<M2 j d a e g)))))))) (AF 118 15 192 j 1 [.int .i64 5,(.str []),.int .i64 0,.bool false,.bool false,(.str []),.int .i64 0,.int .i64 0,.int .i64 0,.int .i64 0,.int .i64 0,(.str []),.nilSlice,.nilSlice,.nilSlice] g (fun (a6:TV) a7=>K a6 a7)))))) (Ae PR Gk [(.agg (cV v_0 b a v_3 v_4 v_5 v_6 v_7 v_8 v_9 v_10 v_11 v_12))] [sV] st (fun (p:Int) (b5 b6:Bool) (s6:B8) (a0 s o n a2:Int) (s7:B8) (x q z:TV) a3=>need (List.all [.int .i64 1,(.str []),.int .i64 p,.bool b5,.bool b6,.str s6,.int .i64 a0,.int .i64 s,.int .i64 o,.int .i64 n,.int .i64 a2,.str s7,x,q,z] Ap) (AF 118 15 192 l 1 [.int .i64 1,(.str []),.int .i64 p,.bool b5,.bool b6,.str s6,.int .i64 a0,.int .i64 s,.int .i64 o,.int .i64 n,.int .i64 a2,.str s7,x,q,z] a3 (fun (a8:TV) a4=>K a8 a4)))))):Ae PR Eu [l,(.agg (cV v_0 b a v_3 v_4 v_5 v_6 v_7 v_8 v_9 v_10 v_11 v_12))] [.one .tv] st K:=
 Ak (cfg:=⟨[3,6,8],[],[]⟩) (h:=(.seq .none (.seq (.seq .none (.block (.seq .none (.cond (.seq .none (.seq (.seq .none (.block (.loop ⟨[(0,.tv),(20,.int .i64),(18,.tv),(19,.int .i64)],[],[],[]⟩ .none))) .none)) (.seq .none (.cond (.seq .none (.seq (.seq .none (.block (.loop ⟨[(0,.tv),(41,.int .i64),(39,.tv),(40,.int .i64)],[],[],[]⟩ .none))) .none)) .none)))))) .none))) mixed (fun _ _=>Tryz.call109 _ _) Tryz.func109 (by kernel_rfl) (by kernel_rfl) h
theorem Dd (b:Nat) (st:St) (K:B8->St->Prop) (h:Af (Ab st [] (.t (.box b 1)) 0) (fun (v1:TV)=>Af (MN v1) (fun (v2:TV)=>Af (Ab st [] (.t (.box b 1)) 0) (fun (v3:TV)=>need (isSl v3) (usK 5 v2 (lenS v3:Int) st (fun (s1:B8) a=>K s1 a)))))):Ae PR BX [(.box b 0)] [.one .str] st K:=
 Ak (cfg:=⟨[],[],[]⟩) (h:= .none) mixed (fun _ _=>Tryz.call123 _ _) Tryz.func123 (by kernel_rfl) (by kernel_rfl) h
theorem Oa (s:B8) (atx:Int) (st:St) (K:Int->Int->St->Prop) (h:BId (atx<0) (K 0 0 st) (BId ((s.length:Int)<=atx) (K 0 0 st) (((0<=atx/\atx<(s.length:Int))/\Ae PR Ij [(.int .u8 ((List.getD s atx.toNat 0).toNat:Int))] [.one (.int .i64),.one (.int .i64)] st (fun (n1 n2:Int) g=>BId (n1=0) (K 0 0 g) (BId ((i64.wrap ((s.length:Int)-atx))<n1) (K 0 0 g) (∃(I1:Int->Int->B8->Int->Int->St->Prop) (M1:Int->Int->B8->Int->Int->St->Nat),(I1 n2 1 s atx n1 g)/\∀e b c a d f,I1 e b c a d f->(BId (b<d) (((0<=(i64.wrap (a+b))/\(i64.wrap (a+b))<(c.length:Int))/\BId ((Cz .and .u8 ((List.getD c (Int.toNat (i64.wrap (a+b))) 0).toNat:Int) (192:Int))≠(128:Int)) (K 0 0 f) ((I1 ((Cz .or .i64 (i64.wrap (e*2^(min (Int.toNat (6:Int)) (IntKind.bits .i64)))) (i64.wrap (Cz .and .u8 ((List.getD c (Int.toNat (i64.wrap (a+b))) 0).toNat:Int) (63:Int))))) ((i64.wrap (b+(1:Int)))) c a d f/\M1 ((Cz .or .i64 (i64.wrap (e*2^(min (Int.toNat (6:Int)) (IntKind.bits .i64)))) (i64.wrap (Cz .and .u8 ((List.getD c (Int.toNat (i64.wrap (a+b))) 0).toNat:Int) (63:Int))))) ((i64.wrap (b+(1:Int)))) c a d f<M1 e b c a d f)))) (Ae PR Gm [.int .i64 e] [.one .bool] f (fun (b1:Bool) i=>BIf (!b1) (K 0 0 i) (Ae PR He [.int .i64 e] [.one (.int .i64)] i (fun (n3:Int) j=>BId (n3≠d) (K 0 0 j) (K e d j))))))))))))):Ae PR El [.str s,.int .i64 atx] [.one (.int .i64),.one (.int .i64)] st K:=
 Ak (cfg:=⟨[],[],[]⟩) (h:=(.seq .none (.seq .none (.seq .none (.seq .none (.seq (.seq .none (.block (.loop ⟨[(4,.int .i64),(7,.int .i64),(0,.str),(1,.int .i64),(6,.int .i64)],[],[],[]⟩ .none))) .none)))))) mixed (fun _ _=>Tryz.call133 _ _) Tryz.func133 (by kernel_rfl) (by kernel_rfl) h
theorem HF (s:B8) (st:St) (K:Bool->St->Prop) (h:∃(C1:Int->B8->Int->Int->St->Prop),(((0<=(0:Int)/\(0:Int)<(s.length:Int))/\BId ((194:Int)<=((List.getD s (Int.toNat (0:Int)) 0).toNat:Int)) (BId (((List.getD s (Int.toNat (0:Int)) 0).toNat:Int)<=(223:Int)) (C1 2 s 128 191 st) (BId ((224:Int)<=((List.getD s (Int.toNat (0:Int)) 0).toNat:Int)) (BId (((List.getD s (Int.toNat (0:Int)) 0).toNat:Int)<=(239:Int)) (C1 3 s 128 191 st) (BId ((240:Int)<=((List.getD s (Int.toNat (0:Int)) 0).toNat:Int)) (BId (((List.getD s (Int.toNat (0:Int)) 0).toNat:Int)<=(244:Int)) (C1 4 s 128 191 st) (C1 0 s 128 191 st)) (C1 0 s 128 191 st))) (BId ((240:Int)<=((List.getD s (Int.toNat (0:Int)) 0).toNat:Int)) (BId (((List.getD s (Int.toNat (0:Int)) 0).toNat:Int)<=(244:Int)) (C1 4 s 128 191 st) (C1 0 s 128 191 st)) (C1 0 s 128 191 st)))) (BId ((224:Int)<=((List.getD s (Int.toNat (0:Int)) 0).toNat:Int)) (BId (((List.getD s (Int.toNat (0:Int)) 0).toNat:Int)<=(239:Int)) (C1 3 s 128 191 st) (BId ((240:Int)<=((List.getD s (Int.toNat (0:Int)) 0).toNat:Int)) (BId (((List.getD s (Int.toNat (0:Int)) 0).toNat:Int)<=(244:Int)) (C1 4 s 128 191 st) (C1 0 s 128 191 st)) (C1 0 s 128 191 st))) (BId ((240:Int)<=((List.getD s (Int.toNat (0:Int)) 0).toNat:Int)) (BId (((List.getD s (Int.toNat (0:Int)) 0).toNat:Int)<=(244:Int)) (C1 4 s 128 191 st) (C1 0 s 128 191 st)) (C1 0 s 128 191 st)))))/\∀c a d e b,C1 c a d e b->(((0<=(0:Int)/\(0:Int)<(a.length:Int))/\BId (((List.getD a (Int.toNat (0:Int)) 0).toNat:Int)=(224:Int)) (BId (c<=(a.length:Int)) (K false b) (BId ((1:Int)<(a.length:Int)) (((0<=(1:Int)/\(1:Int)<(a.length:Int))/\BId (((List.getD a (Int.toNat (1:Int)) 0).toNat:Int)<(160:Int)) (K false b) (((0<=(1:Int)/\(1:Int)<(a.length:Int))/\BId (e<((List.getD a (Int.toNat (1:Int)) 0).toNat:Int)) (K false b) (BId ((a.length:Int)<(3:Int)) (K true b) (((0<=(2:Int)/\(2:Int)<(a.length:Int))/\BId ((128:Int)<=((List.getD a (Int.toNat (2:Int)) 0).toNat:Int)) (((0<=(2:Int)/\(2:Int)<(a.length:Int))/\K ((decide (((List.getD a (Int.toNat (2:Int)) 0).toNat:Int)<=(191:Int)))) b)) (K false b)))))))) (BId ((a.length:Int)<(3:Int)) (K true b) (((0<=(2:Int)/\(2:Int)<(a.length:Int))/\BId ((128:Int)<=((List.getD a (Int.toNat (2:Int)) 0).toNat:Int)) (((0<=(2:Int)/\(2:Int)<(a.length:Int))/\K ((decide (((List.getD a (Int.toNat (2:Int)) 0).toNat:Int)<=(191:Int)))) b)) (K false b)))))) (BId (((List.getD a (Int.toNat (0:Int)) 0).toNat:Int)=(237:Int)) (BId (c<=(a.length:Int)) (K false b) (BId ((1:Int)<(a.length:Int)) (((0<=(1:Int)/\(1:Int)<(a.length:Int))/\BId (((List.getD a (Int.toNat (1:Int)) 0).toNat:Int)<d) (K false b) (((0<=(1:Int)/\(1:Int)<(a.length:Int))/\BId ((159:Int)<((List.getD a (Int.toNat (1:Int)) 0).toNat:Int)) (K false b) (BId ((a.length:Int)<(3:Int)) (K true b) (((0<=(2:Int)/\(2:Int)<(a.length:Int))/\BId ((128:Int)<=((List.getD a (Int.toNat (2:Int)) 0).toNat:Int)) (((0<=(2:Int)/\(2:Int)<(a.length:Int))/\K ((decide (((List.getD a (Int.toNat (2:Int)) 0).toNat:Int)<=(191:Int)))) b)) (K false b)))))))) (BId ((a.length:Int)<(3:Int)) (K true b) (((0<=(2:Int)/\(2:Int)<(a.length:Int))/\BId ((128:Int)<=((List.getD a (Int.toNat (2:Int)) 0).toNat:Int)) (((0<=(2:Int)/\(2:Int)<(a.length:Int))/\K ((decide (((List.getD a (Int.toNat (2:Int)) 0).toNat:Int)<=(191:Int)))) b)) (K false b)))))) (BId (((List.getD a (Int.toNat (0:Int)) 0).toNat:Int)=(240:Int)) (BId (c<=(a.length:Int)) (K false b) (BId ((1:Int)<(a.length:Int)) (((0<=(1:Int)/\(1:Int)<(a.length:Int))/\BId (((List.getD a (Int.toNat (1:Int)) 0).toNat:Int)<(144:Int)) (K false b) (((0<=(1:Int)/\(1:Int)<(a.length:Int))/\BId (e<((List.getD a (Int.toNat (1:Int)) 0).toNat:Int)) (K false b) (BId ((a.length:Int)<(3:Int)) (K true b) (((0<=(2:Int)/\(2:Int)<(a.length:Int))/\BId ((128:Int)<=((List.getD a (Int.toNat (2:Int)) 0).toNat:Int)) (((0<=(2:Int)/\(2:Int)<(a.length:Int))/\K ((decide (((List.getD a (Int.toNat (2:Int)) 0).toNat:Int)<=(191:Int)))) b)) (K false b)))))))) (BId ((a.length:Int)<(3:Int)) (K true b) (((0<=(2:Int)/\(2:Int)<(a.length:Int))/\BId ((128:Int)<=((List.getD a (Int.toNat (2:Int)) 0).toNat:Int)) (((0<=(2:Int)/\(2:Int)<(a.length:Int))/\K ((decide (((List.getD a (Int.toNat (2:Int)) 0).toNat:Int)<=(191:Int)))) b)) (K false b)))))) (BId (((List.getD a (Int.toNat (0:Int)) 0).toNat:Int)=(244:Int)) (BId (c<=(a.length:Int)) (K false b) (BId ((1:Int)<(a.length:Int)) (((0<=(1:Int)/\(1:Int)<(a.length:Int))/\BId (((List.getD a (Int.toNat (1:Int)) 0).toNat:Int)<d) (K false b) (((0<=(1:Int)/\(1:Int)<(a.length:Int))/\BId ((143:Int)<((List.getD a (Int.toNat (1:Int)) 0).toNat:Int)) (K false b) (BId ((a.length:Int)<(3:Int)) (K true b) (((0<=(2:Int)/\(2:Int)<(a.length:Int))/\BId ((128:Int)<=((List.getD a (Int.toNat (2:Int)) 0).toNat:Int)) (((0<=(2:Int)/\(2:Int)<(a.length:Int))/\K ((decide (((List.getD a (Int.toNat (2:Int)) 0).toNat:Int)<=(191:Int)))) b)) (K false b)))))))) (BId ((a.length:Int)<(3:Int)) (K true b) (((0<=(2:Int)/\(2:Int)<(a.length:Int))/\BId ((128:Int)<=((List.getD a (Int.toNat (2:Int)) 0).toNat:Int)) (((0<=(2:Int)/\(2:Int)<(a.length:Int))/\K ((decide (((List.getD a (Int.toNat (2:Int)) 0).toNat:Int)<=(191:Int)))) b)) (K false b)))))) (BId (c<=(a.length:Int)) (K false b) (BId ((1:Int)<(a.length:Int)) (((0<=(1:Int)/\(1:Int)<(a.length:Int))/\BId (((List.getD a (Int.toNat (1:Int)) 0).toNat:Int)<d) (K false b) (((0<=(1:Int)/\(1:Int)<(a.length:Int))/\BId (e<((List.getD a (Int.toNat (1:Int)) 0).toNat:Int)) (K false b) (BId ((a.length:Int)<(3:Int)) (K true b) (((0<=(2:Int)/\(2:Int)<(a.length:Int))/\BId ((128:Int)<=((List.getD a (Int.toNat (2:Int)) 0).toNat:Int)) (((0<=(2:Int)/\(2:Int)<(a.length:Int))/\K ((decide (((List.getD a (Int.toNat (2:Int)) 0).toNat:Int)<=(191:Int)))) b)) (K false b)))))))) (BId ((a.length:Int)<(3:Int)) (K true b) (((0<=(2:Int)/\(2:Int)<(a.length:Int))/\BId ((128:Int)<=((List.getD a (Int.toNat (2:Int)) 0).toNat:Int)) (((0<=(2:Int)/\(2:Int)<(a.length:Int))/\K ((decide (((List.getD a (Int.toNat (2:Int)) 0).toNat:Int)<=(191:Int)))) b)) (K false b)))))))))))):Ae PR Bv [.str s] [.one .bool] st K:=
 Ak (cfg:=⟨[],[],[]⟩) (h:=(.seq .none (.seq .none (.cut ⟨[(3,.int .i64),(0,.str),(4,.int .u8),(5,.int .u8)],[],[],[]⟩ .none .none)))) mixed (fun _ _=>Tryz.call134 _ _) Tryz.func134 (by kernel_rfl) (by kernel_rfl) h
theorem EY (r:Nat) (atx:Int) (st:St) (K:St->Prop) (h:stB st (.box r 20) [.int .i64 atx] (fun a=>Af (Ab a [] (.t (.box r 12)) 0) (fun (x1:TV)=>Ah .bool x1 (fun (b1:Bool)=>BIf (!b1) (stB a (.box r 12) [.bool true] (fun a5=>stB a5 (.box r 14) [.int .i64 0] (fun a1=>Ae PR Ar [(.box r 0)] [.one .bool] a1 (fun (b2:Bool) b=>BIf (!b2) (Ae PR Av [(.box r 0),.int .i64 2] [] b (fun (c:St)=>Af (Ab c [] (.t (.box r 13)) 0) (fun (x2:TV)=>Ah (.int .i64) x2 (fun (n1:Int)=>BId ((0:Int)<n1) (Af (Ab c [] (.t (.box r 14)) 0) (fun (x3:TV)=>Ah (.int .i64) x3 (fun (n2:Int)=>Af (Ab c [] (.t (.box r 15)) 0) (fun (x4:TV)=>Ah (.int .i64) x4 (fun (n3:Int)=>BId (n3<=n2) (Ae PR AL [(.box r 0),.int .i64 10] [] c (fun (a3:St)=>Ae PR Ar [(.box r 0)] [.one .bool] a3 (fun (b3:Bool) m=>BIf (!b3) (Ae PR Av [(.box r 0),.int .i64 3] [] m (fun (a2:St)=>K a2)) (K m)))) (Ae PR Ar [(.box r 0)] [.one .bool] c (fun (b4:Bool) l=>BIf (!b4) (Ae PR Av [(.box r 0),.int .i64 3] [] l (fun (p:St)=>K p)) (K l)))))))) (Ae PR Ar [(.box r 0)] [.one .bool] c (fun (b5:Bool) j=>BIf (!b5) (Ae PR Av [(.box r 0),.int .i64 3] [] j (fun (v:St)=>K v)) (K j))))))) (Af (Ab b [] (.t (.box r 13)) 0) (fun (x5:TV)=>Ah (.int .i64) x5 (fun (n4:Int)=>BId ((0:Int)<n4) (Af (Ab b [] (.t (.box r 14)) 0) (fun (x6:TV)=>Ah (.int .i64) x6 (fun (n5:Int)=>Af (Ab b [] (.t (.box r 15)) 0) (fun (x7:TV)=>Ah (.int .i64) x7 (fun (n6:Int)=>BId (n6<=n5) (Ae PR AL [(.box r 0),.int .i64 10] [] b (fun (o:St)=>Ae PR Ar [(.box r 0)] [.one .bool] o (fun (b6:Bool) g=>BIf (!b6) (Ae PR Av [(.box r 0),.int .i64 3] [] g (fun (n:St)=>K n)) (K g)))) (Ae PR Ar [(.box r 0)] [.one .bool] b (fun (b7:Bool) i=>BIf (!b7) (Ae PR Av [(.box r 0),.int .i64 3] [] i (fun (x:St)=>K x)) (K i)))))))) (Ae PR Ar [(.box r 0)] [.one .bool] b (fun (b8:Bool) d=>BIf (!b8) (Ae PR Av [(.box r 0),.int .i64 3] [] d (fun (q:St)=>K q)) (K d)))))))))) (Af (Ab a [] (.t (.box r 13)) 0) (fun (x8:TV)=>Ah (.int .i64) x8 (fun (n7:Int)=>BId ((0:Int)<n7) (Af (Ab a [] (.t (.box r 14)) 0) (fun (x9:TV)=>Ah (.int .i64) x9 (fun (n8:Int)=>Af (Ab a [] (.t (.box r 15)) 0) (fun (z:TV)=>Ah (.int .i64) z (fun (n9:Int)=>BId (n9<=n8) (Ae PR AL [(.box r 0),.int .i64 10] [] a (fun (s:St)=>Ae PR Ar [(.box r 0)] [.one .bool] s (fun (b9:Bool) e=>BIf (!b9) (Ae PR Av [(.box r 0),.int .i64 3] [] e (fun (y:St)=>K y)) (K e)))) (Ae PR Ar [(.box r 0)] [.one .bool] a (fun (a4:Bool) k=>BIf (!a4) (Ae PR Av [(.box r 0),.int .i64 3] [] k (fun (u:St)=>K u)) (K k)))))))) (Ae PR Ar [(.box r 0)] [.one .bool] a (fun (a0:Bool) f=>BIf (!a0) (Ae PR Av [(.box r 0),.int .i64 3] [] f (fun (w:St)=>K w)) (K f)))))))))):Ae PR AY [(.box r 0),.int .i64 atx] [] st K:=
 Ak (cfg:=⟨[],[],[]⟩) (h:= .none) mixed (fun _ _=>Tryz.call135 _ _) Tryz.func135 (by kernel_rfl) (by kernel_rfl) h
theorem Fu (r:Nat) (c:Int) (st:St) (K:St->Prop) (h:Af (Ab st [] (.t (.box r 0)) 0) (fun (v1:TV)=>Af ((toBytes Fg (.list 1 .full 1 [.int .u8 c])).map TV.str) (fun (x2:TV)=>Ah .str x2 (fun (s1:B8)=>Ae PR CE [v1,.str s1] [.one (.int .i64)] st (fun (n1:Int) a=>BId (n1≠0) (Af (Ab a [] (.t (.box r 20)) 0) (fun (x3:TV)=>Ah (.int .i64) x3 (fun (n2:Int)=>Ae PR Ai [(.box r 0),.int .i64 n2,.int .i64 28] [] a (fun (b:St)=>K b)))) (K a)))))):Ae PR AG [(.box r 0),.int .u8 c] [] st K:=
 Ak (cfg:=⟨[],[],[7]⟩) (h:= .none) mixed (fun _ _=>Tryz.call136 _ _) Tryz.func136 (by kernel_rfl) (by kernel_rfl) h
theorem Eq (r:Nat) (c:Int) (atx:Int) (st:St) (K:St->Prop) (h:Af (Ab st [] (.t (.box r 1)) 0) (fun (x1:TV)=>Ah (.int .u8) x1 (fun (n1:Int)=>BId (c=n1) (BId (c=n1) (Ae PR AM [(.box r 0),.int .u8 c,.int .i64 atx] [] st (fun (i:St)=>K i)) (Af (Ab st [] (.t (.box r 2)) 0) (fun (x2:TV)=>Ah (.int .u8) x2 (fun (n2:Int)=>BId (c=n2) (Af (Ab st [] (.t (.box r 22)) 0) (fun (x3:TV)=>Ah (.int .i64) x3 (fun (n3:Int)=>BId (n3≠0) (Af (Ab st [] (.t (.box r 20)) 0) (fun (x4:TV)=>Ah (.int .i64) x4 (fun (n4:Int)=>Af (Ab st [] (.t (.box r 22)) 0) (fun (x5:TV)=>Ah (.int .i64) x5 (fun (n5:Int)=>Ae PR Ai [(.box r 0),.int .i64 n4,.int .i64 n5] [] st (fun (x:St)=>Ae PR Ai [(.box r 0),.int .i64 atx,.int .i64 3] [] x (fun (l:St)=>K l))))))) (Ae PR Ai [(.box r 0),.int .i64 atx,.int .i64 3] [] st (fun (w:St)=>K w))))) (Ae PR AG [(.box r 0),.int .u8 c] [] st (fun (u:St)=>K u)))))) (BId (c=10) (BId (c=10) (Ae PR AM [(.box r 0),.int .u8 c,.int .i64 atx] [] st (fun (o:St)=>K o)) (Af (Ab st [] (.t (.box r 2)) 0) (fun (x6:TV)=>Ah (.int .u8) x6 (fun (n6:Int)=>BId (c=n6) (Af (Ab st [] (.t (.box r 22)) 0) (fun (x7:TV)=>Ah (.int .i64) x7 (fun (n7:Int)=>BId (n7≠0) (Af (Ab st [] (.t (.box r 20)) 0) (fun (x8:TV)=>Ah (.int .i64) x8 (fun (n8:Int)=>Af (Ab st [] (.t (.box r 22)) 0) (fun (x9:TV)=>Ah (.int .i64) x9 (fun (n9:Int)=>Ae PR Ai [(.box r 0),.int .i64 n8,.int .i64 n9] [] st (fun (v:St)=>Ae PR Ai [(.box r 0),.int .i64 atx,.int .i64 3] [] v (fun (m:St)=>K m))))))) (Ae PR Ai [(.box r 0),.int .i64 atx,.int .i64 3] [] st (fun (p:St)=>K p))))) (Ae PR AG [(.box r 0),.int .u8 c] [] st (fun (e:St)=>K e)))))) (BId (c=13) (Ae PR AM [(.box r 0),.int .u8 c,.int .i64 atx] [] st (fun (f:St)=>K f)) (Af (Ab st [] (.t (.box r 2)) 0) (fun (k:TV)=>Ah (.int .u8) k (fun (y:Int)=>BId (c=y) (Af (Ab st [] (.t (.box r 22)) 0) (fun (z:TV)=>Ah (.int .i64) z (fun (q:Int)=>BId (q≠0) (Af (Ab st [] (.t (.box r 20)) 0) (fun (s:TV)=>Ah (.int .i64) s (fun (n:Int)=>Af (Ab st [] (.t (.box r 22)) 0) (fun (a0:TV)=>Ah (.int .i64) a0 (fun (j:Int)=>Ae PR Ai [(.box r 0),.int .i64 n,.int .i64 j] [] st (fun (g:St)=>Ae PR Ai [(.box r 0),.int .i64 atx,.int .i64 3] [] g (fun (d:St)=>K d))))))) (Ae PR Ai [(.box r 0),.int .i64 atx,.int .i64 3] [] st (fun (b:St)=>K b))))) (Ae PR AG [(.box r 0),.int .u8 c] [] st (fun (a:St)=>K a)))))))))):Ae PR Be [(.box r 0),.int .u8 c,.int .i64 atx] [] st K:=
 Ak (cfg:=⟨[],[],[39,43]⟩) (h:= .none) mixed (fun _ _=>Tryz.call137 _ _) Tryz.func137 (by kernel_rfl) (by kernel_rfl) h
theorem E3 (r:Nat) (c:Int) (atx:Int) (st:St) (K:St->Prop) (h:Ae PR Az [(.box r 0)] [] st (fun (a:St)=>Af (Ab a [] (.t (.box r 28)) 0) (fun (x1:TV)=>Ah (.int .i64) x1 (fun (n1:Int)=>BId (n1≠0) (K a) (Af (Ab a [] (.t (.box r 1)) 0) (fun (x2:TV)=>Ah (.int .u8) x2 (fun (n2:Int)=>BId (c=n2) (stB a (.box r 10) [.int .i64 0] (fun g=>K g)) (BId (c=10) (Ae PR Ax [(.box r 0),.int .i64 atx] [] a (fun (f:St)=>K f)) (BId (c=13) (stB a (.box r 10) [.int .i64 4] (fun e=>stB e (.box r 21) [.int .i64 atx] (fun b=>K b))) (Ae PR Ai [(.box r 0),.int .i64 atx,.int .i64 3] [] a (fun (d:St)=>K d))))))))))):Ae PR AM [(.box r 0),.int .u8 c,.int .i64 atx] [] st K:=
 Ak (cfg:=⟨[],[],[]⟩) (h:= .none) mixed (fun _ _=>Tryz.call138 _ _) Tryz.func138 (by kernel_rfl) (by kernel_rfl) h
theorem Fv (r:Nat) (off:Int) (e:Int) (st:St) (K:St->Prop) (h:Af (Ab st [] (.t (.box r 28)) 0) (fun (x1:TV)=>Ah (.int .i64) x1 (fun (n1:Int)=>BId (n1=0) (stB st (.box r 27) [.int .i64 off] (fun g=>stB g (.box r 28) [.int .i64 e] (fun a=>Af (Ab a [] (.t (.box r 0)) 0) (fun (v1:TV)=>Af (Ab a [] (.t (.box r 0)) 0) (fun (v2:TV)=>Ae PR AV [v2] [.one (.int .i64)] a (fun (n2:Int) f=>(Ab f [] (.t (.box r 0)) 0=some v1/\Ae PR AO [v1,.int .i64 n2] [.one .str,.one (.int .i64)] f (fun (s1:B8) (n3:Int) d=>(Ab d [] (.t (.box r 0)) 0=some v2/\K d))))))))) (Af (Ab st [] (.t (.box r 0)) 0) (fun (v3:TV)=>Af (Ab st [] (.t (.box r 0)) 0) (fun (v4:TV)=>Ae PR AV [v4] [.one (.int .i64)] st (fun (n4:Int) b=>(Ab b [] (.t (.box r 0)) 0=some v3/\Ae PR AO [v3,.int .i64 n4] [.one .str,.one (.int .i64)] b (fun (s2:B8) (n5:Int) c=>(Ab c [] (.t (.box r 0)) 0=some v4/\K c)))))))))):Ae PR Ai [(.box r 0),.int .i64 off,.int .i64 e] [] st K:=
 Ak (cfg:=⟨[],[],[22,26]⟩) (h:= .none) mixed (fun _ _=>Tryz.call139 _ _) Tryz.func139 (by kernel_rfl) (by kernel_rfl) h
theorem EF (r:Nat) (atx:Int) (st:St) (K:St->Prop) (h:Af (Ab st [] (.t (.box r 28)) 0) (fun (x1:TV)=>Ah (.int .i64) x1 (fun (n1:Int)=>BId (n1≠0) (K st) (∃(C1:TV->Int->St->Prop),(Af (Ab st [] (.t (.box r 13)) 0) (fun (x2:TV)=>Ah (.int .i64) x2 (fun (n2:Int)=>BId (n2=0) (Af (Ab st [] (.t (.box r 14)) 0) (fun (x3:TV)=>Ah (.int .i64) x3 (fun (n3:Int)=>stB st (.box r 15) [.int .i64 n3] (fun p=>stB p (.box r 18) [.bool true] (fun x=>C1 ((.box r 0)) atx x))))) (C1 ((.box r 0)) atx st))))/\∀a e c,C1 a e c->(need (isPtr a) (need (isPtr a) (Af (Ab c [] (.t (Ag a 14)) 0) (fun (x4:TV)=>Ah (.int .i64) x4 (fun (n4:Int)=>need (isPtr a) (need (isPtr a) (Af (Ab c [] (.t (Ag a 15)) 0) (fun (x5:TV)=>Ah (.int .i64) x5 (fun (n5:Int)=>BId (n4<n5) (Ae PR Ai [a,.int .i64 e,.int .i64 10] [] c (fun (w:St)=>K w)) (Ae PR Ar [a] [.one .bool] c (fun (b1:Bool) b=>BIf (!b1) (need (isPtr a) (need (isPtr a) (need (isPtr (Ag a 1)) (Af (Ab b [] (.t (Ag (Ag a 1) 2)) 0) (fun (x6:TV)=>Ah .bool x6 (fun (b2:Bool)=>BIf b2 (need (isPtr a) (need (isPtr a) (Af (Ab b [] (.t (Ag a 26)) 0) (fun (v1:TV)=>AF 118 15 192 v1 1 [.int .i64 5,(.str []),.int .i64 0,.bool false,.bool false,(.str []),.int .i64 0,.int .i64 0,.int .i64 0,.int .i64 0,.int .i64 0,(.str []),.nilSlice,.nilSlice,.nilSlice] b (fun (v2:TV) u=>need (isPtr a) (need (isPtr a) (need (List.all [v2] Ap) (stB u (Ag a 26) [v2] (fun f=>need (isPtr a) (need (isPtr a) (Af (Ab f [] (.t (Ag a 13)) 0) (fun (x8:TV)=>Ah (.int .i64) x8 (fun (n6:Int)=>need (isPtr a) (need (isPtr a) (stB f (Ag a 13) [(.int .i64 (i64.wrap (n6+(1:Int))))] (fun s=>need (isPtr a) (need (isPtr a) (stB s (Ag a 12) [.bool false] (fun v=>need (isPtr a) (need (isPtr a) (stB v (Ag a 10) [.int .i64 0] (fun m=>K m)))))))))))))))))))))) (need (isPtr a) (need (isPtr a) (Af (Ab b [] (.t (Ag a 26)) 0) (fun (v3:TV)=>AF 118 15 192 v3 1 [.int .i64 3,(.str []),.int .i64 0,.bool false,.bool false,(.str []),.int .i64 0,.int .i64 0,.int .i64 0,.int .i64 0,.int .i64 0,(.str []),.nilSlice,.nilSlice,.nilSlice] b (fun (v4:TV) n=>need (isPtr a) (need (isPtr a) (need (List.all [v4] Ap) (stB n (Ag a 26) [v4] (fun d=>need (isPtr a) (need (isPtr a) (Af (Ab d [] (.t (Ag a 13)) 0) (fun (q:TV)=>Ah (.int .i64) q (fun (n7:Int)=>need (isPtr a) (need (isPtr a) (stB d (Ag a 13) [(.int .i64 (i64.wrap (n7+(1:Int))))] (fun k=>need (isPtr a) (need (isPtr a) (stB k (Ag a 12) [.bool false] (fun j=>need (isPtr a) (need (isPtr a) (stB j (Ag a 10) [.int .i64 0] (fun g=>K g)))))))))))))))))))))))))))) (need (isPtr a) (need (isPtr a) (Af (Ab b [] (.t (Ag a 13)) 0) (fun (y:TV)=>Ah (.int .i64) y (fun (n8:Int)=>need (isPtr a) (need (isPtr a) (stB b (Ag a 13) [(.int .i64 (i64.wrap (n8+(1:Int))))] (fun l=>need (isPtr a) (need (isPtr a) (stB l (Ag a 12) [.bool false] (fun o=>need (isPtr a) (need (isPtr a) (stB o (Ag a 10) [.int .i64 0] (fun i=>K i))))))))))))))))))))))))))))):Ae PR Ax [(.box r 0),.int .i64 atx] [] st K:=
 Ak (cfg:=⟨[],[],[]⟩) (h:=(.seq .none (.cut ⟨[(0,.tv),(1,.int .i64)],[],[],[]⟩ .none .none))) mixed (fun _ _=>Tryz.call140 _ _) Tryz.func140 (by kernel_rfl) (by kernel_rfl) h
theorem Fx (r:Nat) (st:St) (K:St->Prop) (h:Af (Ab st [] (.t (.box r 0)) 0) (fun (v1:TV)=>Af (Ab st [] (.t (.box r 0)) 0) (fun (v2:TV)=>Ae PR AV [v2] [.one (.int .i64)] st (fun (n1:Int) p2=>(Ab p2 [] (.t (.box r 0)) 0=some v1/\Ae PR AO [v1,.int .i64 n1] [.one .str,.one (.int .i64)] p2 (fun (s1:B8) (n2:Int) n=>(Ab n [] (.t (.box r 0)) 0=some v2/\Af (Ab n [] (.t (.box r 22)) 0) (fun (x3:TV)=>Ah (.int .i64) x3 (fun (n3:Int)=>BId (n3≠0) (Af (Ab n [] (.t (.box r 20)) 0) (fun (x4:TV)=>Ah (.int .i64) x4 (fun (n4:Int)=>Af (Ab n [] (.t (.box r 22)) 0) (fun (x5:TV)=>Ah (.int .i64) x5 (fun (n5:Int)=>Ae PR Ai [(.box r 0),.int .i64 n4,.int .i64 n5] [] n (fun (st3:St)=>K st3)))))) (BId (s1≠([]:B8)) (((0<=(0:Int)/\(0:Int)<(s1.length:Int))/\Af (Ab n [] (.t (.box r 2)) 0) (fun (x6:TV)=>Ah (.int .u8) x6 (fun (n6:Int)=>∃(C1:B8->TV->Bool->St->Prop),(BId (((List.getD s1 (Int.toNat (0:Int)) 0).toNat:Int)=n6) (Af (Ab n [] (.t (.box r 2)) 0) (fun (x7:TV)=>Ah (.int .u8) x7 (fun (n7:Int)=>Af ((toBytes n (.list 1 .full 1 [.int .u8 n7])).map TV.str) (fun (x8:TV)=>Ah .str x8 (fun (s2:B8)=>((0<=(1:Int)/\(1:Int)<=(i64.wrap ((s1.length:Int)-(1:Int)))/\(i64.wrap ((s1.length:Int)-(1:Int)))<=(s1.length:Int))/\(s2.length+s2.length<=9223372036854775807/\Ae PR CF [(.str (List.drop (Int.toNat (1:Int)) (List.take (Int.toNat (i64.wrap ((s1.length:Int)-(1:Int)))) s1))),(.str (s2++s2)),.str s2] [.one .str] n (fun (s3:B8) st4=>C1 s3 ((.box r 0)) ((decide (((List.getD s1 (Int.toNat (0:Int)) 0).toNat:Int)=n6))) st4)))))))) (C1 s1 ((.box r 0)) ((decide (((List.getD s1 (Int.toNat (0:Int)) 0).toNat:Int)=n6))) n))/\∀g b e m9,C1 g b e m9->(Ae PR Ar [b] [.one .bool] m9 (fun (b1:Bool) f=>BIf b1 (BId ((1024:Int)<(g.length:Int)) (need (isPtr b) (need (isPtr b) (Af (Ab f [] (.t (Ag b 20)) 0) (fun (x9:TV)=>Ah (.int .i64) x9 (fun (n8:Int)=>Ae PR Ai [b,.int .i64 n8,.int .i64 10] [] f (fun (r2:St)=>need (isPtr b) (need (isPtr b) (Af (Ab r2 [] (.t (Ag b 17)) 0) (fun (v3:TV)=>muK v3 g (.bool true) r2 (fun z6=>need (isPtr b) (need (isPtr b) (Af (Ab z6 [] (.t (Ag b 16)) 0) (fun (v4:TV)=>AF 9 1 16 v4 1 [.str g] z6 (fun (v5:TV) st9=>need (isPtr b) (need (isPtr b) (need (List.all [v5] Ap) (stB st9 (Ag b 16) [v5] (fun e4=>need (isPtr b) (need (isPtr b) (Af (Ab e4 [] (.t (Ag b 14)) 0) (fun (x12:TV)=>Ah (.int .i64) x12 (fun (n9:Int)=>need (isPtr b) (need (isPtr b) (stB e4 (Ag b 14) [(.int .i64 (i64.wrap (n9+(1:Int))))] (fun st11=>K st11))))))))))))))))))))))))) (need (isPtr b) (need (isPtr b) (Af (Ab f [] (.t (Ag b 17)) 0) (fun (v6:TV)=>Af (GN f v6) (fun (es1:List (B8×TV))=>Ah .bool (Ic (.bool false) (Cn g es1)) (fun (b2:Bool)=>BIf b2 (need (isPtr b) (need (isPtr b) (Af (Ab f [] (.t (Ag b 20)) 0) (fun (x14:TV)=>Ah (.int .i64) x14 (fun (n10:Int)=>Ae PR Ai [b,.int .i64 n10,.int .i64 8] [] f (fun (h3:St)=>need (isPtr b) (need (isPtr b) (Af (Ab h3 [] (.t (Ag b 17)) 0) (fun (v7:TV)=>muK v7 g (.bool true) h3 (fun g3=>need (isPtr b) (need (isPtr b) (Af (Ab g3 [] (.t (Ag b 16)) 0) (fun (v8:TV)=>AF 9 1 16 v8 1 [.str g] g3 (fun (v9:TV) st14=>need (isPtr b) (need (isPtr b) (need (List.all [v9] Ap) (stB st14 (Ag b 16) [v9] (fun h9=>need (isPtr b) (need (isPtr b) (Af (Ab h9 [] (.t (Ag b 14)) 0) (fun (x17:TV)=>Ah (.int .i64) x17 (fun (n11:Int)=>need (isPtr b) (need (isPtr b) (stB h9 (Ag b 14) [(.int .i64 (i64.wrap (n11+(1:Int))))] (fun st16=>K st16))))))))))))))))))))))))) (need (isPtr b) (need (isPtr b) (Af (Ab f [] (.t (Ag b 17)) 0) (fun (v10:TV)=>muK v10 g (.bool true) f (fun h5=>need (isPtr b) (need (isPtr b) (Af (Ab h5 [] (.t (Ag b 16)) 0) (fun (v11:TV)=>AF 9 1 16 v11 1 [.str g] h5 (fun (l7:TV) st18=>need (isPtr b) (need (isPtr b) (need (List.all [l7] Ap) (stB st18 (Ag b 16) [l7] (fun h1=>need (isPtr b) (need (isPtr b) (Af (Ab h1 [] (.t (Ag b 14)) 0) (fun (x20:TV)=>Ah (.int .i64) x20 (fun (n12:Int)=>need (isPtr b) (need (isPtr b) (stB h1 (Ag b 14) [(.int .i64 (i64.wrap (n12+(1:Int))))] (fun st20=>K st20))))))))))))))))))))))))))) (BId ((65536:Int)<(g.length:Int)) (need (isPtr b) (need (isPtr b) (Af (Ab f [] (.t (Ag b 20)) 0) (fun (x21:TV)=>Ah (.int .i64) x21 (fun (n13:Int)=>Ae PR Ai [b,.int .i64 n13,.int .i64 10] [] f (fun (st21:St)=>K st21)))))) (need (isPtr b) (need (isPtr b) (Af (Ab f [] (.t (Ag b 14)) 0) (fun (x22:TV)=>Ah (.int .i64) x22 (fun (n14:Int)=>BId (n14=0) (need (isPtr b) (need (isPtr b) (need (isPtr (Ag b 1)) (Af (Ab f [] (.t (Ag (Ag b 1) 2)) 0) (fun (x23:TV)=>Ah .bool x23 (fun (b3:Bool)=>BIf b3 (need (isPtr b) (need (isPtr b) (Af (Ab f [] (.t (Ag b 26)) 0) (fun (v13:TV)=>AF 118 15 192 v13 1 [.int .i64 4,(.str []),.int .i64 0,.bool false,.bool false,(.str []),.int .i64 0,.int .i64 0,.int .i64 0,.int .i64 0,.int .i64 0,(.str []),.nilSlice,.nilSlice,.nilSlice] f (fun (m8:TV) st22=>need (isPtr b) (need (isPtr b) (need (List.all [m8] Ap) (stB st22 (Ag b 26) [m8] (fun m=>need (isPtr b) (need (isPtr b) (need (isPtr (Ag b 1)) (Af (Ab m [] (.t (Ag (Ag b 1) 2)) 0) (fun (x25:TV)=>Ah .bool x25 (fun (b4:Bool)=>BIf b4 (need (isPtr b) (need (isPtr b) (Af (Ab m [] (.t (Ag b 26)) 0) (fun (v15:TV)=>need (isPtr b) (need (isPtr b) (Af (Ab m [] (.t (Ag b 16)) 0) (fun (t9:TV)=>need (isPtr b) (need (isPtr b) (Af (Ab m [] (.t (Ag b 14)) 0) (fun (x28:TV)=>Ah (.int .i64) x28 (fun (g4:Int)=>((0<=g4/\g4<(lenZ 1 t9:Int))/\Af (Ab m [] (.t (ixT 1 t9 g4.toNat)) 0) (fun (x29:TV)=>Ah .str x29 (fun (s4:B8)=>AF 118 15 192 v15 1 [.int .i64 6,.str s4,.int .i64 0,.bool false,.bool false,(.str []),.int .i64 0,.int .i64 0,.int .i64 0,.int .i64 0,.int .i64 0,(.str []),.nilSlice,.nilSlice,.nilSlice] m (fun (v17:TV) st24=>need (isPtr b) (need (isPtr b) (need (List.all [v17] Ap) (stB st24 (Ag b 26) [v17] (fun q=>need (isPtr b) (need (isPtr b) (Af (Ab q [] (.t (Ag b 26)) 0) (fun (o6:TV)=>need (isPtr b) (need (isPtr b) (Af ((Aj q [] (.t (Ag b 1)) 0 4).map TV.agg) (fun (x31:TV)=>AU [.int .u8,.int .u8,.bool,.bool] x31 (fun (n16 n17:Int) (b5 b6:Bool)=>Ae PR AE [.str g,.bool e,(.agg [.int .u8 n16,.int .u8 n17,.bool b5,.bool b6])] [sV] q (fun (p0:Int) (b7 b8:Bool) (s5:B8) (q6 p6 z7 j1 u2:Int) (s6:B8) (w1 q9 v21:TV) i2=>(Ab i2 [] (.t (Ag b 26)) 0=some o6/\need (List.all [.int .i64 1,(.str []),.int .i64 p0,.bool b7,.bool b8,.str s5,.int .i64 q6,.int .i64 p6,.int .i64 z7,.int .i64 j1,.int .i64 u2,.str s6,w1,q9,v21] Ap) (AF 118 15 192 o6 1 [.int .i64 1,(.str []),.int .i64 p0,.bool b7,.bool b8,.str s5,.int .i64 q6,.int .i64 p6,.int .i64 z7,.int .i64 j1,.int .i64 u2,.str s6,w1,q9,v21] i2 (fun (j5:TV) st27=>need (isPtr b) (need (isPtr b) (need (List.all [j5] Ap) (stB st27 (Ag b 26) [j5] (fun a8=>need (isPtr b) (need (isPtr b) (Af (Ab a8 [] (.t (Ag b 14)) 0) (fun (x32:TV)=>Ah (.int .i64) x32 (fun (n24:Int)=>need (isPtr b) (need (isPtr b) (stB a8 (Ag b 14) [(.int .i64 (i64.wrap (n24+(1:Int))))] (fun st29=>K st29))))))))))))))))))))))))))))))))))))))))) (need (isPtr b) (need (isPtr b) (Af (Ab m [] (.t (Ag b 26)) 0) (fun (j6:TV)=>need (isPtr b) (need (isPtr b) (Af ((Aj m [] (.t (Ag b 1)) 0 4).map TV.agg) (fun (x34:TV)=>AU [.int .u8,.int .u8,.bool,.bool] x34 (fun (n25 n26:Int) (b9 b10:Bool)=>Ae PR AE [.str g,.bool e,(.agg [.int .u8 n25,.int .u8 n26,.bool b9,.bool b10])] [sV] m (fun (n27:Int) (q5 r7:Bool) (s7:B8) (i8 p7 w0 n31 p4:Int) (s8:B8) (v24 j3 k7:TV) i1=>(Ab i1 [] (.t (Ag b 26)) 0=some j6/\need (List.all [.int .i64 1,(.str []),.int .i64 n27,.bool q5,.bool r7,.str s7,.int .i64 i8,.int .i64 p7,.int .i64 w0,.int .i64 n31,.int .i64 p4,.str s8,v24,j3,k7] Ap) (AF 118 15 192 j6 1 [.int .i64 1,(.str []),.int .i64 n27,.bool q5,.bool r7,.str s7,.int .i64 i8,.int .i64 p7,.int .i64 w0,.int .i64 n31,.int .i64 p4,.str s8,v24,j3,k7] i1 (fun (t4:TV) st31=>need (isPtr b) (need (isPtr b) (need (List.all [t4] Ap) (stB st31 (Ag b 26) [t4] (fun e2=>need (isPtr b) (need (isPtr b) (Af (Ab e2 [] (.t (Ag b 14)) 0) (fun (x35:TV)=>Ah (.int .i64) x35 (fun (n33:Int)=>need (isPtr b) (need (isPtr b) (stB e2 (Ag b 14) [(.int .i64 (i64.wrap (n33+(1:Int))))] (fun st33=>K st33))))))))))))))))))))))))))))))))))))) (need (isPtr b) (need (isPtr b) (Af (Ab f [] (.t (Ag b 26)) 0) (fun (v28:TV)=>AF 118 15 192 v28 1 [.int .i64 2,(.str []),.int .i64 0,.bool false,.bool false,(.str []),.int .i64 0,.int .i64 0,.int .i64 0,.int .i64 0,.int .i64 0,(.str []),.nilSlice,.nilSlice,.nilSlice] f (fun (u4:TV) st34=>need (isPtr b) (need (isPtr b) (need (List.all [u4] Ap) (stB st34 (Ag b 26) [u4] (fun j=>need (isPtr b) (need (isPtr b) (need (isPtr (Ag b 1)) (Af (Ab j [] (.t (Ag (Ag b 1) 2)) 0) (fun (x37:TV)=>Ah .bool x37 (fun (b13:Bool)=>BIf b13 (need (isPtr b) (need (isPtr b) (Af (Ab j [] (.t (Ag b 26)) 0) (fun (v30:TV)=>need (isPtr b) (need (isPtr b) (Af (Ab j [] (.t (Ag b 16)) 0) (fun (t5:TV)=>need (isPtr b) (need (isPtr b) (Af (Ab j [] (.t (Ag b 14)) 0) (fun (x40:TV)=>Ah (.int .i64) x40 (fun (c0:Int)=>((0<=c0/\c0<(lenZ 1 t5:Int))/\Af (Ab j [] (.t (ixT 1 t5 c0.toNat)) 0) (fun (x41:TV)=>Ah .str x41 (fun (s9:B8)=>AF 118 15 192 v30 1 [.int .i64 6,.str s9,.int .i64 0,.bool false,.bool false,(.str []),.int .i64 0,.int .i64 0,.int .i64 0,.int .i64 0,.int .i64 0,(.str []),.nilSlice,.nilSlice,.nilSlice] j (fun (y7:TV) st36=>need (isPtr b) (need (isPtr b) (need (List.all [y7] Ap) (stB st36 (Ag b 26) [y7] (fun u=>need (isPtr b) (need (isPtr b) (Af (Ab u [] (.t (Ag b 26)) 0) (fun (q1:TV)=>need (isPtr b) (need (isPtr b) (Af ((Aj u [] (.t (Ag b 1)) 0 4).map TV.agg) (fun (x43:TV)=>AU [.int .u8,.int .u8,.bool,.bool] x43 (fun (n35 n36:Int) (b14 b15:Bool)=>Ae PR AE [.str g,.bool e,(.agg [.int .u8 n35,.int .u8 n36,.bool b14,.bool b15])] [sV] u (fun (k1:Int) (o5 m3:Bool) (l3:B8) (z5 q2 p5 n41 n42:Int) (s11:B8) (u5 v35 o2:TV) h8=>(Ab h8 [] (.t (Ag b 26)) 0=some q1/\need (List.all [.int .i64 1,(.str []),.int .i64 k1,.bool o5,.bool m3,.str l3,.int .i64 z5,.int .i64 q2,.int .i64 p5,.int .i64 n41,.int .i64 n42,.str s11,u5,v35,o2] Ap) (AF 118 15 192 q1 1 [.int .i64 1,(.str []),.int .i64 k1,.bool o5,.bool m3,.str l3,.int .i64 z5,.int .i64 q2,.int .i64 p5,.int .i64 n41,.int .i64 n42,.str s11,u5,v35,o2] h8 (fun (y5:TV) st39=>need (isPtr b) (need (isPtr b) (need (List.all [y5] Ap) (stB st39 (Ag b 26) [y5] (fun a5=>need (isPtr b) (need (isPtr b) (Af (Ab a5 [] (.t (Ag b 14)) 0) (fun (x44:TV)=>Ah (.int .i64) x44 (fun (n43:Int)=>need (isPtr b) (need (isPtr b) (stB a5 (Ag b 14) [(.int .i64 (i64.wrap (n43+(1:Int))))] (fun st41=>K st41))))))))))))))))))))))))))))))))))))))))) (need (isPtr b) (need (isPtr b) (Af (Ab j [] (.t (Ag b 26)) 0) (fun (t0:TV)=>need (isPtr b) (need (isPtr b) (Af ((Aj j [] (.t (Ag b 1)) 0 4).map TV.agg) (fun (x46:TV)=>AU [.int .u8,.int .u8,.bool,.bool] x46 (fun (n44 n45:Int) (b18 b19:Bool)=>Ae PR AE [.str g,.bool e,(.agg [.int .u8 n44,.int .u8 n45,.bool b18,.bool b19])] [sV] j (fun (n46:Int) (z0 j9:Bool) (q0:B8) (r3 n48 t3 j8 l2:Int) (s0:B8) (m2 p3 v41:TV) e3=>(Ab e3 [] (.t (Ag b 26)) 0=some t0/\need (List.all [.int .i64 1,(.str []),.int .i64 n46,.bool z0,.bool j9,.str q0,.int .i64 r3,.int .i64 n48,.int .i64 t3,.int .i64 j8,.int .i64 l2,.str s0,m2,p3,v41] Ap) (AF 118 15 192 t0 1 [.int .i64 1,(.str []),.int .i64 n46,.bool z0,.bool j9,.str q0,.int .i64 r3,.int .i64 n48,.int .i64 t3,.int .i64 j8,.int .i64 l2,.str s0,m2,p3,v41] e3 (fun (m5:TV) st43=>need (isPtr b) (need (isPtr b) (need (List.all [m5] Ap) (stB st43 (Ag b 26) [m5] (fun e8=>need (isPtr b) (need (isPtr b) (Af (Ab e8 [] (.t (Ag b 14)) 0) (fun (x47:TV)=>Ah (.int .i64) x47 (fun (n52:Int)=>need (isPtr b) (need (isPtr b) (stB e8 (Ag b 14) [(.int .i64 (i64.wrap (n52+(1:Int))))] (fun st45=>K st45))))))))))))))))))))))))))))))))))))))))))) (need (isPtr b) (need (isPtr b) (need (isPtr (Ag b 1)) (Af (Ab f [] (.t (Ag (Ag b 1) 2)) 0) (fun (x48:TV)=>Ah .bool x48 (fun (b22:Bool)=>BIf b22 (need (isPtr b) (need (isPtr b) (Af (Ab f [] (.t (Ag b 26)) 0) (fun (v43:TV)=>need (isPtr b) (need (isPtr b) (Af (Ab f [] (.t (Ag b 16)) 0) (fun (k4:TV)=>need (isPtr b) (need (isPtr b) (Af (Ab f [] (.t (Ag b 14)) 0) (fun (x51:TV)=>Ah (.int .i64) x51 (fun (a3:Int)=>((0<=a3/\a3<(lenZ 1 k4:Int))/\Af (Ab f [] (.t (ixT 1 k4 a3.toNat)) 0) (fun (x52:TV)=>Ah .str x52 (fun (s14:B8)=>AF 118 15 192 v43 1 [.int .i64 6,.str s14,.int .i64 0,.bool false,.bool false,(.str []),.int .i64 0,.int .i64 0,.int .i64 0,.int .i64 0,.int .i64 0,(.str []),.nilSlice,.nilSlice,.nilSlice] f (fun (r8:TV) st46=>need (isPtr b) (need (isPtr b) (need (List.all [r8] Ap) (stB st46 (Ag b 26) [r8] (fun w=>need (isPtr b) (need (isPtr b) (Af (Ab w [] (.t (Ag b 26)) 0) (fun (o7:TV)=>need (isPtr b) (need (isPtr b) (Af ((Aj w [] (.t (Ag b 1)) 0 4).map TV.agg) (fun (x54:TV)=>AU [.int .u8,.int .u8,.bool,.bool] x54 (fun (n54 n55:Int) (b23 b24:Bool)=>Ae PR AE [.str g,.bool e,(.agg [.int .u8 n54,.int .u8 n55,.bool b23,.bool b24])] [sV] w (fun (j0:Int) (r1 b26:Bool) (t2:B8) (y2 k3 r9 y9 q4:Int) (w5:B8) (x1 w6 o8:TV) d4=>(Ab d4 [] (.t (Ag b 26)) 0=some o7/\need (List.all [.int .i64 1,(.str []),.int .i64 j0,.bool r1,.bool b26,.str t2,.int .i64 y2,.int .i64 k3,.int .i64 r9,.int .i64 y9,.int .i64 q4,.str w5,x1,w6,o8] Ap) (AF 118 15 192 o7 1 [.int .i64 1,(.str []),.int .i64 j0,.bool r1,.bool b26,.str t2,.int .i64 y2,.int .i64 k3,.int .i64 r9,.int .i64 y9,.int .i64 q4,.str w5,x1,w6,o8] d4 (fun (i9:TV) st49=>need (isPtr b) (need (isPtr b) (need (List.all [i9] Ap) (stB st49 (Ag b 26) [i9] (fun f2=>need (isPtr b) (need (isPtr b) (Af (Ab f2 [] (.t (Ag b 14)) 0) (fun (x55:TV)=>Ah (.int .i64) x55 (fun (n62:Int)=>need (isPtr b) (need (isPtr b) (stB f2 (Ag b 14) [(.int .i64 (i64.wrap (n62+(1:Int))))] (fun st51=>K st51))))))))))))))))))))))))))))))))))))))))) (need (isPtr b) (need (isPtr b) (Af (Ab f [] (.t (Ag b 26)) 0) (fun (y8:TV)=>need (isPtr b) (need (isPtr b) (Af ((Aj f [] (.t (Ag b 1)) 0 4).map TV.agg) (fun (x57:TV)=>AU [.int .u8,.int .u8,.bool,.bool] x57 (fun (n63 n64:Int) (b27 b28:Bool)=>Ae PR AE [.str g,.bool e,(.agg [.int .u8 n63,.int .u8 n64,.bool b27,.bool b28])] [sV] f (fun (p8:Int) (m0 j4:Bool) (k5:B8) (y0 z3 o9 m1 l1:Int) (q7:B8) (k2 w4 x2:TV) d3=>(Ab d3 [] (.t (Ag b 26)) 0=some y8/\need (List.all [.int .i64 1,(.str []),.int .i64 p8,.bool m0,.bool j4,.str k5,.int .i64 y0,.int .i64 z3,.int .i64 o9,.int .i64 m1,.int .i64 l1,.str q7,k2,w4,x2] Ap) (AF 118 15 192 y8 1 [.int .i64 1,(.str []),.int .i64 p8,.bool m0,.bool j4,.str k5,.int .i64 y0,.int .i64 z3,.int .i64 o9,.int .i64 m1,.int .i64 l1,.str q7,k2,w4,x2] d3 (fun (v55:TV) st53=>need (isPtr b) (need (isPtr b) (need (List.all [v55] Ap) (stB st53 (Ag b 26) [v55] (fun e1=>need (isPtr b) (need (isPtr b) (Af (Ab e1 [] (.t (Ag b 14)) 0) (fun (x58:TV)=>Ah (.int .i64) x58 (fun (n71:Int)=>need (isPtr b) (need (isPtr b) (stB e1 (Ag b 14) [(.int .i64 (i64.wrap (n71+(1:Int))))] (fun st55=>K st55))))))))))))))))))))))))))))))))))))))))) (∃(C2:B8->TV->Bool->St->Prop),(C2 s1 ((.box r 0)) false n)/\∀i a d d6,C2 i a d d6->(Ae PR Ar [a] [.one .bool] d6 (fun (b31:Bool) c=>BIf b31 (BId ((1024:Int)<(i.length:Int)) (need (isPtr a) (need (isPtr a) (Af (Ab c [] (.t (Ag a 20)) 0) (fun (x59:TV)=>Ah (.int .i64) x59 (fun (n72:Int)=>Ae PR Ai [a,.int .i64 n72,.int .i64 10] [] c (fun (e0:St)=>need (isPtr a) (need (isPtr a) (Af (Ab e0 [] (.t (Ag a 17)) 0) (fun (v56:TV)=>muK v56 i (.bool true) e0 (fun d8=>need (isPtr a) (need (isPtr a) (Af (Ab d8 [] (.t (Ag a 16)) 0) (fun (v57:TV)=>AF 9 1 16 v57 1 [.str i] d8 (fun (o4:TV) st60=>need (isPtr a) (need (isPtr a) (need (List.all [o4] Ap) (stB st60 (Ag a 16) [o4] (fun a0=>need (isPtr a) (need (isPtr a) (Af (Ab a0 [] (.t (Ag a 14)) 0) (fun (x62:TV)=>Ah (.int .i64) x62 (fun (n73:Int)=>need (isPtr a) (need (isPtr a) (stB a0 (Ag a 14) [(.int .i64 (i64.wrap (n73+(1:Int))))] (fun st62=>K st62))))))))))))))))))))))))) (need (isPtr a) (need (isPtr a) (Af (Ab c [] (.t (Ag a 17)) 0) (fun (v59:TV)=>Af (GN c v59) (fun (es2:List (B8×TV))=>Ah .bool (Ic (.bool false) (Cn i es2)) (fun (b32:Bool)=>BIf b32 (need (isPtr a) (need (isPtr a) (Af (Ab c [] (.t (Ag a 20)) 0) (fun (x64:TV)=>Ah (.int .i64) x64 (fun (n74:Int)=>Ae PR Ai [a,.int .i64 n74,.int .i64 8] [] c (fun (c9:St)=>need (isPtr a) (need (isPtr a) (Af (Ab c9 [] (.t (Ag a 17)) 0) (fun (v60:TV)=>muK v60 i (.bool true) c9 (fun g7=>need (isPtr a) (need (isPtr a) (Af (Ab g7 [] (.t (Ag a 16)) 0) (fun (v61:TV)=>AF 9 1 16 v61 1 [.str i] g7 (fun (z1:TV) st65=>need (isPtr a) (need (isPtr a) (need (List.all [z1] Ap) (stB st65 (Ag a 16) [z1] (fun i0=>need (isPtr a) (need (isPtr a) (Af (Ab i0 [] (.t (Ag a 14)) 0) (fun (x67:TV)=>Ah (.int .i64) x67 (fun (n75:Int)=>need (isPtr a) (need (isPtr a) (stB i0 (Ag a 14) [(.int .i64 (i64.wrap (n75+(1:Int))))] (fun st67=>K st67))))))))))))))))))))))))) (need (isPtr a) (need (isPtr a) (Af (Ab c [] (.t (Ag a 17)) 0) (fun (v63:TV)=>muK v63 i (.bool true) c (fun e7=>need (isPtr a) (need (isPtr a) (Af (Ab e7 [] (.t (Ag a 16)) 0) (fun (v64:TV)=>AF 9 1 16 v64 1 [.str i] e7 (fun (w2:TV) st69=>need (isPtr a) (need (isPtr a) (need (List.all [w2] Ap) (stB st69 (Ag a 16) [w2] (fun g9=>need (isPtr a) (need (isPtr a) (Af (Ab g9 [] (.t (Ag a 14)) 0) (fun (x70:TV)=>Ah (.int .i64) x70 (fun (n76:Int)=>need (isPtr a) (need (isPtr a) (stB g9 (Ag a 14) [(.int .i64 (i64.wrap (n76+(1:Int))))] (fun st71=>K st71))))))))))))))))))))))))))) (BId ((65536:Int)<(i.length:Int)) (need (isPtr a) (need (isPtr a) (Af (Ab c [] (.t (Ag a 20)) 0) (fun (x71:TV)=>Ah (.int .i64) x71 (fun (n77:Int)=>Ae PR Ai [a,.int .i64 n77,.int .i64 10] [] c (fun (st72:St)=>K st72)))))) (need (isPtr a) (need (isPtr a) (Af (Ab c [] (.t (Ag a 14)) 0) (fun (x72:TV)=>Ah (.int .i64) x72 (fun (n78:Int)=>BId (n78=0) (need (isPtr a) (need (isPtr a) (need (isPtr (Ag a 1)) (Af (Ab c [] (.t (Ag (Ag a 1) 2)) 0) (fun (x73:TV)=>Ah .bool x73 (fun (b33:Bool)=>BIf b33 (need (isPtr a) (need (isPtr a) (Af (Ab c [] (.t (Ag a 26)) 0) (fun (v66:TV)=>AF 118 15 192 v66 1 [.int .i64 4,(.str []),.int .i64 0,.bool false,.bool false,(.str []),.int .i64 0,.int .i64 0,.int .i64 0,.int .i64 0,.int .i64 0,(.str []),.nilSlice,.nilSlice,.nilSlice] c (fun (l5:TV) st73=>need (isPtr a) (need (isPtr a) (need (List.all [l5] Ap) (stB st73 (Ag a 26) [l5] (fun l=>need (isPtr a) (need (isPtr a) (need (isPtr (Ag a 1)) (Af (Ab l [] (.t (Ag (Ag a 1) 2)) 0) (fun (x75:TV)=>Ah .bool x75 (fun (b34:Bool)=>BIf b34 (need (isPtr a) (need (isPtr a) (Af (Ab l [] (.t (Ag a 26)) 0) (fun (v68:TV)=>need (isPtr a) (need (isPtr a) (Af (Ab l [] (.t (Ag a 16)) 0) (fun (x0:TV)=>need (isPtr a) (need (isPtr a) (Af (Ab l [] (.t (Ag a 14)) 0) (fun (x78:TV)=>Ah (.int .i64) x78 (fun (d5:Int)=>((0<=d5/\d5<(lenZ 1 x0:Int))/\Af (Ab l [] (.t (ixT 1 x0 d5.toNat)) 0) (fun (x79:TV)=>Ah .str x79 (fun (s19:B8)=>AF 118 15 192 v68 1 [.int .i64 6,.str s19,.int .i64 0,.bool false,.bool false,(.str []),.int .i64 0,.int .i64 0,.int .i64 0,.int .i64 0,.int .i64 0,(.str []),.nilSlice,.nilSlice,.nilSlice] l (fun (v70:TV) st75=>need (isPtr a) (need (isPtr a) (need (List.all [v70] Ap) (stB st75 (Ag a 26) [v70] (fun s=>need (isPtr a) (need (isPtr a) (Af (Ab s [] (.t (Ag a 26)) 0) (fun (u0:TV)=>need (isPtr a) (need (isPtr a) (Af ((Aj s [] (.t (Ag a 1)) 0 4).map TV.agg) (fun (x81:TV)=>AU [.int .u8,.int .u8,.bool,.bool] x81 (fun (n80 n81:Int) (b35 b36:Bool)=>Ae PR AE [.str i,.bool d,(.agg [.int .u8 n80,.int .u8 n81,.bool b35,.bool b36])] [sV] s (fun (u1:Int) (m4 m6:Bool) (u6:B8) (r0 r4 n85 t6 n87:Int) (s21:B8) (p1 k9 k0:TV) e5=>(Ab e5 [] (.t (Ag a 26)) 0=some u0/\need (List.all [.int .i64 1,(.str []),.int .i64 u1,.bool m4,.bool m6,.str u6,.int .i64 r0,.int .i64 r4,.int .i64 n85,.int .i64 t6,.int .i64 n87,.str s21,p1,k9,k0] Ap) (AF 118 15 192 u0 1 [.int .i64 1,(.str []),.int .i64 u1,.bool m4,.bool m6,.str u6,.int .i64 r0,.int .i64 r4,.int .i64 n85,.int .i64 t6,.int .i64 n87,.str s21,p1,k9,k0] e5 (fun (y1:TV) st78=>need (isPtr a) (need (isPtr a) (need (List.all [y1] Ap) (stB st78 (Ag a 26) [y1] (fun f9=>need (isPtr a) (need (isPtr a) (Af (Ab f9 [] (.t (Ag a 14)) 0) (fun (x82:TV)=>Ah (.int .i64) x82 (fun (n88:Int)=>need (isPtr a) (need (isPtr a) (stB f9 (Ag a 14) [(.int .i64 (i64.wrap (n88+(1:Int))))] (fun st80=>K st80))))))))))))))))))))))))))))))))))))))))) (need (isPtr a) (need (isPtr a) (Af (Ab l [] (.t (Ag a 26)) 0) (fun (t8:TV)=>need (isPtr a) (need (isPtr a) (Af ((Aj l [] (.t (Ag a 1)) 0 4).map TV.agg) (fun (x84:TV)=>AU [.int .u8,.int .u8,.bool,.bool] x84 (fun (n89 n90:Int) (b39 b40:Bool)=>Ae PR AE [.str i,.bool d,(.agg [.int .u8 n89,.int .u8 n90,.bool b39,.bool b40])] [sV] l (fun (w9:Int) (b41 q8:Bool) (k8:B8) (w7 q3 o3 l0 n96:Int) (o0:B8) (v77 z4 y6:TV) c3=>(Ab c3 [] (.t (Ag a 26)) 0=some t8/\need (List.all [.int .i64 1,(.str []),.int .i64 w9,.bool b41,.bool q8,.str k8,.int .i64 w7,.int .i64 q3,.int .i64 o3,.int .i64 l0,.int .i64 n96,.str o0,v77,z4,y6] Ap) (AF 118 15 192 t8 1 [.int .i64 1,(.str []),.int .i64 w9,.bool b41,.bool q8,.str k8,.int .i64 w7,.int .i64 q3,.int .i64 o3,.int .i64 l0,.int .i64 n96,.str o0,v77,z4,y6] c3 (fun (u7:TV) st82=>need (isPtr a) (need (isPtr a) (need (List.all [u7] Ap) (stB st82 (Ag a 26) [u7] (fun f7=>need (isPtr a) (need (isPtr a) (Af (Ab f7 [] (.t (Ag a 14)) 0) (fun (x85:TV)=>Ah (.int .i64) x85 (fun (n97:Int)=>need (isPtr a) (need (isPtr a) (stB f7 (Ag a 14) [(.int .i64 (i64.wrap (n97+(1:Int))))] (fun st84=>K st84))))))))))))))))))))))))))))))))))))) (need (isPtr a) (need (isPtr a) (Af (Ab c [] (.t (Ag a 26)) 0) (fun (v81:TV)=>AF 118 15 192 v81 1 [.int .i64 2,(.str []),.int .i64 0,.bool false,.bool false,(.str []),.int .i64 0,.int .i64 0,.int .i64 0,.int .i64 0,.int .i64 0,(.str []),.nilSlice,.nilSlice,.nilSlice] c (fun (y3:TV) st85=>need (isPtr a) (need (isPtr a) (need (List.all [y3] Ap) (stB st85 (Ag a 26) [y3] (fun k=>need (isPtr a) (need (isPtr a) (need (isPtr (Ag a 1)) (Af (Ab k [] (.t (Ag (Ag a 1) 2)) 0) (fun (x87:TV)=>Ah .bool x87 (fun (b43:Bool)=>BIf b43 (need (isPtr a) (need (isPtr a) (Af (Ab k [] (.t (Ag a 26)) 0) (fun (v83:TV)=>need (isPtr a) (need (isPtr a) (Af (Ab k [] (.t (Ag a 16)) 0) (fun (v84:TV)=>need (isPtr a) (need (isPtr a) (Af (Ab k [] (.t (Ag a 14)) 0) (fun (x90:TV)=>Ah (.int .i64) x90 (fun (h4:Int)=>((0<=h4/\h4<(lenZ 1 v84:Int))/\Af (Ab k [] (.t (ixT 1 v84 h4.toNat)) 0) (fun (x91:TV)=>Ah .str x91 (fun (s24:B8)=>AF 118 15 192 v83 1 [.int .i64 6,.str s24,.int .i64 0,.bool false,.bool false,(.str []),.int .i64 0,.int .i64 0,.int .i64 0,.int .i64 0,.int .i64 0,(.str []),.nilSlice,.nilSlice,.nilSlice] k (fun (m7:TV) st87=>need (isPtr a) (need (isPtr a) (need (List.all [m7] Ap) (stB st87 (Ag a 26) [m7] (fun o=>need (isPtr a) (need (isPtr a) (Af (Ab o [] (.t (Ag a 26)) 0) (fun (v86:TV)=>need (isPtr a) (need (isPtr a) (Af ((Aj o [] (.t (Ag a 1)) 0 4).map TV.agg) (fun (x93:TV)=>AU [.int .u8,.int .u8,.bool,.bool] x93 (fun (n99 n100:Int) (b44 b45:Bool)=>Ae PR AE [.str i,.bool d,(.agg [.int .u8 n99,.int .u8 n100,.bool b44,.bool b45])] [sV] o (fun (c2:Int) (b46 o1:Bool) (t7:B8) (e6 f5 g0 h6 g1:Int) (j7:B8) (u3 r6 t1:TV) h2=>(Ab h2 [] (.t (Ag a 26)) 0=some v86/\need (List.all [.int .i64 1,(.str []),.int .i64 c2,.bool b46,.bool o1,.str t7,.int .i64 e6,.int .i64 f5,.int .i64 g0,.int .i64 h6,.int .i64 g1,.str j7,u3,r6,t1] Ap) (AF 118 15 192 v86 1 [.int .i64 1,(.str []),.int .i64 c2,.bool b46,.bool o1,.str t7,.int .i64 e6,.int .i64 f5,.int .i64 g0,.int .i64 h6,.int .i64 g1,.str j7,u3,r6,t1] h2 (fun (v90:TV) st90=>need (isPtr a) (need (isPtr a) (need (List.all [v90] Ap) (stB st90 (Ag a 26) [v90] (fun f8=>need (isPtr a) (need (isPtr a) (Af (Ab f8 [] (.t (Ag a 14)) 0) (fun (x94:TV)=>Ah (.int .i64) x94 (fun (n107:Int)=>need (isPtr a) (need (isPtr a) (stB f8 (Ag a 14) [(.int .i64 (i64.wrap (n107+(1:Int))))] (fun st92=>K st92))))))))))))))))))))))))))))))))))))))))) (need (isPtr a) (need (isPtr a) (Af (Ab k [] (.t (Ag a 26)) 0) (fun (u9:TV)=>need (isPtr a) (need (isPtr a) (Af ((Aj k [] (.t (Ag a 1)) 0 4).map TV.agg) (fun (x96:TV)=>AU [.int .u8,.int .u8,.bool,.bool] x96 (fun (n108 n109:Int) (b48 b49:Bool)=>Ae PR AE [.str i,.bool d,(.agg [.int .u8 n108,.int .u8 n109,.bool b48,.bool b49])] [sV] k (fun (g8:Int) (p9 r5:Bool) (i7:B8) (c7 d9 b0 a1 g6:Int) (l6:B8) (y4 z9 n0:TV) c6=>(Ab c6 [] (.t (Ag a 26)) 0=some u9/\need (List.all [.int .i64 1,(.str []),.int .i64 g8,.bool p9,.bool r5,.str i7,.int .i64 c7,.int .i64 d9,.int .i64 b0,.int .i64 a1,.int .i64 g6,.str l6,y4,z9,n0] Ap) (AF 118 15 192 u9 1 [.int .i64 1,(.str []),.int .i64 g8,.bool p9,.bool r5,.str i7,.int .i64 c7,.int .i64 d9,.int .i64 b0,.int .i64 a1,.int .i64 g6,.str l6,y4,z9,n0] c6 (fun (z2:TV) st94=>need (isPtr a) (need (isPtr a) (need (List.all [z2] Ap) (stB st94 (Ag a 26) [z2] (fun d0=>need (isPtr a) (need (isPtr a) (Af (Ab d0 [] (.t (Ag a 14)) 0) (fun (x97:TV)=>Ah (.int .i64) x97 (fun (n116:Int)=>need (isPtr a) (need (isPtr a) (stB d0 (Ag a 14) [(.int .i64 (i64.wrap (n116+(1:Int))))] (fun st96=>K st96))))))))))))))))))))))))))))))))))))))))))) (need (isPtr a) (need (isPtr a) (need (isPtr (Ag a 1)) (Af (Ab c [] (.t (Ag (Ag a 1) 2)) 0) (fun (x98:TV)=>Ah .bool x98 (fun (b52:Bool)=>BIf b52 (need (isPtr a) (need (isPtr a) (Af (Ab c [] (.t (Ag a 26)) 0) (fun (v96:TV)=>need (isPtr a) (need (isPtr a) (Af (Ab c [] (.t (Ag a 16)) 0) (fun (j2:TV)=>need (isPtr a) (need (isPtr a) (Af (Ab c [] (.t (Ag a 14)) 0) (fun (x101:TV)=>Ah (.int .i64) x101 (fun (v:Int)=>((0<=v/\v<(lenZ 1 j2:Int))/\Af (Ab c [] (.t (ixT 1 j2 v.toNat)) 0) (fun (x102:TV)=>Ah .str x102 (fun (s29:B8)=>AF 118 15 192 v96 1 [.int .i64 6,.str s29,.int .i64 0,.bool false,.bool false,(.str []),.int .i64 0,.int .i64 0,.int .i64 0,.int .i64 0,.int .i64 0,(.str []),.nilSlice,.nilSlice,.nilSlice] c (fun (w8:TV) st97=>need (isPtr a) (need (isPtr a) (need (List.all [w8] Ap) (stB st97 (Ag a 26) [w8] (fun p=>need (isPtr a) (need (isPtr a) (Af (Ab p [] (.t (Ag a 26)) 0) (fun (v0:TV)=>need (isPtr a) (need (isPtr a) (Af ((Aj p [] (.t (Ag a 1)) 0 4).map TV.agg) (fun (x104:TV)=>AU [.int .u8,.int .u8,.bool,.bool] x104 (fun (n118 n119:Int) (b53 b54:Bool)=>Ae PR AE [.str i,.bool d,(.agg [.int .u8 n118,.int .u8 n119,.bool b53,.bool b54])] [sV] p (fun (a2:Int) (z8 l9:Bool) (k6:B8) (e9 d7 a9 a6 c8:Int) (l4:B8) (c5 d1 g2:TV) c4=>(Ab c4 [] (.t (Ag a 26)) 0=some v0/\need (List.all [.int .i64 1,(.str []),.int .i64 a2,.bool z8,.bool l9,.str k6,.int .i64 e9,.int .i64 d7,.int .i64 a9,.int .i64 a6,.int .i64 c8,.str l4,c5,d1,g2] Ap) (AF 118 15 192 v0 1 [.int .i64 1,(.str []),.int .i64 a2,.bool z8,.bool l9,.str k6,.int .i64 e9,.int .i64 d7,.int .i64 a9,.int .i64 a6,.int .i64 c8,.str l4,c5,d1,g2] c4 (fun (f6:TV) i3=>need (isPtr a) (need (isPtr a) (need (List.all [f6] Ap) (stB i3 (Ag a 26) [f6] (fun z=>need (isPtr a) (need (isPtr a) (Af (Ab z [] (.t (Ag a 14)) 0) (fun (x105:TV)=>Ah (.int .i64) x105 (fun (n126:Int)=>need (isPtr a) (need (isPtr a) (stB z (Ag a 14) [(.int .i64 (i64.wrap (n126+(1:Int))))] (fun i5=>K i5))))))))))))))))))))))))))))))))))))))))) (need (isPtr a) (need (isPtr a) (Af (Ab c [] (.t (Ag a 26)) 0) (fun (g5:TV)=>need (isPtr a) (need (isPtr a) (Af ((Aj c [] (.t (Ag a 1)) 0 4).map TV.agg) (fun (x107:TV)=>AU [.int .u8,.int .u8,.bool,.bool] x107 (fun (n127 n128:Int) (b57 b58:Bool)=>Ae PR AE [.str i,.bool d,(.agg [.int .u8 n127,.int .u8 n128,.bool b57,.bool b58])] [sV] c (fun (h0:Int) (b59 b60:Bool) (w3:B8) (c1 f4 d2 f0 a4:Int) (l8:B8) (a7 f3 h7:TV) y=>(Ab y [] (.t (Ag a 26)) 0=some g5/\need (List.all [.int .i64 1,(.str []),.int .i64 h0,.bool b59,.bool b60,.str w3,.int .i64 c1,.int .i64 f4,.int .i64 d2,.int .i64 f0,.int .i64 a4,.str l8,a7,f3,h7] Ap) (AF 118 15 192 g5 1 [.int .i64 1,(.str []),.int .i64 h0,.bool b59,.bool b60,.str w3,.int .i64 c1,.int .i64 f4,.int .i64 d2,.int .i64 f0,.int .i64 a4,.str l8,a7,f3,h7] y (fun (f1:TV) i4=>need (isPtr a) (need (isPtr a) (need (List.all [f1] Ap) (stB i4 (Ag a 26) [f1] (fun x=>need (isPtr a) (need (isPtr a) (Af (Ab x [] (.t (Ag a 14)) 0) (fun (x108:TV)=>Ah (.int .i64) x108 (fun (n135:Int)=>need (isPtr a) (need (isPtr a) (stB x (Ag a 14) [(.int .i64 (i64.wrap (n135+(1:Int))))] (fun i6=>K i6)))))))))))))))))))))))))))))))))))))))))))))))):Ae PR Az [(.box r 0)] [] st K:=
 Ak (cfg:=⟨[],[],[11,15,29,33,171,177]⟩) (h:=(.seq .none (.seq .none (.seq .none (.cut ⟨[(2,.str),(0,.tv),(4,.bool)],[],[],[]⟩ .none .none))))) mixed (fun _ _=>Tryz.call142 _ _) Tryz.func142 (by kernel_rfl) (by kernel_rfl) h
theorem HU (s:B8) (prefixx:B8) (st:St) (K:Bool->St->Prop) (h:Ae PR Do [.str s,.str prefixx] [.one .bool] st (fun (b1:Bool) a=>K b1 a)):Ae PR A8 [.str s,.str prefixx] [.one .bool] st K:=
 Ak (cfg:=⟨[],[],[]⟩) (h:= .none) mixed (fun _ _=>Tryz.call156 _ _) Tryz.func156 (by kernel_rfl) (by kernel_rfl) h
theorem Mt (s:B8) (st:St) (K:Int->St->Prop) (h:∃(I1:Int->B8->St->Prop) (M1:Int->B8->St->Nat),(I1 0 s st)/\∀a b c,I1 a b c->(BId (a<(b.length:Int)) (((0<=a/\a<(b.length:Int))/\BId ((48:Int)<=((List.getD b a.toNat 0).toNat:Int)) (((0<=a/\a<(b.length:Int))/\BId (((List.getD b a.toNat 0).toNat:Int)<=(57:Int)) ((I1 ((i64.wrap (a+(1:Int)))) b c/\M1 ((i64.wrap (a+(1:Int)))) b c<M1 a b c)) (K a c))) (K a c))) (K a c))):Ae PR CV [.str s] [.one (.int .i64)] st K:=
 Ak (cfg:=⟨[],[],[]⟩) (h:=(.seq .none (.seq .none (.seq (.block (.loop ⟨[(3,.int .i64),(0,.str)],[],[],[]⟩ .none)) .none)))) mixed (fun _ _=>Tryz.call157 _ _) Tryz.func157 (by kernel_rfl) (by kernel_rfl) h
theorem KI (exp:Int) (less:Bool) (byx:B8) (st:St) (K:Int->St->Prop) (h:BId ((byx.length:Int)<=(12:Int)) (Ae PR EK [.str byx] [.one (.int .i64),.one (.int .i64)] st (fun (n1 n2:Int) a=>BIf less (K ((i64.wrap (exp-n1))) a) (K ((i64.wrap (exp+n1))) a))) (BIf less (K ((i64.wrap (exp-(1099511627776:Int)))) st) (K ((i64.wrap (exp+(1099511627776:Int)))) st))):Ae PR Eh [.int .i64 exp,.bool less,.str byx] [.one (.int .i64)] st K:=
 Ak (cfg:=⟨[],[],[]⟩) (h:= .none) mixed (fun _ _=>Tryz.call158 _ _) Tryz.func158 (by kernel_rfl) (by kernel_rfl) h
theorem L0 (neg:Bool) (s:B8) (exp:Int) (st:St) (K:Bool->B8->Int->Int->St->Prop) (h:∃(I1:Int->Bool->B8->Int->Int->Bool->B8->Int->St->Prop) (M1:Int->Bool->B8->Int->Int->Bool->B8->Int->St->Nat),(I1 0 neg s exp ((s.length:Int)) false [] 0 st)/\∀a b c d f b1 s1 n1 e,I1 a b c d f b1 s1 n1 e->(BId (a<f) (((0<=a/\a<(c.length:Int))/\BId (((List.getD c a.toNat 0).toNat:Int)<(48:Int)) (K false [] 0 3 e) (((0<=a/\a<(c.length:Int))/\BId ((57:Int)<((List.getD c a.toNat 0).toNat:Int)) (K false [] 0 3 e) ((I1 ((i64.wrap (a+(1:Int)))) b c d f b1 s1 n1 e/\M1 ((i64.wrap (a+(1:Int)))) b c d f b1 s1 n1 e<M1 a b c d f b1 s1 n1 e)))))) (Ae PR Dg [.str c,.str VW] [.one .str] e (fun (s2:B8) i=>Ae PR EN [.bool b,.str s2,.int .i64 d] [.agg [.bool,.str,.int .i64],.one (.int .i64)] i (fun (b2:Bool) (s3:B8) (n2 n3:Int) g=>K b2 s3 n2 n3 g))))):Ae PR Cy [.bool neg,.str s,.int .i64 exp] [.agg [.bool,.str,.int .i64],.one (.int .i64)] st K:=
 Ak (cfg:=⟨[6],[],[]⟩) (h:=(.seq .none (.seq (.seq .none (.block (.loop ⟨[(11,.int .i64),(0,.bool),(1,.str),(2,.int .i64),(10,.int .i64)],[(6,0,0)],[(0,3)],[(0,0,.bool),(0,1,.str),(0,2,.int .i64)]⟩ .none))) .none))) mixed (fun _ _=>Tryz.call160 _ _) Tryz.func160 (by kernel_rfl) (by kernel_rfl) h
theorem HD (r:Nat) (f:Nat) (st:St) (K:Int->St->Prop) (h:Af (Ab st [] (.t (.box r 0)) 0) (fun (x1:TV)=>Ah .str x1 (fun (s1:B8)=>BId ((2:Int)<(s1.length:Int)) (Af (Ab st [] (.t (.box r 0)) 0) (fun (x2:TV)=>Ah .str x2 (fun (s2:B8)=>((0<=(2:Int)/\(2:Int)<(s2.length:Int))/\BId (((List.getD s2 (Int.toNat (2:Int)) 0).toNat:Int)=(58:Int)) (Ae PR Bo [(.box r 0),(.box f 0)] [] st (fun (e:St)=>K 2 e)) (Ae PR BV [(.box r 0),(.box f 0)] [] st (fun (d:St)=>Af (Ab d [] (.t (.box r 0)) 0) (fun (x3:TV)=>Ah .str x3 (fun (s3:B8)=>BId (s3=([]:B8)) (K 1 d) (Ae PR AK [(.box r 0),.str str25] [.one (.int .u8)] d (fun (n1:Int) k=>Ae PR Bo [(.box r 0),(.box f 0)] [] k (fun (c:St)=>Af (Ab c [] (.t (.box r 0)) 0) (fun (x4:TV)=>Ah .str x4 (fun (s4:B8)=>BId (s4=([]:B8)) (K 3 c) (Ae PR BF [(.box r 0),(.box f 0)] [] c (fun (g:St)=>K 4 g))))))))))))))) (Ae PR BV [(.box r 0),(.box f 0)] [] st (fun (b:St)=>Af (Ab b [] (.t (.box r 0)) 0) (fun (x5:TV)=>Ah .str x5 (fun (s5:B8)=>BId (s5=([]:B8)) (K 1 b) (Ae PR AK [(.box r 0),.str str25] [.one (.int .u8)] b (fun (n2:Int) j=>Ae PR Bo [(.box r 0),(.box f 0)] [] j (fun (a:St)=>Af (Ab a [] (.t (.box r 0)) 0) (fun (x6:TV)=>Ah .str x6 (fun (s6:B8)=>BId (s6=([]:B8)) (K 3 a) (Ae PR BF [(.box r 0),(.box f 0)] [] a (fun (i:St)=>K 4 i)))))))))))))):Ae PR CG [(.box r 0),(.box f 0)] [.one (.int .i64)] st K:=
 Ak (cfg:=⟨[],[],[]⟩) (h:= .none) mixed (fun _ _=>Tryz.call161 _ _) Tryz.func161 (by kernel_rfl) (by kernel_rfl) h
theorem L3 (year:Int) (month:Int) (day:Int) (st:St) (K:Int->Int->St->Prop) (h:BId (day<1) (K 0 2 st) (Ae PR CL [.int .i64 year,.int .i64 month] [.one (.int .i64)] st (fun (n1:Int) f=>BId (n1<day) (K 0 2 f) (Ae PR DR [.int .i64 year] [.one (.int .i64)] f (fun (n2:Int) i=>∃(I1:Int->Int->Int->Int->St->Prop) (M1:Int->Int->Int->Int->St->Nat),(I1 ((i64.wrap ((i64.wrap (n2+day))-(1:Int)))) 1 year month i)/\∀d c b a e,I1 d c b a e->(BId (c<a) (Ae PR CL [.int .i64 b,.int .i64 c] [.one (.int .i64)] e (fun (n3:Int) g=>(I1 ((i64.wrap (d+n3))) ((i64.wrap (c+(1:Int)))) b a g/\M1 ((i64.wrap (d+n3))) ((i64.wrap (c+(1:Int)))) b a g<M1 d c b a e))) (K d 0 e))))))):Ae PR EO [.int .i64 year,.int .i64 month,.int .i64 day] [.one (.int .i64),.one (.int .i64)] st K:=
 Ak (cfg:=⟨[],[],[]⟩) (h:=(.seq .none (.seq .none (.seq .none (.seq (.seq .none (.block (.loop ⟨[(8,.int .i64),(9,.int .i64),(0,.int .i64),(1,.int .i64)],[],[],[]⟩ .none))) .none))))) mixed (fun _ _=>Tryz.call162 _ _) Tryz.func162 (by kernel_rfl) (by kernel_rfl) h
theorem N8 (v_0:Int) (v_1:Bool) (v_2:Bool) (v_3:B8) (v_4:Int) (v_5:Int) (v_6:Int) (v_7:Int) (v_8:Int) (v_9:B8) (v_10:TV) (v_11:TV) (v_12:TV) (st:St) (K:V13 (St->Prop)) (h:Ae PR Cv [(.agg (cV v_0 v_1 v_2 v_3 v_4 v_5 v_6 v_7 v_8 v_9 v_10 v_11 v_12)),.int .i64 65536] [sV] st (fun (n1:Int) (b1 b2:Bool) (s1:B8) (n2 n3 n4 n5 n6:Int) (s2:B8) (v1 v2 v3:TV) a=>need (List.all (cV n1 b1 b2 s1 n2 n3 n4 n5 n6 s2 v1 v2 v3) Ap) (K n1 b1 b2 s1 n2 n3 n4 n5 n6 s2 v1 v2 v3 a))):Ae PR Gk [(.agg (cV v_0 v_1 v_2 v_3 v_4 v_5 v_6 v_7 v_8 v_9 v_10 v_11 v_12))] [sV] st K:=
 Ak (cfg:=⟨[1,2],[],[]⟩) (h:= .none) mixed (fun _ _=>Tryz.call178 _ _) Tryz.func178 (by kernel_rfl) (by kernel_rfl) h
theorem D9 (b:Nat) (s:B8) (st:St) (K:Int->TV->St->Prop) (h:Ae PR BG [(.box b 0)] [] st (fun (a:St)=>Af (Ab a [] (.t (.box b 1)) 0) (fun (v1:TV)=>Af (BI a 1 (.str s)) (fun (q1:Nat×List TV)=>need (List.all q1.2 Ap) (AF 5 1 1 v1 q1.1 q1.2 a (fun (v2:TV) d=>need (List.all [v2] Ap) (stB d (.box b 1) [v2] (fun c=>K ((s.length:Int)) .nilIface c)))))))):Ae PR A3 [(.box b 0),.str s] [.one (.int .i64),.one .tv] st K:=
 Ak (cfg:=⟨[],[],[]⟩) (h:= .none) mixed (fun _ _=>Tryz.call196 _ _) Tryz.func196 (by kernel_rfl) (by kernel_rfl) h
end Go.TVF
