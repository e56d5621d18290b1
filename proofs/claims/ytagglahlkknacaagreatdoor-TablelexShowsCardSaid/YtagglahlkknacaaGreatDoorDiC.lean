/- What the laws below rest on: a framework for Go programs, and contracts of the functions that they reach. -/
import Derived.Test.YtagglahlkknacaaGreatDoorDiB
import Derived.Deep.Slices
import Derived.WideShapes
import Derived.ChangeArms
import Derived.OpenShut
import Derived.Test.YtagglahlkknacaaGreatDoorProg
import Derived.KernelRfl
import Derived.Lib.DecodeN
set_option maxRecDepth 20000
set_option linter.unusedVariables false
set_option linter.unusedSimpArgs false
section
namespace Go.TVF
open Go.IntKind(i64 u8)
open Go.RowKit (Below)
theorem KA {P:Program} {Q:Exit->Act->World->Prop} {a:Act} {w:World} {c:Code} (I:Nat->Act->World->Prop) (h₀:∃m,I m a w)
  (round:∀m a w,I m a w->c.wp P (Exit.then (fun a' w'=>∃m',m'<m/\I m' a' w') Q) a w):(Code.loop c).wp P Q a w:=by
 intro b k cs
 have key:∀m a w,I m a w->∃e a' w',Q e a' w'/\Arrives P (lone (b.at a (.code c:: .inLoop c::k)) cs w) b k cs e a' w':=by
  intro m
  induction m using Nat.strongRecOn with
  | _ m ih=>
   intro a w hI
   obtain⟨e,a₁,w₁,hq,harr⟩:=round m a w hI b (.inLoop c::k) cs
   cases e with
   | normal=>
    obtain⟨m',hlt,hI₁⟩:=hq
    obtain⟨e₂,a₂,w₂,hq₂,harr₂⟩:=ih m' hlt a₁ w₁ hI₁
    exact⟨e₂,a₂,w₂,hq₂,.of_steps (Steps.trans harr (.one step_inLoop)) harr₂⟩
   | exit id=>exact⟨_,a₁,w₁,hq,.pass (x:= .inLoop c) rfl (fun _ _=> .inl (by simp)) harr⟩
   | goto l=>exact⟨_,a₁,w₁,hq,.pass (x:= .inLoop c) rfl (fun _ _=> .inl (by simp)) harr⟩
   | ret=>exact⟨_,a₁,w₁,hq,.pass (x:= .inLoop c) rfl (fun _ _=> .inl (by simp)) harr⟩
   | panic ch=>exact⟨_,a₁,w₁,hq,.pass (x:= .inLoop c) rfl (fun _ _=> .inl (by simp)) harr⟩
   | outgrown=>exact⟨_,a₁,w₁,hq,.pass (x:= .inLoop c) rfl (fun _ _=> .inl (by simp)) harr⟩
 obtain⟨m,hm⟩:=h₀
 obtain⟨e,a',w',hq,harr⟩:=key m a w hm
 exact⟨e,a',w',hq,.of_steps (.one step_loop) harr⟩
theorem Ji:∀{cs:List CTy} {vs:List TV} {I:Fun cs (St->Prop)} {M:Fun cs (St->Nat)} {B:List TV->Nat->St->Prop} {st:St},AllC cs I M B->F5 cs vs I (fun p=>p st)->∃m,B vs m st
 | [],[],I,M,B,st,h,hd=>⟨_,h st hd⟩
 | [],_::_,I,M,B,st,h,hd=>hd.elim
 | _::_,[],I,M,B,st,h,hd=>hd.elim
 | c::cs,v::vs,I,M,B,st,h,hd=>by
  obtain⟨y,rfl,hd2⟩:=Ch hd
  exact Ji (B:=fun l=>B (enc c y::l)) (h y) hd2
theorem JY:∀{cs:List CTy} {vs:List TV} {I:Fun cs (St->Prop)} {M:Fun cs (St->Nat)} {B:List TV->Nat->St->Prop} {st:St} {m:Nat},AllC cs I M B->Lq cs vs I M (fun p q=>p st/\q st<m)->∃m',m'<m/\B vs m' st
 | [],[],I,M,B,st,m,h,hd=>⟨_,hd.2,h st hd.1⟩
 | [],_::_,I,M,B,st,m,h,hd=>hd.elim
 | _::_,[],I,M,B,st,m,h,hd=>hd.elim
 | c::cs,v::vs,I,M,B,st,m,h,hd=>by
  obtain⟨y,rfl,hd2⟩:=Ch hd
  exact JY (B:=fun l=>B (enc c y::l)) (h y) hd2
theorem H3:∀{cs:List CTy} {vs:List TV} {I:Fun cs (St->Prop)} {B:List TV->St->Prop} {st:St},Pz cs I B->F5 cs vs I (fun p=>p st)->B vs st
 | [],[],I,B,st,h,hd=>h st hd
 | [],_::_,I,B,st,h,hd=>hd.elim
 | _::_,[],I,B,st,h,hd=>hd.elim
 | c::cs,v::vs,I,B,st,h,hd=>by
  obtain⟨y,rfl,hd2⟩:=Ch hd
  exact H3 (B:=fun l=>B (enc c y::l)) (h y) hd2
def QPost (g:Ghost) (w:World) (a0:Act) (Q:Exit->Fr->St->Prop) (e:Exit) (a:Act) (w':World):Prop:=F7 g w a0 (Q e) a w'
section
variable {P:Program} {cfg:Cfg} {ns nl:Nat}
theorem N2 (hm:P.follows .mixedOrders=true):∀(c:Code) (h:FC) (Q:Exit->Fr->St->Prop) (fr:Fr) (st:St) (g:Ghost) (w:World) (a:Act),cwp cfg P ns nl c h Q fr st->Sim g st fr.loc w->DN g w fr a.tmps->a.tmps.size=ns->
  c.wp P (QPost g w a Q) a w:=by
 intro c
 induction c with
 | skip=>intro h Q fr st g w a hc s hf hn;exact wp_skip ⟨fr,st,g,hc,s,hf,Ext.refl _ _,rfl,rfl⟩
 | region id ops draw=>
  intro h Q fr st g w a hc s hf hn
  cases draw with
  | false=>exact wp_region_list (HP ops.toList fr st g w a hc s hf fun a' w' hp=>hp)
  | true=>exact Kl hm hc s hf fun a' w' hp=>hp
 | seq x y ihx ihy=>
  intro h Q fr st g w a hc s hf hn
  have key:∀(hx hy:FC),cwp cfg P ns nl x hx (KK (cwp cfg P ns nl y hy Q) Q) fr st->(Code.seq x y).wp P (QPost g w a Q) a w:=by
   intro hx hy hcx
   refine wp_seq (wp_mono (ihx hx _ fr st g w a hcx s hf hn) fun e a' w' hq=>?_)
   obtain⟨fr',st',g',h1,h2,h3,h4,h5⟩:=hq
   cases e with
   | normal=>
    refine wp_mono (ihy hy Q fr' st' g' w' a' h1 h2 h3 (h5.2.trans hn)) fun e a'' w'' hq2=>?_
    exact hq2.ext h4 h5
   | _=>exact⟨fr',st',g',h1,h2,h3,h4,h5⟩
  cases h with
  | cut k hx hy=>
   obtain⟨R,h1,h2⟩:=hc
   refine wp_seq (wp_mono (ihx hx _ fr st g w a h1 s hf hn) fun e a' w' hq=>?_)
   obtain⟨fr',st',g',q1,q2,q3,q4,q5⟩:=hq
   cases e with
   | normal=>
    have q1':need (k.ok nl fr') (F5 k.tys (k.vals fr') R fun p=>p st'):=q1
    rw[Ad]at q1'
    obtain⟨w1,w2⟩:=C9.weak (ns:=ns) q1'.1 q2 q3 (q5.2.trans hn)
    have hb:=H3 h2 q1'.2
    exact wp_mono (ihy hy Q _ st' g' w' a' hb w1 w2 (q5.2.trans hn)) fun e a'' w'' hq2=>hq2.ext q4 q5
   | _=>exact⟨fr',st',g',q1,q2,q3,q4,q5⟩
  | none=>exact key _ _ hc
  | seq p q=>exact key _ _ hc
  | cond p q=>exact key _ _ hc
  | block p=>exact key _ _ hc
  | loop k p=>exact key _ _ hc
 | cond c x y ihx ihy=>
  intro h Q fr st g w a hc s hf hn
  simp only[cwp]at hc
  split at hc
  ·rename_i b hb
   have hr:=J7 hf c
   rw[hb]at hr
   have hr':Rel g w (.bool b) (a.eval c):=hr
   have hev:a.eval c= .bool b:=by generalize a.eval c=q at hr';cases hr';rfl
   cases b with
   | true=>exact wp_cond_true hev (ihx h.l Q fr st g w a hc s hf hn)
   | false=>exact wp_cond_false hev (ihy h.r Q fr st g w a hc s hf hn)
  ·exact hc.elim
 | block id x ih=>
  intro h Q fr st g w a hc s hf hn
  refine wp_block (wp_mono (ih h.l (Mz id Q) fr st g w a hc s hf hn) fun e a' w' hq=>?_)
  obtain⟨fr',st',g',h1,h2,h3,h4,h5⟩:=hq
  cases e with
  | exit id'=>
   simp only[Mz]at h1
   by_cases hid:id'=id
   ·subst hid
    have hbe:(id'.beq id')=true:=Nat.beq_refl id'
    simp only[hbe]at h1
    simp only[Exit.inBlock,if_true]
    exact⟨fr',st',g',h1,h2,h3,h4,h5⟩
   ·have hbe:(id'.beq id)=false:=by
     cases hq:id'.beq id with
     | false=>rfl
     | true=>exact absurd (Nat.eq_of_beq_eq_true hq) hid
    simp only[hbe]at h1
    simp only[Exit.inBlock,hid,if_false]
    exact⟨fr',st',g',h1,h2,h3,h4,h5⟩
  | _=>exact⟨fr',st',g',h1,h2,h3,h4,h5⟩
 | loop x ih=>
  intro h Q fr st g w a hc s hf hn
  cases h with
  | loop k hx=>
   obtain⟨I,M,h1,h2⟩:=hc
   rw[Ad]at h1
   refine KA (fun m a' w'=>∃vals st' g',cwp cfg P ns nl x hx (KK (fun fr st=>need (k.ok nl fr) (Lq k.tys (k.vals fr) I M fun p q=>p st/\q st<m)) Q) (k.frame ns nl vals) st'/\
    Sim g' st' (k.frame ns nl vals).loc w'/\DN g' w' (k.frame ns nl vals) a'.tmps/\Ext g w g' w'/\a'.defers=a.defers/\a'.tmps.size=a.tmps.size) ?_ ?_
   ·obtain⟨m,hm⟩:=Ji h2 h1.2
    obtain⟨w1,w2⟩:=C9.weak (ns:=ns) h1.1 s hf hn
    exact⟨m,_,st,g,hm,w1,w2,Ext.refl _ _,rfl,rfl⟩
   ·rintro m a' w' ⟨vals,st',g',q1,q2,q3,q4,q5⟩
    refine wp_mono (ih hx _ _ st' g' w' a' q1 q2 q3 (q5.2.trans hn)) fun e a'' w'' hq=>?_
    obtain⟨fr2,st2,g2,r1,r2,r3,r4,r5⟩:=hq
    cases e with
    | normal=>
     have r1':need (k.ok nl fr2) (Lq k.tys (k.vals fr2) I M fun p q=>p st2/\q st2<m):=r1
     rw[Ad]at r1'
     obtain⟨m',hlt,hB⟩:=JY h2 r1'.2
     obtain⟨w1,w2⟩:=C9.weak (ns:=ns) r1'.1 r2 r3 (r5.2.trans (q5.2.trans hn))
     exact⟨m',hlt,_,st2,g2,hB,w1,w2,q4.trans r4,r5.1.trans q5.1,r5.2.trans q5.2⟩
    | _=>exact⟨fr2,st2,g2,r1,r2,r3,q4.trans r4,r5.1.trans q5.1,r5.2.trans q5.2⟩
  | _=>exact hc.elim
 | exit id=>intro h Q fr st g w a hc s hf hn;exact wp_exit ⟨fr,st,g,hc,s,hf,Ext.refl _ _,rfl,rfl⟩
 | ret=>intro h Q fr st g w a hc s hf hn;exact wp_ret ⟨fr,st,g,hc,s,hf,Ext.refl _ _,rfl,rfl⟩
 | _=>intro h Q fr st g w a hc s hf hn;exact hc.elim
def Hq (P:Program) (fr:Fr) (st:St):ResultVar->Option TV
 | .tmp t=>some (Hm fr t)
 | .cell a t=>match Gt P t with
  | some true=>match P.cellsOf t with
   | 0=>none
   | n=>(Aj st fr.loc (fr.slots.f a) 0 n).map .agg
  | some false=>Ak st fr.loc (fr.slots.f a) 0
  | none=>none
def Fp (P:Program) (fr:Fr) (st:St):List ResultVar->Option (List TV)
 | []=>some []
 | r::rs=>match Hq P fr st r with
  | some v=>(Fp P fr st rs).map (v::·)
  | none=>none
def LF:List TV->TV
 | [v]=>v
 | vs=> .tuple vs
def resT (P:Program) (fn:Func) (fr:Fr) (st:St):Option TV:=(Fp P fr st fn.results.toList).map LF
def J9 (P:Program) (fr:Fr) (st:St) (r:ResultVar) (k:TV->Prop):Prop:=
 match r with
 | .tmp t=>k (Hm fr t)
 | .cell a t=>match Gt P t with
  | some true=>match P.cellsOf t with
   | 0=>False
   | n=>Bc ((Aj st fr.loc (fr.slots.f a) 0 n).map .agg) k
  | some false=>Bc (Ak st fr.loc (fr.slots.f a) 0) k
  | none=>False
def GQ (P:Program) (fr:Fr) (st:St):List ResultVar->(List TV->Prop)->Prop
 | [],k=>k []
 | r::rs,k=>J9 P fr st r fun v=>GQ P fr st rs fun vs=>k (v::vs)
theorem Jl {P:Program} {fr:Fr} {st:St} {r:ResultVar} {k:TV->Prop} (h:J9 P fr st r k):∃v,Hq P fr st r=some v/\k v:=by
 cases r with
 | tmp t=>exact⟨_,rfl,h⟩
 | cell a t=>
  unfold J9 at h
  unfold Hq
  simp only at h⊢
  cases ha:Gt P t with
  | none=>rw[ha]at h;exact h.elim
  | some b=>
   rw[ha]at h
   cases b with
   | true=>
    simp only at h⊢
    cases hn:P.cellsOf t with
    | zero=>rw[hn]at h;exact h.elim
    | succ n=>
     rw[hn]at h
     exact Cb.1 h
   | false=>exact Cb.1 h
theorem FX {P:Program} {fr:Fr} {st:St}:∀{rs:List ResultVar} {k:List TV->Prop},GQ P fr st rs k->∃vs,Fp P fr st rs=some vs/\k vs
 | [],k,h=>⟨[],rfl,h⟩
 | r::rs,k,h=>by
  obtain⟨v,h1,h2⟩:=Jl h
  obtain⟨vs,h3,h4⟩:=FX h2
  exact⟨v::vs,by simp[Fp,h1,h3],h4⟩
def retQ (P:Program) (fn:Func) (R:TV->St->Prop):Exit->Fr->St->Prop
 | .normal,fr,st=>GQ P fr st fn.results.toList fun vs=>R (LF vs) st
 | .ret,fr,st=>GQ P fr st fn.results.toList fun vs=>R (LF vs) st
 | _,_,_=>False
def ED (cfg:Cfg) (fn:Func) (args:List TV):Fr:=⟨⟨fn.ntmps,fun i=>match args[i]? with | some v=> .t v | none=> .t .undef⟩,cfg.loc.map fun _=>none⟩
theorem J8 {g:Ghost} {st:St} {w:World} {fr:Fr} {tmps:Array Value} (s:Sim g st fr.loc w) (hf:DN g w fr tmps) {r:ResultVar} {v:TV} (h:Hq P fr st r=some v):
  ∃u,(match r with | .tmp t=>pure (tmps.getD t Go.undef) | .cell a t=>do loadVar t (<-asAddr (tmps.getD a Go.undef)):Sem Value).run P w= .ok u w/\Rel g w v u:=by
 cases r with
 | tmp t=>
  simp only[Hq,Option.some.injEq]at h
  subst h
  exact⟨_,rfl,(hf.2 t).tv⟩
 | cell a t=>
  simp only[Hq]at h
  have hld:∀p,AO g w fr.loc p (tmps.getD a Go.undef)->(Cp P st fr.loc t p).Is (.t v)->∃u,(do loadVar t (<-asAddr (tmps.getD a Go.undef)):Sem Value).run P w= .ok u w/\Rel g w v u:=by
   intro p hp hl
   have hl':=hl
   obtain⟨u,hu,hr⟩:=IM (P:=P) s hp hl'
   have hsa:(Instr.loadAt t (tmps.getD a Go.undef)).run P w=(do loadVar t (<-asAddr (tmps.getD a Go.undef)):Sem Value).run P w:=by
    generalize hq:tmps.getD a Go.undef=q at hp hu
    simp only[Instr.loadAt,Sem.run_bind]
    cases q with
    | pointer o=>cases o with
     | none=>simp[Instr.loadAt,Instr.sureAddr]at hu
     | some ad=>simp[Instr.sureAddr,asAddr]
    | _=>simp[Instr.loadAt,Instr.sureAddr]at hu
   exact⟨u,by rw[<-hsa];exact hu,hr⟩
  split at h
  ·rename_i ha
   split at h
   ·cases h
   ·rename_i n hn
    refine hld _ (hf.2 a) ?_
    unfold Cp
    rw[ha]
    exact⟨v,by
     split
     ·rename_i h0;exact absurd h0 hn
     ·exact h,rfl⟩
  ·rename_i ha
   refine hld _ (hf.2 a) ?_
   unfold Cp
   rw[ha]
   exact⟨v,h,rfl⟩
  ·cases h
theorem GP {g:Ghost} {st:St} {w:World} {fr:Fr} {tmps:Array Value} (s:Sim g st fr.loc w) (hf:DN g w fr tmps):∀{rs:List ResultVar} {vs:List TV},Fp P fr st rs=some vs->
  ∃us:List Value,(rs.mapM (fun r=>match r with | .tmp t=>pure (tmps.getD t Go.undef) | .cell a t=>do loadVar t (<-asAddr (tmps.getD a Go.undef))):Sem (List Value)).run P w= .ok us w/\Aq g w vs us
 | [],vs,h=>by simp only[Fp,Option.some.injEq]at h;subst h;exact⟨[],rfl,.nil _ _⟩
 | r::rs,vs,h=>by
  simp only[Fp]at h
  split at h
  ·rename_i v hv
   obtain⟨vs',hvs',rfl⟩:=Option.map_eq_some_iff.1 h
   obtain⟨u,hu,hr⟩:=J8 s hf hv
   obtain⟨us,hus,hrs⟩:=GP s hf hvs'
   refine⟨u::us,?_,.cons hr hrs⟩
   rw[List.mapM_cons]
   simp only[Sem.run_bind,hu,Result.andThen_ok,hus,Sem.run_pure]
  ·cases h
theorem LP {g:Ghost} {st:St} {w:World} {fr:Fr} {tmps:Array Value} (s:Sim g st fr.loc w) (hf:DN g w fr tmps) {fn:Func} {v:TV} (h:resT P fn fr st=some v):∃u,(results fn tmps).run P w= .ok u w/\Rel g w v u:=by
 unfold resT at h
 cases hr:Fp P fr st fn.results.toList with
 | none=>rw[hr]at h;cases h
 | some vs=>
  rw[hr]at h
  obtain⟨us,hus,hrel⟩:=GP s hf hr
  have hrun:(fn.results.mapM (fun r=>match r with | .tmp t=>pure (tmps.getD t Go.undef) | .cell a t=>do loadVar t (<-asAddr (tmps.getD a Go.undef))):Sem (Array Value)).run P w= .ok us.toArray w:=by
   rw[<-Array.toArray_toList (xs:=fn.results),List.mapM_toArray]
   simp only[Sem.run_map,hus,Result.andThen_ok]
  refine⟨if h:us.toArray.size=1 then us.toArray[0]else .tuple us.toArray,?_,?_⟩
  ·have hres:results fn tmps=(do
     let vs<-(fn.results.mapM (fun r=>match r with | .tmp t=>pure (tmps.getD t Go.undef) | .cell a t=>do loadVar t (<-asAddr (tmps.getD a Go.undef))):Sem (Array Value))
     pure (if h:vs.size=1 then vs[0]else .tuple vs)):=rfl
   rw[hres,Sem.run_bind,hrun]
   rfl
  ·cases vs with
   | nil=>
    simp only[Option.map_some,Option.some.injEq,LF]at h;subst h
    have:us=[]:=List.eq_nil_of_length_eq_zero hrel.1.symm
    subst this
    exact Rel.tuple [] [] rfl (fun i hi=>absurd hi (Nat.not_lt_zero _))
   | cons v1 vs1=>cases vs1 with
    | nil=>
     simp only[Option.map_some,Option.some.injEq,LF]at h;subst h
     cases us with
     | nil=>have:=hrel.1;simp at this
     | cons u1 us1=>
      have:us1=[]:=List.eq_nil_of_length_eq_zero (by have:=hrel.1;simpa using this.symm)
      subst this
      simpa using hrel.2 0 (by simp)
    | cons v2 vs2=>
     simp only[Option.map_some,Option.some.injEq,LF]at h;subst h
     have hl:us.toArray.size≠1:=by have:=hrel.1;simp at this⊢;omega
     rw[dif_neg hl]
     exact Rel.tuple _ us hrel.1 hrel.2
theorem Nu (hm:P.follows .mixedOrders=true) {f:FuncId} {fn:Func} {c:Code} (hcall:∀(vs:Array Value) (w:World),(callFunc f vs).run P w= .ok (.enter f vs) w) (hf:P.funcs[f]? =some fn) (hb:fn.body=some c)
  (cfg:Cfg) (h:FC) {args:List TV} {st:St} {R:TV->St->Prop} (hn:args.length<=fn.ntmps)
  (hc:cwp cfg P fn.ntmps cfg.loc.length c h (retQ P fn R) (ED cfg fn args) st):DM P f args st R:=by
 refine Co hcall fun g w vargs s hr=>?_
 refine calls_of_wp hf hb ?_
 have hlen:vargs.length=args.length:=hr.1.symm
 have hsize:(vargs.toArray++Array.replicate (fn.ntmps-vargs.toArray.size) Go.undef).size=fn.ntmps:=by simp;omega
 have hsim:Sim g st (ED cfg fn args).loc w:=s.weakLoc fun j x' hx'=>by
  simp only[ED,List.getElem?_map]at hx'
  cases hq:cfg.loc[j]? with
  | none=>rw[hq]at hx';cases hx'
  | some q=>rw[hq]at hx';simp at hx'
 have hfr:DN g w (ED cfg fn args) (vargs.toArray++Array.replicate (fn.ntmps-vargs.toArray.size) Go.undef):=by
  refine⟨by rw[hsize];rfl,fun i=>?_⟩
  by_cases hia:i<args.length
  ·have h1:(ED cfg fn args).slots.f i= .t args[i]:=by simp[ED,hia]
   have h2:(vargs.toArray++Array.replicate (fn.ntmps-vargs.toArray.size) Go.undef).getD i Go.undef=vargs.getD i Go.undef:=by
    have:i<vargs.length:=by omega
    have hin:i<fn.ntmps:=by omega
    simp[Array.getD,Array.getElem_append,this,hin,List.getD_eq_getElem?_getD]
    omega
   rw[h1,h2]
   exact hr.2 i hia
  ·have h1:(ED cfg fn args).slots.f i= .t .undef:=by simp[ED,hia]
   have h2:(vargs.toArray++Array.replicate (fn.ntmps-vargs.toArray.size) Go.undef).getD i Go.undef=Go.undef:=by
    have:¬i<vargs.length:=by omega
    simp[Array.getD,Array.getElem_append,this]
   rw[h1,h2]
   exact Rel.undef
 refine wp_mono (N2 hm c h _ _ st g w {tmps:=vargs.toArray++Array.replicate (fn.ntmps-vargs.toArray.size) Go.undef,defers:=[]} hc hsim hfr hsize) fun e a' w' hq=>?_
 obtain⟨fr',st',g',h1,h2,h3,h4,h5,h6⟩:=hq
 have fin:GQ P fr' st' fn.results.toList (fun vs=>R (LF vs) st')->a'.defers=[]/\∃v,(results fn a'.tmps).run P w'= .ok v w'/\∃v',Ending.returned v= .returned v'/\∃r st' g',R r st'/\Sim g' st' [] w'/\Rel g' w' r v'/\Ext g w g' w':=by
  intro ho
  obtain⟨vs,hvs,hR⟩:=FX ho
  obtain⟨u,hu,hrel⟩:=LP (fn:=fn) h2 h3 (by unfold resT;rw[hvs];rfl)
  exact⟨h5,u,hu,u,rfl,_,st',g',hR,h2.dropLoc (fun j x hx=>by simp at hx),hrel,h4⟩
 cases e with
 | normal=>exact fin h1
 | ret=>exact fin h1
 | _=>exact h1.elim
def St.zero:St:={nb:=0,box:=fun _=> .dead,nt:=0,live:=fun _=>false,ty:=fun _=>none,bt:=fun _=>none}
def Ghost.start (w:World):Ghost:={base:=w.heap.size,w0:=w,nb:=0,bk:=fun _=>0,lam:=fun _=>0,nt:=0,sp:=fun _=>none,S:=fun a=>a.spot=none/\∃v,w.cell? a=some v,prot:=fun _=>False}
theorem Sim.start (w:World) (hG:∀w',Below w.heap.size w w'->Kv w'):Sim (Ghost.start w) St.zero [] w:=by
 have hd:∀k,¬Dom St.zero [] k:=by
  intro k d
  cases k with
  | box i=>exact absurd d (Nat.not_lt_zero _)
  | loc i=>obtain⟨x,hx⟩:=d;simp at hx
 exact⟨rfl,rfl,Below.refl _ _,Nat.le_refl _,fun k d=>absurd d (hd k),fun k k' d=>absurd d (hd k),fun k d=>absurd d (hd k),fun id h=>absurd h (Nat.not_lt_zero _),
  fun id b l h hh=>(by cases hh),fun i j b l h l' h' _ hh=>(by cases hh),fun id _=>rfl,fun a ha=>⟨ha.1,ha.2,fun k d=>absurd d (hd k),fun id l h hh=>(by cases hh)⟩,fun b hb=>hb.elim,fun id b l h hh=>(by cases hh),fun id b l h T hh=>(by cases hh),fun b T hb=>absurd hb (Nat.not_lt_zero _),hG⟩
theorem Mu {f:FuncId} {args:List TV} (hcall:∀(vs:Array Value) (w:World),(callFunc f vs).run P w= .ok (.enter f vs) w) (h:DM P f args St.zero fun r _=>r= .bool true) (w:World) (hG:∀w',Below w.heap.size w w'->Kv w') (vargs:List Value) (hr:Aq (Ghost.start w) w args vargs):
  Calls P f vargs.toArray w fun e w'=>e= .returned (.bool true)/\Below w.heap.size w w':=by
 have h1:=h.run (Ghost.start w) w vargs (Sim.start w hG) hr
 unfold BX at h1
 rw[hcall]at h1
 refine Calls.mono h1 ?_
 rintro e w' ⟨v,rfl,r,st',g',rfl,s',hrel,e'⟩
 have hb:=s'.below
 rw[e'.base,e'.w0]at hb
 cases hrel
 exact⟨rfl,hb⟩
end
def My (fn:Func):Code:=match fn.body with | some c=>c | none=> .skip
def Fw (cfg:Cfg) (P:Program) (h:FC) (fn:Func) (args:List TV) (st:St) (R:TV->St->Prop):Prop:=
 cwp cfg P fn.ntmps cfg.loc.length (My fn) h (retQ P fn R) (ED cfg fn args) st
def fits (fn:Func) (args:List TV):Bool:=(fn.body.isSome).and (args.length.ble fn.ntmps)
theorem Ab {P:Program} (hm:P.follows .mixedOrders=true) {f:FuncId} {fn:Func} (hcall:∀(vs:Array Value) (w:World),(callFunc f vs).run P w= .ok (.enter f vs) w) (hf:P.funcs[f]? =some fn)
  {cfg:Cfg} {h:FC} {args:List TV} {st:St} {R:TV->St->Prop} (hn:fits fn args=true) {V:Prop} (he:Fw cfg P h fn args st R=V) (hV:V):DM P f args st R:=by
 simp only[fits,Bool.and_eq_true]at hn
 obtain⟨c,hc⟩:=Option.isSome_iff_exists.1 hn.1
 have hb:fn.body=some (My fn):=by rw[My,hc]
 rw[<-he]at hV
 exact Nu hm hcall hf hb cfg h (Nat.le_of_ble_eq_true hn.2) hV
def Pd (cs:List CTy) (v:TV) (f:Fun cs Prop):Prop:=
 match v with
 | .agg l=>decL cs l f
 | _=>False
def stB (st:St) (p:TV) (xs:List TV) (k:St->Prop):Prop:=
 match p with
 | .box b off=>∃l,st.box b= .cells l/\off+xs.length<=l.length/\k (st.put b (.cells (setAll l off xs)))
 | _=>False
theorem Aa {p:Prop} [Decidable p] {x y:Prop} (h1:p->x) (h2:¬p->y):BIf (decide p) x y:=by
 by_cases h:p
 ·simp only[h,decide_true,BIf];exact h1 h
 ·simp only[h,decide_false,BIf];exact h2 h
theorem Ap {b:Bool} {x y:Prop} (h1:b=true->x) (h2:b=false->y):BIf b x y:=by
 cases b
 ·exact h2 rfl
 ·exact h1 rfl
end Go.TVF
end
section
namespace Go.TVF
open Go.IntKind(i64 u8)
structure Ae (a b:St):Prop where
 nb:a.nb<=b.nb
 box:∀i,i<a.nb->b.box i=a.box i
 nt:a.nt<=b.nt
 live:∀i,i<a.nt->b.live i=a.live i
 ty:∀i,i<a.nt->b.ty i=a.ty i
 bt:∀i,i<a.nb->b.bt i=a.bt i
theorem Ae.refl (a:St):Ae a a:=⟨Nat.le_refl _,fun _ _=>rfl,Nat.le_refl _,fun _ _=>rfl,fun _ _=>rfl,fun _ _=>rfl⟩
theorem Ae.trans {a b c:St} (h:Ae a b) (k:Ae b c):Ae a c:=
 ⟨Nat.le_trans h.nb k.nb,fun i hi=>(k.box i (Nat.lt_of_lt_of_le hi h.nb)).trans (h.box i hi),Nat.le_trans h.nt k.nt,fun i hi=>(k.live i (Nat.lt_of_lt_of_le hi h.nt)).trans (h.live i hi),fun i hi=>(k.ty i (Nat.lt_of_lt_of_le hi h.nt)).trans (h.ty i hi),fun i hi=>(k.bt i (Nat.lt_of_lt_of_le hi h.nb)).trans (h.bt i hi)⟩
theorem Ae.fresh {a b:St} (h:Ae a b) (T:Option Nat):Ae a (b.fresh T):=
 h.trans ⟨Nat.le_refl _,fun _ _=>rfl,Nat.le_succ _,fun i hi=>by simp only[St.fresh];rw[if_neg (by omega)],fun i hi=>by simp only[St.fresh];rw[if_neg (by omega)],fun _ _=>rfl⟩
theorem Ae.push {a b:St} (h:Ae a b) (o:Gv) (T:Option Nat):Ae a (b.push o T):=
 h.trans ⟨Nat.le_succ _,fun i hi=>by simp only[St.push];rw[if_neg (by omega)],Nat.le_refl _,fun _ _=>rfl,fun _ _=>rfl,fun i hi=>by simp only[St.push];rw[if_neg (by omega)]⟩
theorem Ae.retire {a b:St} (h:Ae a b) {id:Nat} (hid:a.nt<=id):Ae a (b.retire id):=
 ⟨h.nb,h.box,h.nt,fun i hi=>by simp only[St.retire];rw[if_neg (by omega)];exact h.live i hi,h.ty,h.bt⟩
theorem Ae.put {a b:St} (h:Ae a b) {i:Nat} (hi:a.nb<=i) (o:Gv):Ae a (b.put i o):=
 ⟨h.nb,fun j hj=>by simp only[St.put];rw[if_neg (by omega)];exact h.box j hj,h.nt,h.live,h.ty,h.bt⟩
theorem Cd (l:B8):(Ai l).length=l.length:=by simp[Ai]
theorem A7:∀l:B8,Cy (Ai l)=some l
 | []=>rfl
 | c::l=>by
  have:=A7 l
  simp only[Ai]at this
  simp[Ai,Cy,Cg,MA,this]
theorem LY (l:B8):(Ai l).all BK=true:=by simp[Ai,Cg,BK]
theorem F6 (a b:B8):Ai a++Ai b=Ai (a++b):=by simp[Ai]
def Rd (sz:Nat) (v:TV) (n:Nat) (xs:List TV):Prop:=
 (v= .nilSlice/\n=0/\xs=[])∨∃tip,v= .list sz tip n xs
def RdB (v:TV) (l:B8):Prop:=Rd 1 v l.length (Ai l)
def Own (b sz:Nat) (st:St) (v:TV) (n:Nat) (xs:List TV):Prop:=
 (v= .nilSlice/\n=0/\xs=[])∨∃tip,v= .list sz tip n xs/\(tip= .full∨∃id,tip= .own id/\b<=id/\id<st.nt/\st.live id=true)
def G8 (b:Nat) (st:St) (v:TV) (l:B8):Prop:=Own b 1 st v l.length (Ai l)
theorem Own.rd {b sz:Nat} {st:St} {v:TV} {n:Nat} {xs:List TV} (h:Own b sz st v n xs):Rd sz v n xs:=by
 rcases h with h | ⟨tip,h,_⟩
 ·exact .inl h
 ·exact .inr ⟨tip,h⟩
theorem G8.rd {b:Nat} {st:St} {v:TV} {l:B8} (h:G8 b st v l):RdB v l:=Own.rd h
theorem Own.nil (b sz:Nat) (st:St):Own b sz st .nilSlice 0 []:= .inl ⟨rfl,rfl,rfl⟩
theorem G8.nil (b:Nat) (st:St):G8 b st .nilSlice []:=Own.nil b 1 st
theorem Own.full (b sz:Nat) (st:St) (n:Nat) (xs:List TV):Own b sz st (.list sz .full n xs) n xs:= .inr ⟨_,rfl,.inl rfl⟩
theorem Own.fresh {b sz:Nat} {st:St} {T:Option Nat} (n:Nat) (xs:List TV) (hb:b<=st.nt):Own b sz (st.fresh T) (.list sz (.own st.nt) n xs) n xs:=
 .inr ⟨_,rfl,.inr ⟨st.nt,rfl,hb,Nat.lt_succ_self _,by simp[St.fresh]⟩⟩
theorem RdB.toBytes {v:TV} {l:B8} (h:RdB v l) (st:St):TVF.toBytes st v=some l:=by
 rcases h with⟨rfl,h1,h2⟩ | ⟨tip,rfl⟩
 ·have:l=[]:=List.eq_nil_of_length_eq_zero h1
  subst this;rfl
 ·simp[TVF.toBytes,A7]
theorem Jg {T b sz bytes:Nat} {st0 st:St} {v:TV} {n k:Nat} {xs ys:List TV} {K:TV->St->Prop} (e:Ae st0 st) (hb:b=st0.nt) (h:Own b sz st v n xs) (hby:(n+k)*bytes<=140737488355328) (hys:k=0->ys=[])
  (hK:∀v' st',Ae st0 st'->st'.box=st.box->Own b sz st' v' (n+k) (xs++ys)->K v' st'):Bp T sz bytes v k ys st K:=by
 subst hb
 rcases h with⟨rfl,rfl,rfl⟩ | ⟨tip,rfl,ht⟩
 ·simp only[Bp]
  cases k with
  | zero=>rw[hys rfl]at hK;exact hK _ _ e rfl (.nil _ _ _)
  | succ m=>
   simp only[Ad]
   refine⟨by simpa using hby,hK _ _ (e.fresh _) rfl ?_⟩
   simp only[List.nil_append,Nat.zero_add]
   exact Own.fresh _ _ e.nt
 ·simp only[Bp,Nat.beq_refl]
  refine⟨hby,?_⟩
  rcases ht with rfl | ⟨id,rfl,h1,h2,h3⟩
  ·cases k with
   | zero=>rw[hys rfl]at hK;simp only[List.append_nil]at hK;exact hK _ _ e rfl (Own.full _ _ _ _ _)
   | succ m=>exact hK _ _ (e.fresh _) rfl (Own.fresh _ _ e.nt)
  ·exact⟨h3,hK _ _ ((e.retire h1).fresh _) rfl (Own.fresh (st:=st.retire id) _ _ e.nt)⟩
theorem MB {T:Nat} {st0 st:St} {v:TV} {l ys:B8} {K:TV->St->Prop} (e:Ae st0 st) (h:G8 st0.nt st v l) (hby:l.length+ys.length<=140737488355328)
  (hK:∀v' st',Ae st0 st'->st'.box=st.box->G8 st0.nt st' v' (l++ys)->K v' st'):Bp T 1 1 v ys.length (Ai ys) st K:=
 Jg e rfl h (by omega) (fun h0=>by rw[List.eq_nil_of_length_eq_zero h0];rfl) fun v' st' h1 h2 h3=>hK v' st' h1 h2 (by
  unfold G8
  rw[List.length_append,<-F6];exact h3)
theorem AH {b:Bool} {k:Prop} (h:b=true) (hk:k):need b k:=Ad.2 ⟨h,hk⟩
theorem Am {α:Type} {o:Option α} {x:α} {k:α->Prop} (h:o=some x) (hk:k x):Bc o k:=by rw[h];exact hk
theorem Ac (x:Int) (h1: -9223372036854775808<=x) (h2:x<=9223372036854775807):IntKind.wrap .i64 x=x:=by
 unfold IntKind.wrap
 simp only[IntKind.signed,IntKind.bits]
 simp
 omega
theorem Ii (x:Int) (h1:0<=x) (h2:x<=255):IntKind.wrap .u8 x=x:=by
 unfold IntKind.wrap
 simp only[IntKind.signed,IntKind.bits]
 simp
 omega
end Go.TVF
end
section
namespace Go.TVF
open Go.IntKind(i64 u8)
open Go.RowKit (Below)
theorem Po {r:TV} {st':St} (h:D7 [.one .bool] r (fun (b:Bool) (_:St)=>b=true) (fun p=>p st')):r= .bool true:=by
 cases r<;>simp only[D7,DK,A6]at h<;>first | exact h.elim | skip
 subst h;rfl
theorem calls_law {P:Program} {f:FuncId} {args:List TV} (hcall:∀(vs:Array Value) (w:World),(callFunc f vs).run P w= .ok (.enter f vs) w) (h:CallT P f args [.one .bool] St.zero (fun r _=>r=true)) (w:World) (hG:∀w',Below w.heap.size w w'->Kv w') (vargs:List Value) (hr:Aq (Ghost.start w) w args vargs):
  Calls P f vargs.toArray w fun e w'=>e= .returned (.bool true)/\Below w.heap.size w w':=
 Mu hcall (DM.mono h fun r st' hd=>Po hd) w hG vargs hr
theorem Iz (g:Ghost) (w:World) (s:ByteArray):Rel g w (.str s.data.toList) (.string s):=by
 have:=Rel.str (g:=g) (w:=w) s.data.toList
 simpa using this
def IV:List CTy->List TV->Prop
 | [],xs=>xs=[]
 | .int k::cs,xs=>∃n ys,xs= .int k n::ys/\(Lit.int k n).wf=true/\IV cs ys
 | .str::cs,xs=>∃l ys,xs= .str l::ys/\l.length<=maxLen/\IV cs ys
 | .bool::cs,xs=>∃b ys,xs= .bool b::ys/\IV cs ys
 | .tv::_,_=>False
def Py (P:Program):CTy->TypeId->Prop
 | .int k,t=>P.underlying t=some (.int k)
 | .bool,t=>P.underlying t=some .bool
 | .str,t=>P.underlying t=some .string
 | .tv,_=>False
section
variable {H:Type} {enc:TypeId×Value->H} {P:Program} {w:World} {base:Nat} {sp:Nat->Bool} {held:Bool}
theorem NL {c:CTy} {t:TypeId} {fuel:Nat} {cs:List Value} {x:DataW H×List MemPlace} (g:Ghost) (hc:Py P c t) (h:DataW.trod enc P w base sp held fuel t cs=some x):
  ∃v u,cs=[u]/\Rel g w v u/\IV [c] [v]:=by
 cases c with
 | int k=>
  obtain⟨n,rfl,_,hw⟩:=DataW.trod_int hc h
  exact⟨_,_,rfl,.int k n,n,[],rfl,hw,rfl⟩
 | bool=>
  obtain⟨b,rfl,_⟩:=DataW.trod_bool hc h
  exact⟨_,_,rfl,.bool b,b,[],rfl,rfl⟩
 | str=>
  obtain⟨s,rfl,_,hs⟩:=DataW.trod_string hc h
  exact⟨_,_,rfl,Iz g w s,_,[],rfl,by rw[Array.length_toList];exact hs,rfl⟩
 | tv=>exact hc.elim
theorem ME (b off i:Nat):(⟨b,off,none⟩:Addr).add i=⟨b,off+i,none⟩:=by
 unfold Addr.add;split
 ·rename_i h;subst h;rfl
 ·rfl
end
end Go.TVF
end
namespace Go.TVF
open Go.IntKind(i64 u8)
open Go Go.Proofs
theorem mixed:Tryz.prog.follows .mixedOrders=true:=by kernel_rfl
noncomputable def PR:Program:=Tryz.prog
abbrev V13(X:Type):=Int->Bool->Bool->B8->Int->Int->Int->Int->Int->B8->TV->TV->TV->X
abbrev sV:RTy:=.agg [.int .i64,.bool,.bool,.str,.int .i64,.int .i64,.int .i64,.int .i64,.int .i64,.str,.tv,.tv,.tv]
abbrev cV(a:Int)(b c:Bool)(d:B8)(e f g h i:Int)(j:B8)(k l m:TV):List TV:=[.int .i64 a,.bool b,.bool c,.str d,.int .i64 e,.int .i64 f,.int .i64 g,.int .i64 h,.int .i64 i,.str j,k,l,m]
abbrev BId(p:Prop)[Decidable p](a b:Prop):Prop:=BIf (decide p) a b
def fn_datakitlaw24_TablelexShows:Nat:=7
def AC:Nat:=27
def BE:Nat:=30
def Bn:Nat:=31
def AQ:Nat:=32
def A9:Nat:=38
def CM:Nat:=43
def B0:Nat:=63
def B4:Nat:=64
def Dg:Nat:=71
def DG:Nat:=72
def Cr:Nat:=73
def BT:Nat:=74
def BR:Nat:=75
def CH:Nat:=76
def Bh:Nat:=83
def Dc:Nat:=87
def AX:Nat:=88
def AW:Nat:=89
def BQ:Nat:=107
def As:Nat:=109
def Db:Nat:=111
def AM:Nat:=112
def BO:Nat:=113
def CN:Nat:=131
def Cs:Nat:=132
def B1:Nat:=133
def Dd:Nat:=134
def AN:Nat:=135
def AJ:Nat:=136
def BP:Nat:=137
def Ax:Nat:=138
def AU:Nat:=139
def A2:Nat:=140
def Ba:Nat:=141
def BS:Nat:=142
def Ah:Nat:=143
def AB:Nat:=144
def Bv:Nat:=145
def BA:Nat:=146
def Bl:Nat:=158
def Aw:Nat:=167
def Ar:Nat:=168
def Bz:Nat:=169
def A5:Nat:=204
def BH:Nat:=205
def BZ:Nat:=206
def B3:Nat:=207
def Cq:Nat:=208
def Bu:Nat:=209
def Bt:Nat:=210
def Ce:Nat:=211
def Az:Nat:=222
def Bi:Nat:=223
def A1:Nat:=225
def BC:Nat:=229
def AL:Nat:=230
def Df:Nat:=232
def De:Nat:=233
def Cu:Nat:=238
def CP:Nat:=239
def Al:Nat:=240
def AV:Nat:=242
def BB:Nat:=243
def AT:Nat:=244
def DH:Nat:=245
def AZ:Nat:=246
def B5:Nat:=247
def B6:Nat:=257
def Bb:Nat:=258
def AE:Nat:=259
def Bk:Nat:=279
def Be:Nat:=280
def BN:Nat:=281
def CZ:Nat:=284
def BI:Nat:=287
def CO:Nat:=288
def A0:Nat:=290
def BD:Nat:=291
def AF:Nat:=292
def D4:Nat:=293
def Ct:Nat:=298
def DX:Nat:=299
def Bd:Nat:=318
def Bw:Nat:=319
def Ol:B8:=[97,46,98,32,61,32,49,46,53]
def str1:B8:=[50,48,50,52,45,48,50,45,50,57,32,49,48,58,48,48,58,48,48,90,93]
def str2:B8:=[39,97,92,98,39]
def str3:B8:=[97,46,98]
def str4:B8:=[50,48,50,52,45,48,50,45,50,57,32,49,48,58,48,48,58,48,48,90]
def str5:B8:=[97,92,98]
def str6:B8:=[97,45,49]
def str7:B8:=[116,114,117,101]
def str8:B8:=[102,97,108,115,101]
def Bf:B8:=[45]
def BG:B8:=[46]
def HK:B8:=[43]
def HJ:B8:=[48]
def HI:B8:=[48,46]
def Ok:B8:=[101,45]
def GJ:B8:=[101]
def DS:B8:=[84]
def FU:B8:=[34,92,8,12,10,13,9]
def KN:B8:=[34,92,98,102,110,114,116]
def Bq:B8:=[48,49,50,51,52,53,54,55,56,57,97,98,99,100,101,102]
def Oj:B8:=[91,93,123,125,44,61]
def Fj:B8:=[34,92,47,98,102,110,114,116]
def JA:B8:=[34,92,47,8,12,10,13,9]
def str30:B8:=[90]
def AS:B8:=[58]
def MR:B8:=[34]
def MQ:B8:=[92,34]
def MP:B8:=[92,92]
def MO:B8:=[92,98]
def MN:B8:=[92,102]
def MM:B8:=[92,110]
def ML:B8:=[92,114]
def MK:B8:=[92,116]
def Jz:B8:=[92,117,48,48]
def Jy:B8:=[13,10]
def Oi:B8:=[48,48,48,48,45,48,48,45,48,48]
def Oh:B8:=[32,48,48,58]
def Og:B8:=[48,49,50,51,52,53,54,55,56,57,97,98,99,100,101,102,65,66,67,68,69,70]
theorem CW (v_0:Int) (v_1:Bool) (v_2:Bool) (v_3:B8) (v_4:Int) (v_5:Int) (v_6:Int) (v_7:Int) (v_8:Int) (v_9:B8) (v_10:TV) (v_11:TV) (v_12:TV) (st:St) (K:Bool->St->Prop) (h:BId ((0:Int)<=v_0) (BId (v_0<6) (CallT PR BE [(.agg (cV v_0 v_1 v_2 v_3 v_4 v_5 v_6 v_7 v_8 v_9 v_10 v_11 v_12))] [.one .bool] st (fun (b1:Bool) d=>BIf (!b1) (CallT PR AC [] [.one .bool] d (fun (b2:Bool) f=>K b2 f)) (CallT PR Bn [(.agg (cV v_0 v_1 v_2 v_3 v_4 v_5 v_6 v_7 v_8 v_9 v_10 v_11 v_12))] [.one .str,.one (.int .i64)] d (fun (s1:B8) (n1:Int) k=>CallT PR AQ [(.agg (cV v_0 v_1 v_2 v_3 v_4 v_5 v_6 v_7 v_8 v_9 v_10 v_11 v_12))] [.one .str,.one (.int .i64)] k (fun (s2:B8) (n2:Int) c=>BId (s1=s2) (BId (n1=n2) (CallT PR AC [] [.one .bool] c (fun (b3:Bool) l=>K b3 l)) (K false c)) (K false c)))))) (CallT PR Bn [(.agg (cV v_0 v_1 v_2 v_3 v_4 v_5 v_6 v_7 v_8 v_9 v_10 v_11 v_12))] [.one .str,.one (.int .i64)] st (fun (s3:B8) (n3:Int) j=>CallT PR AQ [(.agg (cV v_0 v_1 v_2 v_3 v_4 v_5 v_6 v_7 v_8 v_9 v_10 v_11 v_12))] [.one .str,.one (.int .i64)] j (fun (s4:B8) (n4:Int) b=>BId (s3=s4) (BId (n3=n4) (CallT PR AC [] [.one .bool] b (fun (b4:Bool) g=>K b4 g)) (K false b)) (K false b))))) (CallT PR Bn [(.agg (cV v_0 v_1 v_2 v_3 v_4 v_5 v_6 v_7 v_8 v_9 v_10 v_11 v_12))] [.one .str,.one (.int .i64)] st (fun (s5:B8) (n5:Int) i=>CallT PR AQ [(.agg (cV v_0 v_1 v_2 v_3 v_4 v_5 v_6 v_7 v_8 v_9 v_10 v_11 v_12))] [.one .str,.one (.int .i64)] i (fun (s6:B8) (n6:Int) a=>BId (s5=s6) (BId (n5=n6) (CallT PR AC [] [.one .bool] a (fun (b5:Bool) e=>K b5 e)) (K false a)) (K false a))))):CallT PR fn_datakitlaw24_TablelexShows [(.agg (cV v_0 v_1 v_2 v_3 v_4 v_5 v_6 v_7 v_8 v_9 v_10 v_11 v_12))] [.one .bool] st K:=
 Ab (cfg:=⟨[1],[],[]⟩) (h:= .none) mixed (fun _ _=>Tryz.call7 _ _) Tryz.func7 (by kernel_rfl) (by kernel_rfl) h
theorem E4 (st:St) (K:Bool->St->Prop) (h:CallT PR B0 [.str Ol,.int .i64 0] [.agg [.int .i64,.str,.int .i64],.one (.int .i64)] st (fun (n1:Int) (s1:B8) (n2 n3:Int) d=>CallT PR B0 [.str str1,.int .i64 0] [.agg [.int .i64,.str,.int .i64],.one (.int .i64)] d (fun (n4:Int) (s2:B8) (n5 n6:Int) b=>CallT PR B4 [.str str2] [.one .str,.one (.int .i64)] b (fun (s3:B8) (n7:Int) a=>BIf (decide (n1=(6:Int))&&(decide (s1=str3)&&(decide (n2=(0:Int))&&true))) (BId (n3=0) (BId (s2=str4) (BId (n6=0) (BId (s3=str5) (BId (n7=0) (CallT PR CM [.str str6] [.one .bool] a (fun (b1:Bool) c=>K b1 c)) (K false a)) (K false a)) (K false a)) (K false a)) (K false a)) (K false a))))):CallT PR AC [] [.one .bool] st K:=
 Ab (cfg:=⟨[1,3],[],[]⟩) (h:= .none) mixed (fun _ _=>Tryz.call27 _ _) Tryz.func27 (by kernel_rfl) (by kernel_rfl) h
theorem E3 (v_0:Int) (v_1:Bool) (v_2:Bool) (v_3:B8) (v_4:Int) (v_5:Int) (v_6:Int) (v_7:Int) (v_8:Int) (v_9:B8) (v_10:TV) (v_11:TV) (v_12:TV) (st:St) (K:Bool->St->Prop) (h:BId ((0:Int)<=v_0) (BId (v_0<6) (BId ((v_9.length:Int)<=(2000:Int)) (need (isSl v_10) (BId ((lenS v_10:Int)<=(2000:Int)) (need (isSl v_11) (BId ((lenS v_11:Int)=(0:Int)) (need (isSl v_12) (BId ((lenS v_12:Int)=(0:Int)) (CallT PR A9 [(.agg (cV v_0 v_1 v_2 v_3 v_4 v_5 v_6 v_7 v_8 v_9 v_10 v_11 v_12))] [.one (.int .i64)] st (fun (n1:Int) a=>K ((decide (n1=0))) a)) (K false st))) (K false st))) (K false st))) (K false st)) (K false st)) (K false st)):CallT PR BE [(.agg (cV v_0 v_1 v_2 v_3 v_4 v_5 v_6 v_7 v_8 v_9 v_10 v_11 v_12))] [.one .bool] st K:=
 Ab (cfg:=⟨[1],[],[]⟩) (h:= .none) mixed (fun _ _=>Tryz.call30 _ _) Tryz.func30 (by kernel_rfl) (by kernel_rfl) h
theorem Hd (v_0:Int) (v_1:Bool) (v_2:Bool) (v_3:B8) (v_4:Int) (v_5:Int) (v_6:Int) (v_7:Int) (v_8:Int) (v_9:B8) (v_10:TV) (v_11:TV) (v_12:TV) (st:St) (K:B8->Int->St->Prop) (h:BId (v_0=1) (BIf v_1 (K str7 0 st) (K str8 0 st)) (BId (v_0=2) (CallT PR Dg [(.agg [.bool v_2,.str v_3,.int .i64 v_4])] [.one .str] st (fun (s1:B8) c=>K s1 0 c)) (BId (v_0=3) (CallT PR DG [(.agg [.int .i64 v_5,.int .i64 v_6,.int .i64 v_7,.int .i64 v_8])] [.one .str] st (fun (s2:B8) a=>K s2 0 a)) (BId (v_0=4) (CallT PR Cr [.str v_9] [.one .str,.one (.int .i64)] st (fun (s3:B8) (n1:Int) b=>K s3 n1 b)) (BId (v_0=0) (BId (v_0=0) (K [] 27 st) (K [] 6 st)) (BId (v_0=5) (K [] 27 st) (K [] 6 st))))))):CallT PR Bn [(.agg (cV v_0 v_1 v_2 v_3 v_4 v_5 v_6 v_7 v_8 v_9 v_10 v_11 v_12))] [.one .str,.one (.int .i64)] st K:=
 Ab (cfg:=⟨[1],[],[]⟩) (h:= .none) mixed (fun _ _=>Tryz.call31 _ _) Tryz.func31 (by kernel_rfl) (by kernel_rfl) h
theorem Fb (v_0:Int) (v_1:Bool) (v_2:Bool) (v_3:B8) (v_4:Int) (v_5:Int) (v_6:Int) (v_7:Int) (v_8:Int) (v_9:B8) (v_10:TV) (v_11:TV) (v_12:TV) (st:St) (K:B8->Int->St->Prop) (h:∃(C1:Bool->Int->V13 (St->Prop)),(BId (v_0=0) (C1 ((decide (v_0=0))) v_0 v_0 v_1 v_2 v_3 v_4 v_5 v_6 v_7 v_8 v_9 v_10 v_11 v_12 st) (C1 ((decide (v_0=5))) v_0 v_0 v_1 v_2 v_3 v_4 v_5 v_6 v_7 v_8 v_9 v_10 v_11 v_12 st))/\∀c b n1 b1 b2 s1 n2 n3 n4 n5 n6 s2 v1 v2 v3 a,C1 c b n1 b1 b2 s1 n2 n3 n4 n5 n6 s2 v1 v2 v3 a->(BIf c (K [] 27 a) (BId (b=1) (BIf b1 (K str7 0 a) (K str8 0 a)) (BId (b=2) (CallT PR BT [(.agg [.bool b2,.str s1,.int .i64 n2])] [.one .str] a (fun (s3:B8) d=>K s3 0 d)) (BId (b=3) (CallT PR BR [(.agg [.int .i64 n3,.int .i64 n4,.int .i64 n5,.int .i64 n6])] [.one .str] a (fun (s4:B8) f=>K s4 0 f)) (BId (b=4) (CallT PR CH [.str s2] [.one .str,.one (.int .i64)] a (fun (s5:B8) (n7:Int) e=>K s5 n7 e)) (K [] 6 a))))))):CallT PR AQ [(.agg (cV v_0 v_1 v_2 v_3 v_4 v_5 v_6 v_7 v_8 v_9 v_10 v_11 v_12))] [.one .str,.one (.int .i64)] st K:=
 Ab (cfg:=⟨[1],[],[]⟩) (h:=(.seq .none (.seq (.seq .none (.block (.cut ⟨[(6,.bool),(5,.int .i64)],[(1,0,0)],[(0,13)],[(0,0,.int .i64),(0,1,.bool),(0,2,.bool),(0,3,.str),(0,4,.int .i64),(0,5,.int .i64),(0,6,.int .i64),(0,7,.int .i64),(0,8,.int .i64),(0,9,.str),(0,10,.tv),(0,11,.tv),(0,12,.tv)]⟩ .none .none))) .none))) mixed (fun _ _=>Tryz.call32 _ _) Tryz.func32 (by kernel_rfl) (by kernel_rfl) h
theorem CD (v_0:Int) (v_1:Bool) (v_2:Bool) (v_3:B8) (v_4:Int) (v_5:Int) (v_6:Int) (v_7:Int) (v_8:Int) (v_9:B8) (v_10:TV) (v_11:TV) (v_12:TV) (st:St) (K:Int->St->Prop) (h:CallT PR Bh [(.agg (cV v_0 v_1 v_2 v_3 v_4 v_5 v_6 v_7 v_8 v_9 v_10 v_11 v_12)),.int .i64 1,.int .i64 0] [.one (.int .i64),.one (.int .i64)] st (fun (n1 n2:Int) a=>K n2 a)):CallT PR A9 [(.agg (cV v_0 v_1 v_2 v_3 v_4 v_5 v_6 v_7 v_8 v_9 v_10 v_11 v_12))] [.one (.int .i64)] st K:=
 Ab (cfg:=⟨[1],[],[]⟩) (h:= .none) mixed (fun _ _=>Tryz.call38 _ _) Tryz.func38 (by kernel_rfl) (by kernel_rfl) h
theorem Hf (s:B8) (st:St) (K:Bool->St->Prop) (h:CallT PR AX [] [.one .tv,.one .tv] st (fun (v1 v2:TV) a=>BId (s≠([]:B8)) (CallT PR AW [.str s,.int .i64 0,v1] [.one (.int .i64)] a (fun (n1:Int) b=>K ((decide (n1=(s.length:Int)))) b)) (K false a))):CallT PR CM [.str s] [.one .bool] st K:=
 Ab (cfg:=⟨[],[],[]⟩) (h:= .none) mixed (fun _ _=>Tryz.call43 _ _) Tryz.func43 (by kernel_rfl) (by kernel_rfl) h
theorem He (src:B8) (atx:Int) (st:St) (K:Int->B8->Int->Int->St->Prop) (h:BId (atx<0) (K 0 [] 0 1 st) (BId ((src.length:Int)<atx) (K 0 [] 0 1 st) (BId (atx=(src.length:Int)) (K 0 [] 0 7 st) (CallT PR Db [.str src,.int .i64 atx] [.one (.int .i64),.one (.int .i64),.one (.int .i64)] st (fun (n1 n2 n3:Int) a=>BId (n3≠0) (K 0 [] 0 n3 a) (((0<=atx/\atx<=n2/\n2<=(src.length:Int))/\K n1 ((List.drop atx.toNat (List.take n2.toNat src))) atx 0 a))))))):CallT PR B0 [.str src,.int .i64 atx] [.agg [.int .i64,.str,.int .i64],.one (.int .i64)] st K:=
 Ab (cfg:=⟨[4],[],[]⟩) (h:= .none) mixed (fun _ _=>Tryz.call63 _ _) Tryz.func63 (by kernel_rfl) (by kernel_rfl) h
theorem FO (s:B8) (st:St) (K:B8->Int->St->Prop) (h:BId (s=([]:B8)) (K [] 4 st) (((0<=(0:Int)/\(0:Int)<(s.length:Int))/\BId (((List.getD s (Int.toNat (0:Int)) 0).toNat:Int)≠(34:Int)) (((0<=(0:Int)/\(0:Int)<(s.length:Int))/\BId (((List.getD s (Int.toNat (0:Int)) 0).toNat:Int)≠(39:Int)) (K [] 3 st) (CallT PR AM [.str s,.int .i64 0] [.one .str,.one (.int .i64),.one (.int .i64)] st (fun (s1:B8) (n1 n2:Int) b=>BId (n2≠0) (K [] n2 b) (BId (n1≠(s.length:Int)) (K [] 3 b) (K s1 0 b)))))) (CallT PR AM [.str s,.int .i64 0] [.one .str,.one (.int .i64),.one (.int .i64)] st (fun (s2:B8) (n3 n4:Int) a=>BId (n4≠0) (K [] n4 a) (BId (n3≠(s.length:Int)) (K [] 3 a) (K s2 0 a))))))):CallT PR B4 [.str s] [.one .str,.one (.int .i64)] st K:=
 Ab (cfg:=⟨[],[],[]⟩) (h:= .none) mixed (fun _ _=>Tryz.call64 _ _) Tryz.func64 (by kernel_rfl) (by kernel_rfl) h
theorem EK (d_0:Bool) (d_1:B8) (d_2:Int) (st:St) (K:B8->St->Prop) (h:∃(C1:Bool->B8->Int->St->Prop),(BId (d_1=([]:B8)) (K HJ st) (CallT PR CN [(.agg [.bool d_0,.str d_1,.int .i64 d_2])] [.one .bool] st (fun (b1:Bool) v=>BIf (!b1) (K HJ v) (C1 d_0 d_1 d_2 v))))/\∀b2 s1 n1 o,C1 b2 s1 n1 o->(∃(C2:B8->Bool->B8->Int->St->Prop),(BIf b2 (C2 Bf b2 s1 n1 o) (C2 [] b2 s1 n1 o))/\∀r b3 s2 n2 q,C2 r b3 s2 n2 q->(∃(C3:B8->Int->Int->Bool->B8->Int->St->Prop),(∃(C4:Bool->B8->Int->Int->Bool->B8->Int->St->Prop),(BId ((0:Int)<=n2) (C4 ((decide ((i64.wrap ((s2.length:Int)+n2))<=(21:Int)))) r ((s2.length:Int)) ((i64.wrap ((s2.length:Int)+n2))) b3 s2 n2 q) (C4 false r ((s2.length:Int)) ((i64.wrap ((s2.length:Int)+n2))) b3 s2 n2 q))/\∀u d j e b4 s3 n3 g,C4 u d j e b4 s3 n3 g->(BIf u ((d.length+s3.length<=9223372036854775807/\CallT PR Cs [.str HJ,.int .i64 n3] [.one .str] g (fun (s4:B8) y=>(((d++s3)).length+s4.length<=9223372036854775807/\K (((d++s3)++s4)) y)))) (∃(C5:Bool->B8->Int->Int->Bool->B8->Int->St->Prop),(BId (n3<0) (BId ((1:Int)<=e) (C5 ((decide (e<=21))) d j e b4 s3 n3 g) (C5 false d j e b4 s3 n3 g)) (C5 false d j e b4 s3 n3 g))/\∀s b n a b5 s5 n4 i,C5 s b n a b5 s5 n4 i->(BIf s (((0<=a/\a<=(s5.length:Int))/\(b.length+((List.take a.toNat s5)).length<=9223372036854775807/\(((b++(List.take a.toNat s5))).length+BG.length<=9223372036854775807/\((0<=a/\a<=(s5.length:Int))/\((((b++(List.take a.toNat s5))++BG)).length+((List.drop a.toNat s5)).length<=9223372036854775807/\K ((((b++(List.take a.toNat s5))++BG)++(List.drop a.toNat s5))) i)))))) (BId ((-5:Int)<=a) (BId (a<=0) ((b.length+HI.length<=9223372036854775807/\CallT PR Cs [.str HJ,(.int .i64 (i64.wrap (0-a)))] [.one .str] i (fun (s6:B8) z=>(((b++HI)).length+s6.length<=9223372036854775807/\((((b++HI)++s6)).length+s5.length<=9223372036854775807/\K ((((b++HI)++s6)++s5)) z))))) (C3 b n a b5 s5 n4 i)) (C3 b n a b5 s5 n4 i))))))/\∀f t p b6 s7 n5 l,C3 f t p b6 s7 n5 l->(((0<=(1:Int)/\(1:Int)<=(s7.length:Int))/\(f.length+((List.take (Int.toNat (1:Int)) s7)).length<=9223372036854775807/\∃(C6:B8->Int->St->Prop),(BId ((1:Int)<t) (((0<=(1:Int)/\(1:Int)<=(s7.length:Int))/\(BG.length+((List.drop (Int.toNat (1:Int)) s7)).length<=9223372036854775807/\(((f++(List.take (Int.toNat (1:Int)) s7))).length+((BG++(List.drop (Int.toNat (1:Int)) s7))).length<=9223372036854775807/\C6 (((f++(List.take (Int.toNat (1:Int)) s7))++(BG++(List.drop (Int.toNat (1:Int)) s7)))) p l)))) (C6 ((f++(List.take (Int.toNat (1:Int)) s7))) p l))/\∀c k m,C6 c k m->(BId (k<1) ((c.length+Ok.length<=9223372036854775807/\CallT PR B1 [(.int .i64 (i64.wrap ((1:Int)-k)))] [.one .str] m (fun (s8:B8) w=>(((c++Ok)).length+s8.length<=9223372036854775807/\K (((c++Ok)++s8)) w)))) ((c.length+GJ.length<=9223372036854775807/\CallT PR B1 [(.int .i64 (i64.wrap (k-(1:Int))))] [.one .str] m (fun (s9:B8) x=>(((c++GJ)).length+s9.length<=9223372036854775807/\K (((c++GJ)++s9)) x))))))))))):CallT PR Dg [(.agg [.bool d_0,.str d_1,.int .i64 d_2])] [.one .str] st K:=
 Ab (cfg:=⟨[1],[],[]⟩) (h:=(.seq .none (.cut ⟨[],[(1,0,0)],[(0,3)],[(0,0,.bool),(0,1,.str),(0,2,.int .i64)]⟩ .none (.seq .none (.cut ⟨[(3,.str)],[(1,0,0)],[(0,3)],[(0,0,.bool),(0,1,.str),(0,2,.int .i64)]⟩ .none (.seq .none (.seq .none (.cut ⟨[(3,.str),(4,.int .i64),(5,.int .i64)],[(1,0,0)],[(0,3)],[(0,0,.bool),(0,1,.str),(0,2,.int .i64)]⟩ (.block (.cut ⟨[(23,.bool),(3,.str),(4,.int .i64),(5,.int .i64)],[(1,0,0)],[(0,3)],[(0,0,.bool),(0,1,.str),(0,2,.int .i64)]⟩ .none (.cond .none (.cut ⟨[(39,.bool),(3,.str),(4,.int .i64),(5,.int .i64)],[(1,0,0)],[(0,3)],[(0,0,.bool),(0,1,.str),(0,2,.int .i64)]⟩ .none .none)))) (.seq .none (.cut ⟨[(3,.str),(5,.int .i64)],[],[],[]⟩ .none .none)))))))))) mixed (fun _ _=>Tryz.call71 _ _) Tryz.func71 (by kernel_rfl) (by kernel_rfl) h
theorem Ij (t_0:Int) (t_1:Int) (t_2:Int) (t_3:Int) (st:St) (K:B8->St->Prop) (h:CallT PR Dd [(.agg [.int .i64 t_0,.int .i64 t_1,.int .i64 t_2,.int .i64 t_3])] [.one .bool] st (fun (b1:Bool) a=>BIf (!b1) (K [] a) (BId (t_0=1) (CallT PR AN [.int .i64 t_1] [.one .str] a (fun (s1:B8) c=>K s1 c)) (BId (t_0=2) (CallT PR AJ [.int .i64 t_2] [.one .str] a (fun (s2:B8) g=>K s2 g)) (BId (t_0=3) (CallT PR AN [.int .i64 t_1] [.one .str] a (fun (s3:B8) e=>(s3.length+DS.length<=9223372036854775807/\CallT PR AJ [.int .i64 t_2] [.one .str] e (fun (s4:B8) i=>(((s3++DS)).length+s4.length<=9223372036854775807/\K (((s3++DS)++s4)) i))))) (CallT PR AN [.int .i64 t_1] [.one .str] a (fun (s5:B8) f=>(s5.length+DS.length<=9223372036854775807/\CallT PR AJ [.int .i64 t_2] [.one .str] f (fun (s6:B8) b=>(((s5++DS)).length+s6.length<=9223372036854775807/\CallT PR BP [.int .i64 t_3] [.one .str] b (fun (s7:B8) d=>((((s5++DS)++s6)).length+s7.length<=9223372036854775807/\K ((((s5++DS)++s6)++s7)) d)))))))))))):CallT PR DG [(.agg [.int .i64 t_0,.int .i64 t_1,.int .i64 t_2,.int .i64 t_3])] [.one .str] st K:=
 Ab (cfg:=⟨[1],[],[]⟩) (h:= .none) mixed (fun _ _=>Tryz.call72 _ _) Tryz.func72 (by kernel_rfl) (by kernel_rfl) h
theorem Gz (s:B8) (st:St) (K:B8->Int->St->Prop) (h:CallT PR Dc [.str s] [.one (.int .i64)] st (fun (n1:Int) g=>BId ((0:Int)<=n1) (K [] 5 g) (∃(I1:TV->Int->B8->St->Prop) (M1:TV->Int->B8->St->Nat),(I1 ((.list 1 .full 1 [.int .u8 34])) 0 s g)/\∀c a b d,I1 c a b d->(BId (a<(b.length:Int)) (((0<=a/\a<(b.length:Int))/\CallT PR Ax [.str FU,(.int .u8 ((List.getD b a.toNat 0).toNat:Int))] [.one (.int .i64)] d (fun (n2:Int) e=>BId ((0:Int)<=n2) (((0<=n2/\n2<(KN.length:Int))/\Bp 5 1 1 c 2 [.int .u8 92,(.int .u8 ((List.getD KN n2.toNat 0).toNat:Int))] e (fun (v1:TV) i=>(I1 v1 ((i64.wrap (a+(1:Int)))) b i/\M1 v1 ((i64.wrap (a+(1:Int)))) b i<M1 c a b d)))) (BId (((List.getD b a.toNat 0).toNat:Int)<(32:Int)) (((0<=(Int.fdiv ((List.getD b a.toNat 0).toNat:Int) (2^(min (Int.toNat (4:Int)) (IntKind.bits .u8))))/\(Int.fdiv ((List.getD b a.toNat 0).toNat:Int) (2^(min (Int.toNat (4:Int)) (IntKind.bits .u8))))<(Bq.length:Int))/\((0<=(Af .and .u8 ((List.getD b a.toNat 0).toNat:Int) (15:Int))/\(Af .and .u8 ((List.getD b a.toNat 0).toNat:Int) (15:Int))<(Bq.length:Int))/\Bp 5 1 1 c 6 [.int .u8 92,.int .u8 117,.int .u8 48,.int .u8 48,(.int .u8 ((List.getD Bq (Int.toNat (Int.fdiv ((List.getD b a.toNat 0).toNat:Int) (2^(min (Int.toNat (4:Int)) (IntKind.bits .u8))))) 0).toNat:Int)),(.int .u8 ((List.getD Bq (Int.toNat (Af .and .u8 ((List.getD b a.toNat 0).toNat:Int) (15:Int))) 0).toNat:Int))] e (fun (v2:TV) k=>(I1 v2 ((i64.wrap (a+(1:Int)))) b k/\M1 v2 ((i64.wrap (a+(1:Int)))) b k<M1 c a b d))))) (Bp 5 1 1 c 1 [(.int .u8 ((List.getD b a.toNat 0).toNat:Int))] e (fun (v3:TV) j=>(I1 v3 ((i64.wrap (a+(1:Int)))) b j/\M1 v3 ((i64.wrap (a+(1:Int)))) b j<M1 c a b d))))))) (Bp 5 1 1 c 1 [.int .u8 34] d (fun (v4:TV) f=>Bc ((toBytes f v4).map TV.str) (fun (x1:TV)=>A6 .str x1 (fun (s1:B8)=>K s1 0 f)))))))):CallT PR Cr [.str s] [.one .str,.one (.int .i64)] st K:=
 Ab (cfg:=⟨[],[],[]⟩) (h:=(.seq .none (.seq .none (.seq .none (.seq (.seq .none (.block (.loop ⟨[(4,.tv),(5,.int .i64),(0,.str)],[],[],[]⟩ .none))) .none))))) mixed (fun _ _=>Tryz.call73 _ _) Tryz.func73 (by kernel_rfl) (by kernel_rfl) h
theorem CV (d_0:Bool) (d_1:B8) (d_2:Int) (st:St) (K:B8->St->Prop) (h:BId (d_1=([]:B8)) (K HJ st) (∃(C1:B8->Bool->B8->Int->St->Prop),(BIf d_0 (C1 Bf d_0 d_1 d_2 st) (C1 [] d_0 d_1 d_2 st))/\∀f b1 s1 n1 i,C1 f b1 s1 n1 i->(∃(C2:B8->Int->Bool->B8->Int->St->Prop),(BId ((0:Int)<=n1) (BId ((i64.wrap ((s1.length:Int)+n1))<=(21:Int)) ((f.length+s1.length<=9223372036854775807/\CallT PR AU [.int .i64 n1] [.one .str] i (fun (s2:B8) n=>(((f++s1)).length+s2.length<=9223372036854775807/\K (((f++s1)++s2)) n)))) (C2 f ((i64.wrap ((s1.length:Int)+n1))) b1 s1 n1 i)) (C2 f ((i64.wrap ((s1.length:Int)+n1))) b1 s1 n1 i))/\∀c a b2 s3 n2 g,C2 c a b2 s3 n2 g->(∃(C3:B8->Int->Bool->B8->Int->St->Prop),(BId (n2<0) (BId ((1:Int)<=a) (BId (a<=21) (((0<=a/\a<=(s3.length:Int))/\(c.length+((List.take a.toNat s3)).length<=9223372036854775807/\(((c++(List.take a.toNat s3))).length+BG.length<=9223372036854775807/\((0<=a/\a<=(s3.length:Int))/\((((c++(List.take a.toNat s3))++BG)).length+((List.drop a.toNat s3)).length<=9223372036854775807/\K ((((c++(List.take a.toNat s3))++BG)++(List.drop a.toNat s3))) g)))))) (C3 c a b2 s3 n2 g)) (C3 c a b2 s3 n2 g)) (C3 c a b2 s3 n2 g))/\∀d e b3 s4 n3 j,C3 d e b3 s4 n3 j->(∃(C4:B8->Int->Bool->B8->Int->St->Prop),(BId ((-5:Int)<=e) (BId (e<=0) ((d.length+HI.length<=9223372036854775807/\CallT PR AU [(.int .i64 (i64.wrap (0-e)))] [.one .str] j (fun (s5:B8) o=>(((d++HI)).length+s5.length<=9223372036854775807/\((((d++HI)++s5)).length+s4.length<=9223372036854775807/\K ((((d++HI)++s5)++s4)) o))))) (C4 d e b3 s4 n3 j)) (C4 d e b3 s4 n3 j))/\∀b k b4 s6 n4 l,C4 b k b4 s6 n4 l->(((0<=(1:Int)/\(1:Int)<=(s6.length:Int))/\(b.length+((List.take (Int.toNat (1:Int)) s6)).length<=9223372036854775807/\BId ((1:Int)<(s6.length:Int)) ((((b++(List.take (Int.toNat (1:Int)) s6))).length+BG.length<=9223372036854775807/\((0<=(1:Int)/\(1:Int)<=(s6.length:Int))/\((((b++(List.take (Int.toNat (1:Int)) s6))++BG)).length+((List.drop (Int.toNat (1:Int)) s6)).length<=9223372036854775807/\(((((b++(List.take (Int.toNat (1:Int)) s6))++BG)++(List.drop (Int.toNat (1:Int)) s6))).length+GJ.length<=9223372036854775807/\CallT PR A2 [(.int .i64 (i64.wrap (k-(1:Int))))] [.one .str] l (fun (s7:B8) p=>((((((b++(List.take (Int.toNat (1:Int)) s6))++BG)++(List.drop (Int.toNat (1:Int)) s6))++GJ)).length+s7.length<=9223372036854775807/\K ((((((b++(List.take (Int.toNat (1:Int)) s6))++BG)++(List.drop (Int.toNat (1:Int)) s6))++GJ)++s7)) p))))))) ((((b++(List.take (Int.toNat (1:Int)) s6))).length+GJ.length<=9223372036854775807/\CallT PR A2 [(.int .i64 (i64.wrap (k-(1:Int))))] [.one .str] l (fun (s8:B8) m=>((((b++(List.take (Int.toNat (1:Int)) s6))++GJ)).length+s8.length<=9223372036854775807/\K ((((b++(List.take (Int.toNat (1:Int)) s6))++GJ)++s8)) m)))))))))))):CallT PR BT [(.agg [.bool d_0,.str d_1,.int .i64 d_2])] [.one .str] st K:=
 Ab (cfg:=⟨[1],[],[]⟩) (h:=(.seq .none (.seq .none (.seq .none (.cut ⟨[(3,.str)],[(1,0,0)],[(0,3)],[(0,0,.bool),(0,1,.str),(0,2,.int .i64)]⟩ .none (.seq .none (.cut ⟨[(3,.str),(4,.int .i64)],[(1,0,0)],[(0,3)],[(0,0,.bool),(0,1,.str),(0,2,.int .i64)]⟩ .none (.cut ⟨[(3,.str),(4,.int .i64)],[(1,0,0)],[(0,3)],[(0,0,.bool),(0,1,.str),(0,2,.int .i64)]⟩ .none (.cut ⟨[(3,.str),(4,.int .i64)],[(1,0,0)],[(0,3)],[(0,0,.bool),(0,1,.str),(0,2,.int .i64)]⟩ .none .none))))))))) mixed (fun _ _=>Tryz.call74 _ _) Tryz.func74 (by kernel_rfl) (by kernel_rfl) h
theorem Ff (t_0:Int) (t_1:Int) (t_2:Int) (t_3:Int) (st:St) (K:B8->St->Prop) (h:CallT PR Ba [(.agg [.int .i64 t_0,.int .i64 t_1,.int .i64 t_2,.int .i64 t_3])] [.one .bool] st (fun (b1:Bool) b=>BIf (!b1) (K [] b) (CallT PR BS [.int .i64 t_1] [.one (.int .i64),.one (.int .i64),.one (.int .i64),.one (.int .i64)] b (fun (n1 n2 n3 n4:Int) c=>CallT PR Ah [.int .i64 n1,.int .i64 4] [.one .str] c (fun (s1:B8) j=>(s1.length+Bf.length<=9223372036854775807/\CallT PR Ah [.int .i64 n2,.int .i64 2] [.one .str] j (fun (s2:B8) g=>(((s1++Bf)).length+s2.length<=9223372036854775807/\((((s1++Bf)++s2)).length+Bf.length<=9223372036854775807/\CallT PR Ah [.int .i64 n3,.int .i64 2] [.one .str] g (fun (s3:B8) a=>(((((s1++Bf)++s2)++Bf)).length+s3.length<=9223372036854775807/\BId (t_0=1) (K (((((s1++Bf)++s2)++Bf)++s3)) a) (BId (t_0=2) (CallT PR AB [.int .i64 t_2] [.one .str] a (fun (s4:B8) i=>K s4 i)) (BId (t_0=3) (((((((s1++Bf)++s2)++Bf)++s3)).length+DS.length<=9223372036854775807/\CallT PR AB [.int .i64 t_2] [.one .str] a (fun (s5:B8) f=>(((((((s1++Bf)++s2)++Bf)++s3)++DS)).length+s5.length<=9223372036854775807/\K (((((((s1++Bf)++s2)++Bf)++s3)++DS)++s5)) f)))) (((((((s1++Bf)++s2)++Bf)++s3)).length+DS.length<=9223372036854775807/\CallT PR AB [.int .i64 t_2] [.one .str] a (fun (s6:B8) d=>(((((((s1++Bf)++s2)++Bf)++s3)++DS)).length+s6.length<=9223372036854775807/\CallT PR Bv [.int .i64 t_3] [.one .str] d (fun (s7:B8) e=>((((((((s1++Bf)++s2)++Bf)++s3)++DS)++s6)).length+s7.length<=9223372036854775807/\K ((((((((s1++Bf)++s2)++Bf)++s3)++DS)++s6)++s7)) e))))))))))))))))))):CallT PR BR [(.agg [.int .i64 t_0,.int .i64 t_1,.int .i64 t_2,.int .i64 t_3])] [.one .str] st K:=
 Ab (cfg:=⟨[1],[],[]⟩) (h:= .none) mixed (fun _ _=>Tryz.call75 _ _) Tryz.func75 (by kernel_rfl) (by kernel_rfl) h
theorem ES (s:B8) (st:St) (K:B8->Int->St->Prop) (h:CallT PR BA [.str s] [.one .str,.one (.int .i64)] st (fun (s1:B8) (n1:Int) a=>K s1 n1 a)):CallT PR CH [.str s] [.one .str,.one (.int .i64)] st K:=
 Ab (cfg:=⟨[],[],[]⟩) (h:= .none) mixed (fun _ _=>Tryz.call76 _ _) Tryz.func76 (by kernel_rfl) (by kernel_rfl) h
theorem CU (v_0:Int) (v_1:Bool) (v_2:Bool) (v_3:B8) (v_4:Int) (v_5:Int) (v_6:Int) (v_7:Int) (v_8:Int) (v_9:B8) (v_10:TV) (v_11:TV) (v_12:TV) (depth:Int) (seen:Int) (st:St) (K:Int->Int->St->Prop) (h:BId ((48:Int)<depth) (K seen 9 st) (BId ((65536:Int)<=seen) (K seen 10 st) (CallT PR Bl [(.agg (cV v_0 v_1 v_2 v_3 v_4 v_5 v_6 v_7 v_8 v_9 v_10 v_11 v_12))] [.one (.int .i64)] st (fun (n1:Int) g=>BId (n1≠0) (K seen n1 g) (CallT PR BQ [(.agg (cV v_0 v_1 v_2 v_3 v_4 v_5 v_6 v_7 v_8 v_9 v_10 v_11 v_12))] [.one .tv] g (fun (v1:TV) i=>∃(I1:Int->Int->Int->TV->St->Prop) (M1:Int->Int->Int->TV->St->Nat),(I1 ((i64.wrap (seen+(1:Int)))) 0 depth v1 i)/\∀b d a c e,I1 b d a c e->(need (isSl c) (BId (d<(lenS c:Int)) (((0<=d/\d<(lenZ 13 c:Int))/\Bc ((Aj e [] (.t (ixT 13 c d.toNat)) 0 13).map TV.agg) (fun (x1:TV)=>Pd [.int .i64,.bool,.bool,.str,.int .i64,.int .i64,.int .i64,.int .i64,.int .i64,.str,.tv,.tv,.tv] x1 (fun (n2:Int) (b1 b2:Bool) (s1:B8) (n3 n4 n5 n6 n7:Int) (s2:B8) (v2 v3 v4:TV)=>CallT PR Bh [(.agg (cV n2 b1 b2 s1 n3 n4 n5 n6 n7 s2 v2 v3 v4)),(.int .i64 (i64.wrap (a+(1:Int)))),.int .i64 b] [.one (.int .i64),.one (.int .i64)] e (fun (n8 n9:Int) f=>BId (n9≠0) (K n8 n9 f) ((I1 n8 ((i64.wrap (d+(1:Int)))) a c f/\M1 n8 ((i64.wrap (d+(1:Int)))) a c f<M1 b d a c e))))))) (K b 0 e))))))))):CallT PR Bh [(.agg (cV v_0 v_1 v_2 v_3 v_4 v_5 v_6 v_7 v_8 v_9 v_10 v_11 v_12)),.int .i64 depth,.int .i64 seen] [.one (.int .i64),.one (.int .i64)] st K:=
 Ab (cfg:=⟨[3],[],[]⟩) (h:=(.seq .none (.seq .none (.seq .none (.seq .none (.seq .none (.seq .none (.seq (.seq .none (.block (.loop ⟨[(2,.int .i64),(10,.int .i64),(1,.int .i64),(9,.tv)],[],[],[]⟩ .none))) .none)))))))) mixed (fun _ _=>Tryz.call83 _ _) Tryz.func83 (by kernel_rfl) (by kernel_rfl) h
theorem H7 (s:B8) (st:St) (K:Int->St->Prop) (h:∃(I1:Int->B8->St->Prop) (M1:Int->B8->St->Nat),(I1 0 s st)/\∀a b d,I1 a b d->(BId (a<(b.length:Int)) (((0<=a/\a<=(b.length:Int))/\CallT PR Aw [(.str (List.drop a.toNat b))] [.one (.int .i32),.one (.int .i64)] d (fun (n1 n2:Int) c=>BId (n1=65533) (BId (n2=1) (K a c) ((I1 ((i64.wrap (a+n2))) b c/\M1 ((i64.wrap (a+n2))) b c<M1 a b d))) ((I1 ((i64.wrap (a+n2))) b c/\M1 ((i64.wrap (a+n2))) b c<M1 a b d))))) (K (-1) d))):CallT PR Dc [.str s] [.one (.int .i64)] st K:=
 Ab (cfg:=⟨[],[],[]⟩) (h:=(.seq .none (.seq (.seq .none (.block (.loop ⟨[(3,.int .i64),(0,.str)],[],[],[]⟩ .none))) .none))) mixed (fun _ _=>Tryz.call87 _ _) Tryz.func87 (by kernel_rfl) (by kernel_rfl) h
theorem FN (st:St) (K:TV->TV->St->Prop) (h:stB (st.push (.cells [.nilFunc]) (some 138)) (.box st.nb 0) [(.func Ar [])] (fun b=>Bc (Ak b [] (.t (.box st.nb 0)) 0) (fun (v1:TV)=>need (List.all [v1] BK) (stB b (.box st.nb 0) [v1] (fun a=>Bc (Ak a [] (.t (.box st.nb 0)) 0) (fun (x2:TV)=>K x2 ((.func Bz [(.box st.nb 0)])) a)))))):CallT PR AX [] [.one .tv,.one .tv] st K:=
 Ab (cfg:=⟨[],[],[]⟩) (h:= .none) mixed (fun _ _=>Tryz.call88 _ _) Tryz.func88 (by kernel_rfl) (by kernel_rfl) h
theorem H4 (s:B8) (i:Int) (classx:TV) (st:St) (K:Int->St->Prop) (h:∃(I1:Int->B8->TV->St->Prop) (M1:Int->B8->TV->St->Nat),(I1 i s classx st)/\∀b c a d,I1 b c a d->(BId (b<(c.length:Int)) (((0<=b/\b<(c.length:Int))/\Jf PR a [(.int .u8 ((List.getD c b.toNat 0).toNat:Int))] [.one .bool] d (fun (b1:Bool) e=>BIf b1 ((I1 ((i64.wrap (b+(1:Int)))) c a e/\M1 ((i64.wrap (b+(1:Int)))) c a e<M1 b c a d)) (K b e)))) (K b d))):CallT PR AW [.str s,.int .i64 i,classx] [.one (.int .i64)] st K:=
 Ab (cfg:=⟨[],[],[]⟩) (h:=(.seq .none (.seq (.block (.loop ⟨[(1,.int .i64),(0,.str),(2,.tv)],[],[],[]⟩ .none)) .none))) mixed (fun _ _=>Tryz.call89 _ _) Tryz.func89 (by kernel_rfl) (by kernel_rfl) h
theorem Fc (v_0:Int) (v_1:Bool) (v_2:Bool) (v_3:B8) (v_4:Int) (v_5:Int) (v_6:Int) (v_7:Int) (v_8:Int) (v_9:B8) (v_10:TV) (v_11:TV) (v_12:TV) (st:St) (K:TV->St->Prop) (h:BId (v_0≠7) (K v_11 st) (∃(I1:TV->Int->V13 (St->Prop)) (M1:TV->Int->V13 (St->Nat)),(I1 .nilSlice 0 v_0 v_1 v_2 v_3 v_4 v_5 v_6 v_7 v_8 v_9 v_10 v_11 v_12 st)/\∀b a n1 b1 b2 s1 n2 n3 n4 n5 n6 s2 v1 v2 v3 c,I1 b a n1 b1 b2 s1 n2 n3 n4 n5 n6 s2 v1 v2 v3 c->(need (isSl v3) (BId (a<(lenS v3:Int)) (((0<=a/\a<(lenZ 14 v3:Int))/\need (isPtr (ixT 14 v3 a.toNat)) (Bc ((Aj c [] (.t (IU (ixT 14 v3 a.toNat) 1)) 0 13).map TV.agg) (fun (x1:TV)=>Pd [.int .i64,.bool,.bool,.str,.int .i64,.int .i64,.int .i64,.int .i64,.int .i64,.str,.tv,.tv,.tv] x1 (fun (n7:Int) (b3 b4:Bool) (s3:B8) (n8 n9 g e f:Int) (s4:B8) (v4 v5 v6:TV)=>need (List.all (cV n7 b3 b4 s3 n8 n9 g e f s4 v4 v5 v6) BK) (Bp 33 13 168 b 1 (cV n7 b3 b4 s3 n8 n9 g e f s4 v4 v5 v6) c (fun (v7:TV) d=>(I1 v7 ((i64.wrap (a+(1:Int)))) n1 b1 b2 s1 n2 n3 n4 n5 n6 s2 v1 v2 v3 d/\M1 v7 ((i64.wrap (a+(1:Int)))) n1 b1 b2 s1 n2 n3 n4 n5 n6 s2 v1 v2 v3 d<M1 b a n1 b1 b2 s1 n2 n3 n4 n5 n6 s2 v1 v2 v3 c)))))))) (K b c))))):CallT PR BQ [(.agg (cV v_0 v_1 v_2 v_3 v_4 v_5 v_6 v_7 v_8 v_9 v_10 v_11 v_12))] [.one .tv] st K:=
 Ab (cfg:=⟨[1],[],[]⟩) (h:=(.seq .none (.seq .none (.seq .none (.seq (.seq .none (.block (.loop ⟨[(3,.tv),(4,.int .i64)],[(1,0,0)],[(0,13)],[(0,0,.int .i64),(0,1,.bool),(0,2,.bool),(0,3,.str),(0,4,.int .i64),(0,5,.int .i64),(0,6,.int .i64),(0,7,.int .i64),(0,8,.int .i64),(0,9,.str),(0,10,.tv),(0,11,.tv),(0,12,.tv)]⟩ .none))) .none))))) mixed (fun _ _=>Tryz.call107 _ _) Tryz.func107 (by kernel_rfl) (by kernel_rfl) h
theorem EY (s:B8) (st:St) (K:Bool->St->Prop) (h:CallT PR A5 [.str s] [.one .tv,.one .bool] st (fun (v1:TV) (b1:Bool) a=>K b1 a)):CallT PR As [.str s] [.one .bool] st K:=
 Ab (cfg:=⟨[],[],[]⟩) (h:= .none) mixed (fun _ _=>Tryz.call109 _ _) Tryz.func109 (by kernel_rfl) (by kernel_rfl) h
theorem H6 (s:B8) (atx:Int) (st:St) (K:Int->Int->Int->St->Prop) (h:CallT PR AX [] [.one .tv,.one .tv] st (fun (v1 v2:TV) a=>((0<=atx/\atx<(s.length:Int))/\BId (((List.getD s atx.toNat 0).toNat:Int)=(32:Int)) (CallT PR AW [.str s,.int .i64 atx,(.func BH [])] [.one (.int .i64)] a (fun (n1:Int) g=>K 1 n1 0 g)) (BId (((List.getD s atx.toNat 0).toNat:Int)=(9:Int)) (CallT PR AW [.str s,.int .i64 atx,(.func BH [])] [.one (.int .i64)] a (fun (n2:Int) p=>K 1 n2 0 p)) (BId (((List.getD s atx.toNat 0).toNat:Int)=(10:Int)) (CallT PR BZ [.str s,.int .i64 atx] [.one (.int .i64),.one (.int .i64)] a (fun (n3 n4:Int) j=>K 2 n3 n4 j)) (BId (((List.getD s atx.toNat 0).toNat:Int)=(13:Int)) (CallT PR BZ [.str s,.int .i64 atx] [.one (.int .i64),.one (.int .i64)] a (fun (n5 n6:Int) q=>K 2 n5 n6 q)) (BId (((List.getD s atx.toNat 0).toNat:Int)=(35:Int)) (CallT PR B3 [.str s,.int .i64 atx] [.one (.int .i64),.one (.int .i64)] a (fun (n7 n8:Int) k=>K 3 n7 n8 k)) (CallT PR Ax [.str Oj,(.int .u8 ((List.getD s atx.toNat 0).toNat:Int))] [.one (.int .i64)] a (fun (n9:Int) b=>BId ((0:Int)<=n9) (K 4 ((i64.wrap (atx+(1:Int)))) 0 b) (BId (((List.getD s atx.toNat 0).toNat:Int)=(34:Int)) (CallT PR AM [.str s,.int .i64 atx] [.one .str,.one (.int .i64),.one (.int .i64)] b (fun (s1:B8) (o l:Int) e=>K 5 o l e)) (BId (((List.getD s atx.toNat 0).toNat:Int)=(39:Int)) (CallT PR AM [.str s,.int .i64 atx] [.one .str,.one (.int .i64),.one (.int .i64)] b (fun (s2:B8) (m n:Int) f=>K 5 m n f)) (Jf PR v2 [(.int .u8 ((List.getD s atx.toNat 0).toNat:Int))] [.one .bool] b (fun (b1:Bool) c=>BIf b1 (CallT PR Cq [.str s,.int .i64 atx] [.one (.int .i64)] c (fun (i:Int) d=>K 6 i 0 d)) (K 0 0 3 c)))))))))))))):CallT PR Db [.str s,.int .i64 atx] [.one (.int .i64),.one (.int .i64),.one (.int .i64)] st K:=
 Ab (cfg:=⟨[],[],[]⟩) (h:= .none) mixed (fun _ _=>Tryz.call111 _ _) Tryz.func111 (by kernel_rfl) (by kernel_rfl) h
theorem Gc (s:B8) (i:Int) (st:St) (K:B8->Int->Int->St->Prop) (h:((0<=i/\i<(s.length:Int))/\∃(I1:Int->TV->B8->Int->St->Prop) (M1:Int->TV->B8->Int->St->Nat),(I1 ((i64.wrap (i+(1:Int)))) .nilSlice s (((List.getD s i.toNat 0).toNat:Int)) st)/\∀a d c b f,I1 a d c b f->(BId (a<(c.length:Int)) (((0<=a/\a<=(c.length:Int))/\CallT PR Aw [(.str (List.drop a.toNat c))] [.one (.int .i32),.one (.int .i64)] f (fun (n1 n2:Int) e=>((0<=a/\a<(c.length:Int))/\BId (((List.getD c a.toNat 0).toNat:Int)=b) (Bc ((toBytes e d).map TV.str) (fun (x1:TV)=>A6 .str x1 (fun (s1:B8)=>K s1 ((i64.wrap (a+(1:Int)))) 0 e))) (((0<=a/\a<(c.length:Int))/\BId (((List.getD c a.toNat 0).toNat:Int)<(32:Int)) (K [] 0 5 e) (BId (n1=65533) (BId (n2=1) (K [] 0 5 e) (((0<=a/\a<(c.length:Int))/\BId (((List.getD c a.toNat 0).toNat:Int)≠(92:Int)) (((0<=a/\a<=(i64.wrap (a+n2))/\(i64.wrap (a+n2))<=(c.length:Int))/\Bc (D9 e 1 (.str (List.drop a.toNat (List.take (Int.toNat (i64.wrap (a+n2))) c)))) (fun (q1:Nat×List TV)=>need (List.all q1.2 BK) (Bp 5 1 1 d q1.1 q1.2 e (fun (v1:TV) q=>(I1 ((i64.wrap (a+n2))) v1 c b q/\M1 ((i64.wrap (a+n2))) v1 c b q<M1 a d c b f)))))) (BId (b=39) (((0<=a/\a<=(i64.wrap (a+n2))/\(i64.wrap (a+n2))<=(c.length:Int))/\Bc (D9 e 1 (.str (List.drop a.toNat (List.take (Int.toNat (i64.wrap (a+n2))) c)))) (fun (q2:Nat×List TV)=>need (List.all q2.2 BK) (Bp 5 1 1 d q2.1 q2.2 e (fun (v2:TV) u=>(I1 ((i64.wrap (a+n2))) v2 c b u/\M1 ((i64.wrap (a+n2))) v2 c b u<M1 a d c b f)))))) (BId ((c.length:Int)<=(i64.wrap (a+(1:Int)))) (K [] 0 4 e) (((0<=(i64.wrap (a+(1:Int)))/\(i64.wrap (a+(1:Int)))<(c.length:Int))/\BId (((List.getD c (Int.toNat (i64.wrap (a+(1:Int)))) 0).toNat:Int)=(117:Int)) (CallT PR Bu [.str c,(.int .i64 (i64.wrap (a+(2:Int))))] [.one (.int .i32),.one (.int .i64),.one (.int .i64)] e (fun (n3 n4 n5:Int) r=>BId (n5≠0) (K [] 0 n5 r) (CallT PR Bt [d,.int .i32 n3] [.one .tv] r (fun (v3:TV) v=>(I1 n4 v3 c b v/\M1 n4 v3 c b v<M1 a d c b f))))) (((0<=(i64.wrap (a+(1:Int)))/\(i64.wrap (a+(1:Int)))<(c.length:Int))/\CallT PR Ax [.str Fj,(.int .u8 ((List.getD c (Int.toNat (i64.wrap (a+(1:Int)))) 0).toNat:Int))] [.one (.int .i64)] e (fun (n6:Int) t=>BId (n6<0) (K [] 0 3 t) (((0<=n6/\n6<(JA.length:Int))/\Bp 5 1 1 d 1 [(.int .u8 ((List.getD JA n6.toNat 0).toNat:Int))] t (fun (v4:TV) o=>(I1 ((i64.wrap (a+(2:Int)))) v4 c b o/\M1 ((i64.wrap (a+(2:Int)))) v4 c b o<M1 a d c b f)))))))))))))) (((0<=a/\a<(c.length:Int))/\BId (((List.getD c a.toNat 0).toNat:Int)≠(92:Int)) (((0<=a/\a<=(i64.wrap (a+n2))/\(i64.wrap (a+n2))<=(c.length:Int))/\Bc (D9 e 1 (.str (List.drop a.toNat (List.take (Int.toNat (i64.wrap (a+n2))) c)))) (fun (q3:Nat×List TV)=>need (List.all q3.2 BK) (Bp 5 1 1 d q3.1 q3.2 e (fun (v5:TV) p=>(I1 ((i64.wrap (a+n2))) v5 c b p/\M1 ((i64.wrap (a+n2))) v5 c b p<M1 a d c b f)))))) (BId (b=39) (((0<=a/\a<=(i64.wrap (a+n2))/\(i64.wrap (a+n2))<=(c.length:Int))/\Bc (D9 e 1 (.str (List.drop a.toNat (List.take (Int.toNat (i64.wrap (a+n2))) c)))) (fun (q4:Nat×List TV)=>need (List.all q4.2 BK) (Bp 5 1 1 d q4.1 q4.2 e (fun (v6:TV) k=>(I1 ((i64.wrap (a+n2))) v6 c b k/\M1 ((i64.wrap (a+n2))) v6 c b k<M1 a d c b f)))))) (BId ((c.length:Int)<=(i64.wrap (a+(1:Int)))) (K [] 0 4 e) (((0<=(i64.wrap (a+(1:Int)))/\(i64.wrap (a+(1:Int)))<(c.length:Int))/\BId (((List.getD c (Int.toNat (i64.wrap (a+(1:Int)))) 0).toNat:Int)=(117:Int)) (CallT PR Bu [.str c,(.int .i64 (i64.wrap (a+(2:Int))))] [.one (.int .i32),.one (.int .i64),.one (.int .i64)] e (fun (n7 n8 n9:Int) m=>BId (n9≠0) (K [] 0 n9 m) (CallT PR Bt [d,.int .i32 n7] [.one .tv] m (fun (v7:TV) n=>(I1 n8 v7 c b n/\M1 n8 v7 c b n<M1 a d c b f))))) (((0<=(i64.wrap (a+(1:Int)))/\(i64.wrap (a+(1:Int)))<(c.length:Int))/\CallT PR Ax [.str Fj,(.int .u8 ((List.getD c (Int.toNat (i64.wrap (a+(1:Int)))) 0).toNat:Int))] [.one (.int .i64)] e (fun (g:Int) l=>BId (g<0) (K [] 0 3 l) (((0<=g/\g<(JA.length:Int))/\Bp 5 1 1 d 1 [(.int .u8 ((List.getD JA g.toNat 0).toNat:Int))] l (fun (v8:TV) j=>(I1 ((i64.wrap (a+(2:Int)))) v8 c b j/\M1 ((i64.wrap (a+(2:Int)))) v8 c b j<M1 a d c b f)))))))))))))))))))) (K [] 0 4 f)))):CallT PR AM [.str s,.int .i64 i] [.one .str,.one (.int .i64),.one (.int .i64)] st K:=
 Ab (cfg:=⟨[],[],[]⟩) (h:=(.seq .none (.seq .none (.seq .none (.seq (.seq .none (.block (.loop ⟨[(1,.int .i64),(8,.tv),(0,.str),(7,.int .u8)],[],[],[]⟩ .none))) .none))))) mixed (fun _ _=>Tryz.call112 _ _) Tryz.func112 (by kernel_rfl) (by kernel_rfl) h
theorem E9 (s:B8) (prefixx:B8) (st:St) (K:Bool->St->Prop) (h:CallT PR Ce [.str s,.str prefixx] [.one .bool] st (fun (b1:Bool) a=>K b1 a)):CallT PR BO [.str s,.str prefixx] [.one .bool] st K:=
 Ab (cfg:=⟨[],[],[]⟩) (h:= .none) mixed (fun _ _=>Tryz.call113 _ _) Tryz.func113 (by kernel_rfl) (by kernel_rfl) h
theorem Hi (d_0:Bool) (d_1:B8) (d_2:Int) (st:St) (K:Bool->St->Prop) (h:BId (d_1=([]:B8)) (K (((d_0==false)&&(decide (d_1=([]:B8))&&(decide (d_2=(0:Int))&&true)))) st) (CallT PR Df [.str d_1] [.one .bool] st (fun (b1:Bool) b=>BIf b1 (BId ((d_1.length:Int)<=(120:Int)) (CallT PR De [.str d_1] [.one (.int .i64)] b (fun (n1:Int) a=>BId (n1=0) (BId ((-400:Int)<=d_2) (K ((decide (d_2<=400))) a) (K false a)) (K false a))) (K false b)) (K false b)))):CallT PR CN [(.agg [.bool d_0,.str d_1,.int .i64 d_2])] [.one .bool] st K:=
 Ab (cfg:=⟨[1],[],[]⟩) (h:= .none) mixed (fun _ _=>Tryz.call131 _ _) Tryz.func131 (by kernel_rfl) (by kernel_rfl) h
theorem Hh (n:Int) (st:St) (K:B8->St->Prop) (h:BId (n=0) (K HJ st) (CallT PR Cu [.int .i64 n] [.one .str] st (fun (s1:B8) a=>K s1 a))):CallT PR B1 [.int .i64 n] [.one .str] st K:=
 Ab (cfg:=⟨[],[],[]⟩) (h:= .none) mixed (fun _ _=>Tryz.call133 _ _) Tryz.func133 (by kernel_rfl) (by kernel_rfl) h
theorem H8 (t_0:Int) (t_1:Int) (t_2:Int) (t_3:Int) (st:St) (K:Bool->St->Prop) (h:BId (t_0<1) (K false st) (BId ((4:Int)<t_0) (K false st) (BId (t_1<0) (K false st) (BId ((3652058:Int)<t_1) (K false st) (BId (t_2<0) (K false st) (BId ((86399999999999:Int)<t_2) (K false st) (BId (t_3<(-1439:Int)) (K false st) (BId ((1439:Int)<t_3) (K false st) (BId (t_0=2) (BId (t_1=0) (K ((decide (t_3=0))) st) (K false st)) (BId (t_0=1) (BId (t_2=0) (K ((decide (t_3=0))) st) (K false st)) (BId (t_0=3) (K ((decide (t_3=0))) st) (K true st)))))))))))):CallT PR Dd [(.agg [.int .i64 t_0,.int .i64 t_1,.int .i64 t_2,.int .i64 t_3])] [.one .bool] st K:=
 Ab (cfg:=⟨[1],[],[]⟩) (h:= .none) mixed (fun _ _=>Tryz.call134 _ _) Tryz.func134 (by kernel_rfl) (by kernel_rfl) h
theorem Ge (n:Int) (st:St) (K:B8->St->Prop) (h:CallT PR CP [.int .i64 n] [.one (.int .i64),.one (.int .i64),.one (.int .i64),.one (.int .i64)] st (fun (n1 n2 n3 n4:Int) d=>CallT PR Al [.int .i64 n1,.int .i64 4] [.one .str] d (fun (s1:B8) a=>(s1.length+Bf.length<=9223372036854775807/\CallT PR Al [.int .i64 n2,.int .i64 2] [.one .str] a (fun (s2:B8) c=>(((s1++Bf)).length+s2.length<=9223372036854775807/\((((s1++Bf)++s2)).length+Bf.length<=9223372036854775807/\CallT PR Al [.int .i64 n3,.int .i64 2] [.one .str] c (fun (s3:B8) b=>(((((s1++Bf)++s2)++Bf)).length+s3.length<=9223372036854775807/\K (((((s1++Bf)++s2)++Bf)++s3)) b))))))))):CallT PR AN [.int .i64 n] [.one .str] st K:=
 Ab (cfg:=⟨[],[],[]⟩) (h:= .none) mixed (fun _ _=>Tryz.call135 _ _) Tryz.func135 (by kernel_rfl) (by kernel_rfl) h
theorem FP (nano:Int) (st:St) (K:B8->St->Prop) (h:CallT PR Al [(.int .i64 (i64.wrap (Int.tdiv (i64.wrap (Int.tdiv nano (1000000000:Int))) (3600:Int)))),.int .i64 2] [.one .str] st (fun (s1:B8) f=>(s1.length+AS.length<=9223372036854775807/\CallT PR Al [(.int .i64 (Int.tmod (i64.wrap (Int.tdiv (i64.wrap (Int.tdiv nano (1000000000:Int))) (60:Int))) (60:Int))),.int .i64 2] [.one .str] f (fun (s2:B8) e=>(((s1++AS)).length+s2.length<=9223372036854775807/\((((s1++AS)++s2)).length+AS.length<=9223372036854775807/\CallT PR Al [(.int .i64 (Int.tmod (i64.wrap (Int.tdiv nano (1000000000:Int))) (60:Int))),.int .i64 2] [.one .str] e (fun (s3:B8) d=>(((((s1++AS)++s2)++AS)).length+s3.length<=9223372036854775807/\BId ((Int.tmod nano (1000000000:Int))=(0:Int)) (K (((((s1++AS)++s2)++AS)++s3)) d) (CallT PR Al [(.int .i64 (Int.tmod nano (1000000000:Int))),.int .i64 9] [.one .str] d (fun (s4:B8) g=>∃(I1:B8->B8->St->Prop) (M1:B8->B8->St->Nat),(I1 s4 (((((s1++AS)++s2)++AS)++s3)) g)/\∀a b c,I1 a b c->(((0<=(i64.wrap ((a.length:Int)-(1:Int)))/\(i64.wrap ((a.length:Int)-(1:Int)))<(a.length:Int))/\BId (((List.getD a (Int.toNat (i64.wrap ((a.length:Int)-(1:Int)))) 0).toNat:Int)=(48:Int)) (((0<=(i64.wrap ((a.length:Int)-(1:Int)))/\(i64.wrap ((a.length:Int)-(1:Int)))<=(a.length:Int))/\(I1 ((List.take (Int.toNat (i64.wrap ((a.length:Int)-(1:Int)))) a)) b c/\M1 ((List.take (Int.toNat (i64.wrap ((a.length:Int)-(1:Int)))) a)) b c<M1 a b c))) ((b.length+BG.length<=9223372036854775807/\(((b++BG)).length+a.length<=9223372036854775807/\K (((b++BG)++a)) c))))))))))))))):CallT PR AJ [.int .i64 nano] [.one .str] st K:=
 Ab (cfg:=⟨[],[],[]⟩) (h:=(.seq .none (.seq .none (.seq .none (.seq .none (.seq .none (.seq (.block (.loop ⟨[(6,.str),(5,.str)],[],[],[]⟩ .none)) .none))))))) mixed (fun _ _=>Tryz.call136 _ _) Tryz.func136 (by kernel_rfl) (by kernel_rfl) h
theorem Fa (n:Int) (st:St) (K:B8->St->Prop) (h:BId (n=0) (K str30 st) (BId (n<0) (CallT PR Al [(.int .i64 (i64.wrap (Int.tdiv (i64.wrap (0-n)) (60:Int)))),.int .i64 2] [.one .str] st (fun (s1:B8) d=>(Bf.length+s1.length<=9223372036854775807/\(((Bf++s1)).length+AS.length<=9223372036854775807/\CallT PR Al [(.int .i64 (Int.tmod (i64.wrap (0-n)) (60:Int))),.int .i64 2] [.one .str] d (fun (s2:B8) a=>((((Bf++s1)++AS)).length+s2.length<=9223372036854775807/\K ((((Bf++s1)++AS)++s2)) a)))))) (CallT PR Al [(.int .i64 (i64.wrap (Int.tdiv n (60:Int)))),.int .i64 2] [.one .str] st (fun (s3:B8) c=>(HK.length+s3.length<=9223372036854775807/\(((HK++s3)).length+AS.length<=9223372036854775807/\CallT PR Al [(.int .i64 (Int.tmod n (60:Int))),.int .i64 2] [.one .str] c (fun (s4:B8) b=>((((HK++s3)++AS)).length+s4.length<=9223372036854775807/\K ((((HK++s3)++AS)++s4)) b)))))))):CallT PR BP [.int .i64 n] [.one .str] st K:=
 Ab (cfg:=⟨[],[],[]⟩) (h:= .none) mixed (fun _ _=>Tryz.call137 _ _) Tryz.func137 (by kernel_rfl) (by kernel_rfl) h
theorem Eg (n:Int) (st:St) (K:B8->St->Prop) (h:((0<=n/\n<=n/\Int.toNat n*1<=140737488355328)/\∃(I1:Int->Int->TV->St->Prop) (M1:Int->Int->TV->St->Nat),(I1 0 n ((.ms 1 st.nb 0 n.toNat n.toNat)) (st.push (.cells (DO [.int .u8 0] (Int.toNat n*1))) (some 5)))/\∀a c b d,I1 a c b d->(BId (a<c) (((0<=a/\a<(lenZ 1 b:Int))/\stB d (ixT 1 b a.toNat) [.int .u8 48] (fun e=>(I1 ((i64.wrap (a+(1:Int)))) c b e/\M1 ((i64.wrap (a+(1:Int)))) c b e<M1 a c b d)))) (Bc ((toBytes d b).map TV.str) (fun (x1:TV)=>A6 .str x1 (fun (s1:B8)=>K s1 d)))))):CallT PR AU [.int .i64 n] [.one .str] st K:=
 Ab (cfg:=⟨[],[6],[]⟩) (h:=(.seq .none (.seq .none (.seq (.seq .none (.block (.loop ⟨[(4,.int .i64),(0,.int .i64),(3,.tv)],[],[],[]⟩ .none))) .none)))) mixed (fun _ _=>Tryz.call139 _ _) Tryz.func139 (by kernel_rfl) (by kernel_rfl) h
theorem Ev (n:Int) (st:St) (K:B8->St->Prop) (h:BId (n<0) (CallT PR AV [(.int .i64 (i64.wrap (0-n)))] [.one .str] st (fun (s1:B8) b=>(Bf.length+s1.length<=9223372036854775807/\K ((Bf++s1)) b))) (BId (n=0) (K HJ st) (CallT PR AV [.int .i64 n] [.one .str] st (fun (s2:B8) a=>K s2 a)))):CallT PR A2 [.int .i64 n] [.one .str] st K:=
 Ab (cfg:=⟨[],[],[]⟩) (h:= .none) mixed (fun _ _=>Tryz.call140 _ _) Tryz.func140 (by kernel_rfl) (by kernel_rfl) h
theorem EW (t_0:Int) (t_1:Int) (t_2:Int) (t_3:Int) (st:St) (K:Bool->St->Prop) (h:BId (t_0<1) (K false st) (BId ((4:Int)<t_0) (K false st) (BId (t_1<0) (K false st) (BId ((3652058:Int)<t_1) (K false st) (BId (t_2<0) (K false st) (BId ((86399999999999:Int)<t_2) (K false st) (BId (t_3<(-1439:Int)) (K false st) (BId ((1439:Int)<t_3) (K false st) (CallT PR BB [.int .i64 t_0] [.one .bool] st (fun (b1:Bool) c=>BIf b1 (CallT PR AT [.int .i64 t_0] [.one .bool] c (fun (b2:Bool) a=>BIf b2 (BId (t_0=4) (K true a) (K ((decide (t_3=0))) a)) (BId (t_2=0) (BId (t_0=4) (K true a) (K ((decide (t_3=0))) a)) (K false a)))) (BId (t_1=0) (CallT PR AT [.int .i64 t_0] [.one .bool] c (fun (b3:Bool) b=>BIf b3 (BId (t_0=4) (K true b) (K ((decide (t_3=0))) b)) (BId (t_2=0) (BId (t_0=4) (K true b) (K ((decide (t_3=0))) b)) (K false b)))) (K false c)))))))))))):CallT PR Ba [(.agg [.int .i64 t_0,.int .i64 t_1,.int .i64 t_2,.int .i64 t_3])] [.one .bool] st K:=
 Ab (cfg:=⟨[1],[],[]⟩) (h:= .none) mixed (fun _ _=>Tryz.call141 _ _) Tryz.func141 (by kernel_rfl) (by kernel_rfl) h
theorem Fh (n:Int) (st:St) (K:Int->Int->Int->Int->St->Prop) (h:CallT PR DH [.int .i64 n] [.one .bool] st (fun (b1:Bool) k=>BIf (!b1) (K 0 0 0 2 k) (∃(I1:Int->Int->Int->St->Prop) (M1:Int->Int->Int->St->Nat),(I1 n 1 1 k)/\∀f c d g,I1 f c d g->(CallT PR AZ [.int .i64 c] [.one (.int .i64)] g (fun (n1:Int) o=>BId (n1<=f) (CallT PR AZ [.int .i64 c] [.one (.int .i64)] o (fun (n2:Int) l=>(I1 ((i64.wrap (f-n2))) ((i64.wrap (c+(1:Int)))) d l/\M1 ((i64.wrap (f-n2))) ((i64.wrap (c+(1:Int)))) d l<M1 f c d g))) (∃(I2:Int->Int->Int->St->Prop) (M2:Int->Int->Int->St->Nat),(I2 f d c o)/\∀e a b i,I2 e a b i->(CallT PR AL [.int .i64 b,.int .i64 a] [.one (.int .i64)] i (fun (n3:Int) m=>BId (n3<=e) (CallT PR AL [.int .i64 b,.int .i64 a] [.one (.int .i64)] m (fun (n4:Int) j=>(I2 ((i64.wrap (e-n4))) ((i64.wrap (a+(1:Int)))) b j/\M2 ((i64.wrap (e-n4))) ((i64.wrap (a+(1:Int)))) b j<M2 e a b i))) (K b a ((i64.wrap (e+(1:Int)))) 0 m))))))))):CallT PR BS [.int .i64 n] [.one (.int .i64),.one (.int .i64),.one (.int .i64),.one (.int .i64)] st K:=
 Ab (cfg:=⟨[],[],[]⟩) (h:=(.seq .none (.seq .none (.seq .none (.seq (.block (.loop ⟨[(0,.int .i64),(6,.int .i64),(7,.int .i64)],[],[],[]⟩ .none)) (.seq (.block (.loop ⟨[(0,.int .i64),(7,.int .i64),(6,.int .i64)],[],[],[]⟩ .none)) .none)))))) mixed (fun _ _=>Tryz.call142 _ _) Tryz.func142 (by kernel_rfl) (by kernel_rfl) h
theorem FS (n:Int) (width:Int) (st:St) (K:B8->St->Prop) (h:∃(I1:Int->B8->Int->Int->St->Prop) (M1:Int->B8->Int->Int->St->Nat),(I1 n [] 0 width st)/\∀e b d a c,I1 e b d a c->(BId (d<a) (Bc ((toBytes c (.list 1 .full 1 [(.int .u8 (u8.wrap (i64.wrap ((48:Int)+(Int.tmod e (10:Int))))))])).map TV.str) (fun (x1:TV)=>A6 .str x1 (fun (s1:B8)=>(s1.length+b.length<=9223372036854775807/\(I1 ((i64.wrap (Int.tdiv e (10:Int)))) ((s1++b)) ((i64.wrap (d+(1:Int)))) a c/\M1 ((i64.wrap (Int.tdiv e (10:Int)))) ((s1++b)) ((i64.wrap (d+(1:Int)))) a c<M1 e b d a c))))) (K b c))):CallT PR Ah [.int .i64 n,.int .i64 width] [.one .str] st K:=
 Ab (cfg:=⟨[],[],[]⟩) (h:=(.seq .none (.seq .none (.seq (.seq .none (.block (.loop ⟨[(0,.int .i64),(5,.str),(6,.int .i64),(1,.int .i64)],[],[],[]⟩ .none))) .none)))) mixed (fun _ _=>Tryz.call143 _ _) Tryz.func143 (by kernel_rfl) (by kernel_rfl) h
theorem EV (n:Int) (st:St) (K:B8->St->Prop) (h:CallT PR Ah [(.int .i64 (i64.wrap (Int.tdiv (i64.wrap (Int.tdiv n (1000000000:Int))) (3600:Int)))),.int .i64 2] [.one .str] st (fun (s1:B8) e=>(s1.length+AS.length<=9223372036854775807/\CallT PR Ah [(.int .i64 (Int.tmod (i64.wrap (Int.tdiv (i64.wrap (Int.tdiv n (1000000000:Int))) (60:Int))) (60:Int))),.int .i64 2] [.one .str] e (fun (s2:B8) d=>(((s1++AS)).length+s2.length<=9223372036854775807/\((((s1++AS)++s2)).length+AS.length<=9223372036854775807/\CallT PR Ah [(.int .i64 (Int.tmod (i64.wrap (Int.tdiv n (1000000000:Int))) (60:Int))),.int .i64 2] [.one .str] d (fun (s3:B8) g=>(((((s1++AS)++s2)++AS)).length+s3.length<=9223372036854775807/\CallT PR Ah [(.int .i64 (Int.tmod n (1000000000:Int))),.int .i64 9] [.one .str] g (fun (s4:B8) f=>∃(I1:B8->B8->St->Prop) (M1:B8->B8->St->Nat),(I1 s4 (((((s1++AS)++s2)++AS)++s3)) f)/\∀a b c,I1 a b c->(BId ((0:Int)<(a.length:Int)) (((0<=(i64.wrap ((a.length:Int)-(1:Int)))/\(i64.wrap ((a.length:Int)-(1:Int)))<(a.length:Int))/\BId (((List.getD a (Int.toNat (i64.wrap ((a.length:Int)-(1:Int)))) 0).toNat:Int)=(48:Int)) (((0<=(i64.wrap ((a.length:Int)-(1:Int)))/\(i64.wrap ((a.length:Int)-(1:Int)))<=(a.length:Int))/\(I1 ((List.take (Int.toNat (i64.wrap ((a.length:Int)-(1:Int)))) a)) b c/\M1 ((List.take (Int.toNat (i64.wrap ((a.length:Int)-(1:Int)))) a)) b c<M1 a b c))) (BId (a=([]:B8)) (K b c) ((b.length+BG.length<=9223372036854775807/\(((b++BG)).length+a.length<=9223372036854775807/\K (((b++BG)++a)) c)))))) (BId (a=([]:B8)) (K b c) ((b.length+BG.length<=9223372036854775807/\(((b++BG)).length+a.length<=9223372036854775807/\K (((b++BG)++a)) c)))))))))))))):CallT PR AB [.int .i64 n] [.one .str] st K:=
 Ab (cfg:=⟨[],[],[]⟩) (h:=(.seq .none (.seq .none (.seq .none (.seq .none (.seq (.block (.loop ⟨[(5,.str),(4,.str)],[],[],[]⟩ .none)) .none)))))) mixed (fun _ _=>Tryz.call144 _ _) Tryz.func144 (by kernel_rfl) (by kernel_rfl) h
theorem Er (n:Int) (st:St) (K:B8->St->Prop) (h:BId (n=0) (K str30 st) (BId (n<0) (CallT PR Ah [(.int .i64 (i64.wrap (Int.tdiv (i64.wrap (0-n)) (60:Int)))),.int .i64 2] [.one .str] st (fun (s1:B8) d=>(Bf.length+s1.length<=9223372036854775807/\(((Bf++s1)).length+AS.length<=9223372036854775807/\CallT PR Ah [(.int .i64 (Int.tmod (i64.wrap (0-n)) (60:Int))),.int .i64 2] [.one .str] d (fun (s2:B8) a=>((((Bf++s1)++AS)).length+s2.length<=9223372036854775807/\K ((((Bf++s1)++AS)++s2)) a)))))) (CallT PR Ah [(.int .i64 (i64.wrap (Int.tdiv n (60:Int)))),.int .i64 2] [.one .str] st (fun (s3:B8) c=>(HK.length+s3.length<=9223372036854775807/\(((HK++s3)).length+AS.length<=9223372036854775807/\CallT PR Ah [(.int .i64 (Int.tmod n (60:Int))),.int .i64 2] [.one .str] c (fun (s4:B8) b=>((((HK++s3)++AS)).length+s4.length<=9223372036854775807/\K ((((HK++s3)++AS)++s4)) b)))))))):CallT PR Bv [.int .i64 n] [.one .str] st K:=
 Ab (cfg:=⟨[],[],[]⟩) (h:= .none) mixed (fun _ _=>Tryz.call145 _ _) Tryz.func145 (by kernel_rfl) (by kernel_rfl) h
theorem ET (s:B8) (st:St) (K:B8->Int->St->Prop) (h:CallT PR As [.str s] [.one .bool] st (fun (b1:Bool) f=>BIf (!b1) (K [] 5 f) (∃(I1:B8->Int->B8->St->Prop) (M1:B8->Int->B8->St->Nat),(I1 MR 0 s f)/\∀a b c d,I1 a b c d->(BId (b<(c.length:Int)) (((0<=b/\b<(c.length:Int))/\BId (((List.getD c b.toNat 0).toNat:Int)=(34:Int)) ((a.length+MQ.length<=9223372036854775807/\(I1 ((a++MQ)) ((i64.wrap (b+(1:Int)))) c d/\M1 ((a++MQ)) ((i64.wrap (b+(1:Int)))) c d<M1 a b c d))) (BId (((List.getD c b.toNat 0).toNat:Int)=(92:Int)) ((a.length+MP.length<=9223372036854775807/\(I1 ((a++MP)) ((i64.wrap (b+(1:Int)))) c d/\M1 ((a++MP)) ((i64.wrap (b+(1:Int)))) c d<M1 a b c d))) (BId (((List.getD c b.toNat 0).toNat:Int)=(8:Int)) ((a.length+MO.length<=9223372036854775807/\(I1 ((a++MO)) ((i64.wrap (b+(1:Int)))) c d/\M1 ((a++MO)) ((i64.wrap (b+(1:Int)))) c d<M1 a b c d))) (BId (((List.getD c b.toNat 0).toNat:Int)=(12:Int)) ((a.length+MN.length<=9223372036854775807/\(I1 ((a++MN)) ((i64.wrap (b+(1:Int)))) c d/\M1 ((a++MN)) ((i64.wrap (b+(1:Int)))) c d<M1 a b c d))) (BId (((List.getD c b.toNat 0).toNat:Int)=(10:Int)) ((a.length+MM.length<=9223372036854775807/\(I1 ((a++MM)) ((i64.wrap (b+(1:Int)))) c d/\M1 ((a++MM)) ((i64.wrap (b+(1:Int)))) c d<M1 a b c d))) (BId (((List.getD c b.toNat 0).toNat:Int)=(13:Int)) ((a.length+ML.length<=9223372036854775807/\(I1 ((a++ML)) ((i64.wrap (b+(1:Int)))) c d/\M1 ((a++ML)) ((i64.wrap (b+(1:Int)))) c d<M1 a b c d))) (BId (((List.getD c b.toNat 0).toNat:Int)=(9:Int)) ((a.length+MK.length<=9223372036854775807/\(I1 ((a++MK)) ((i64.wrap (b+(1:Int)))) c d/\M1 ((a++MK)) ((i64.wrap (b+(1:Int)))) c d<M1 a b c d))) (BId (((List.getD c b.toNat 0).toNat:Int)<(32:Int)) (CallT PR B5 [(.int .u8 ((List.getD c b.toNat 0).toNat:Int))] [.one .str] d (fun (s1:B8) e=>(Jz.length+s1.length<=9223372036854775807/\(a.length+((Jz++s1)).length<=9223372036854775807/\(I1 ((a++(Jz++s1))) ((i64.wrap (b+(1:Int)))) c e/\M1 ((a++(Jz++s1))) ((i64.wrap (b+(1:Int)))) c e<M1 a b c d))))) (((0<=b/\b<=(i64.wrap (b+(1:Int)))/\(i64.wrap (b+(1:Int)))<=(c.length:Int))/\(a.length+((List.drop b.toNat (List.take (Int.toNat (i64.wrap (b+(1:Int)))) c))).length<=9223372036854775807/\(I1 ((a++(List.drop b.toNat (List.take (Int.toNat (i64.wrap (b+(1:Int)))) c)))) ((i64.wrap (b+(1:Int)))) c d/\M1 ((a++(List.drop b.toNat (List.take (Int.toNat (i64.wrap (b+(1:Int)))) c)))) ((i64.wrap (b+(1:Int)))) c d<M1 a b c d))))))))))))) ((a.length+MR.length<=9223372036854775807/\K ((a++MR)) 0 d)))))):CallT PR BA [.str s] [.one .str,.one (.int .i64)] st K:=
 Ab (cfg:=⟨[],[],[]⟩) (h:=(.seq .none (.seq .none (.seq .none (.seq (.seq .none (.block (.loop ⟨[(4,.str),(5,.int .i64),(0,.str)],[],[],[]⟩ .none))) .none))))) mixed (fun _ _=>Tryz.call146 _ _) Tryz.func146 (by kernel_rfl) (by kernel_rfl) h
theorem Di (v_0:Int) (v_1:Bool) (v_2:Bool) (v_3:B8) (v_4:Int) (v_5:Int) (v_6:Int) (v_7:Int) (v_8:Int) (v_9:B8) (v_10:TV) (v_11:TV) (v_12:TV) (st:St) (K:Int->St->Prop) (h:CallT PR B6 [(.agg (cV v_0 v_1 v_2 v_3 v_4 v_5 v_6 v_7 v_8 v_9 v_10 v_11 v_12))] [.one .bool] st (fun (b1:Bool) d=>BIf (!b1) (K 6 d) (CallT PR Bb [(.agg [.bool v_2,.str v_3,.int .i64 v_4])] [.one .bool] d (fun (b2:Bool) c=>BIf (!b2) (K 2 c) (BId (v_0=3) (CallT PR Ba [(.agg [.int .i64 v_5,.int .i64 v_6,.int .i64 v_7,.int .i64 v_8])] [.one .bool] c (fun (b3:Bool) e=>BIf (!b3) (K 2 e) (CallT PR As [.str v_9] [.one .bool] e (fun (b4:Bool) a=>BIf (!b4) (K 5 a) (BId ((65536:Int)<(v_9.length:Int)) (K 10 a) (need (isSl v_10) (BId ((65536:Int)<(lenS v_10:Int)) (K 10 a) (CallT PR AE [v_12] [.one (.int .i64)] a (fun (n1:Int) g=>K n1 g))))))))) (CallT PR As [.str v_9] [.one .bool] c (fun (b5:Bool) b=>BIf (!b5) (K 5 b) (BId ((65536:Int)<(v_9.length:Int)) (K 10 b) (need (isSl v_10) (BId ((65536:Int)<(lenS v_10:Int)) (K 10 b) (CallT PR AE [v_12] [.one (.int .i64)] b (fun (n2:Int) f=>K n2 f)))))))))))):CallT PR Bl [(.agg (cV v_0 v_1 v_2 v_3 v_4 v_5 v_6 v_7 v_8 v_9 v_10 v_11 v_12))] [.one (.int .i64)] st K:=
 Ab (cfg:=⟨[1],[],[]⟩) (h:= .none) mixed (fun _ _=>Tryz.call158 _ _) Tryz.func158 (by kernel_rfl) (by kernel_rfl) h
theorem ER (c:Int) (st:St) (K:Bool->St->Prop) (h:BId ((97:Int)<=c) (BId (c<=122) (K true st) (BId ((65:Int)<=c) (BId (c<=90) (K true st) (BId ((48:Int)<=c) (BId (c<=57) (K true st) (BId (c=95) (K true st) (K ((decide (c=45))) st))) (BId (c=95) (K true st) (K ((decide (c=45))) st)))) (BId ((48:Int)<=c) (BId (c<=57) (K true st) (BId (c=95) (K true st) (K ((decide (c=45))) st))) (BId (c=95) (K true st) (K ((decide (c=45))) st))))) (BId ((65:Int)<=c) (BId (c<=90) (K true st) (BId ((48:Int)<=c) (BId (c<=57) (K true st) (BId (c=95) (K true st) (K ((decide (c=45))) st))) (BId (c=95) (K true st) (K ((decide (c=45))) st)))) (BId ((48:Int)<=c) (BId (c<=57) (K true st) (BId (c=95) (K true st) (K ((decide (c=45))) st))) (BId (c=95) (K true st) (K ((decide (c=45))) st))))):CallT PR Ar [.int .u8 c] [.one .bool] st K:=
 Ab (cfg:=⟨[],[],[]⟩) (h:= .none) mixed (fun _ _=>Tryz.call168 _ _) Tryz.func168 (by kernel_rfl) (by kernel_rfl) h
theorem EQ (c:Int) (free0:TV) (st:St) (K:Bool->St->Prop) (h:Bc (Ak st [] (.t free0) 0) (fun (v1:TV)=>Jf PR v1 [.int .u8 c] [.one .bool] st (fun (b1:Bool) a=>BIf b1 (K true a) (BId (c=43) (K true a) (BId (c=46) (K true a) (K ((decide (c=58))) a)))))):CallT PR Bz [.int .u8 c,free0] [.one .bool] st K:=
 Ab (cfg:=⟨[],[],[]⟩) (h:= .none) mixed (fun _ _=>Tryz.call169 _ _) Tryz.func169 (by kernel_rfl) (by kernel_rfl) h
theorem DA (s:B8) (st:St) (K:TV->Bool->St->Prop) (h:∃(I1:TV->Int->B8->St->Prop) (M1:TV->Int->B8->St->Nat),(I1 ((.list 1 .full 1 [.int .i64 0])) 0 s st)/\∀c a b d,I1 c a b d->(BId (a<(b.length:Int)) (CallT PR A1 [.str b,.int .i64 a] [.one (.int .i64),.one (.int .i64)] d (fun (n1 n2:Int) e=>BId (n2=0) (K c false e) (Bp 3 1 8 c 1 [(.int .i64 (i64.wrap (a+n2)))] e (fun (v1:TV) f=>(I1 v1 ((i64.wrap (a+n2))) b f/\M1 v1 ((i64.wrap (a+n2))) b f<M1 c a b d))))) (K c true d))):CallT PR A5 [.str s] [.one .tv,.one .bool] st K:=
 Ab (cfg:=⟨[],[],[]⟩) (h:=(.seq .none (.seq .none (.seq .none (.seq (.block (.loop ⟨[(4,.tv),(5,.int .i64),(0,.str)],[],[],[]⟩ .none)) .none))))) mixed (fun _ _=>Tryz.call204 _ _) Tryz.func204 (by kernel_rfl) (by kernel_rfl) h
theorem Gy (c:Int) (st:St) (K:Bool->St->Prop) (h:BId (c=32) (K true st) (K ((decide (c=9))) st)):CallT PR BH [.int .u8 c] [.one .bool] st K:=
 Ab (cfg:=⟨[],[],[]⟩) (h:= .none) mixed (fun _ _=>Tryz.call205 _ _) Tryz.func205 (by kernel_rfl) (by kernel_rfl) h
theorem Hc (s:B8) (atx:Int) (st:St) (K:Int->Int->St->Prop) (h:((0<=atx/\atx<(s.length:Int))/\BId (((List.getD s atx.toNat 0).toNat:Int)=(10:Int)) (K ((i64.wrap (atx+(1:Int)))) 0 st) (BId ((i64.wrap (atx+(1:Int)))=(s.length:Int)) (K 0 4 st) (((0<=(i64.wrap (atx+(1:Int)))/\(i64.wrap (atx+(1:Int)))<(s.length:Int))/\BId (((List.getD s (Int.toNat (i64.wrap (atx+(1:Int)))) 0).toNat:Int)=(10:Int)) (K ((i64.wrap (atx+(2:Int)))) 0 st) (K 0 3 st)))))):CallT PR BZ [.str s,.int .i64 atx] [.one (.int .i64),.one (.int .i64)] st K:=
 Ab (cfg:=⟨[],[],[]⟩) (h:= .none) mixed (fun _ _=>Tryz.call206 _ _) Tryz.func206 (by kernel_rfl) (by kernel_rfl) h
theorem FM (s:B8) (i:Int) (st:St) (K:Int->Int->St->Prop) (h:∃(I1:Int->B8->St->Prop) (M1:Int->B8->St->Nat),(I1 i s st)/\∀a b c,I1 a b c->(BId (a<(b.length:Int)) (((0<=a/\a<(b.length:Int))/\BId (((List.getD b a.toNat 0).toNat:Int)≠(10:Int)) (((0<=a/\a<=(b.length:Int))/\CallT PR BO [(.str (List.drop a.toNat b)),.str Jy] [.one .bool] c (fun (b1:Bool) e=>BIf (!b1) (((0<=a/\a<=(b.length:Int))/\CallT PR Aw [(.str (List.drop a.toNat b))] [.one (.int .i32),.one (.int .i64)] e (fun (n1 n2:Int) d=>BId (n1=65533) (BId (n2=1) (K 0 5 d) ((I1 ((i64.wrap (a+n2))) b d/\M1 ((i64.wrap (a+n2))) b d<M1 a b c))) ((I1 ((i64.wrap (a+n2))) b d/\M1 ((i64.wrap (a+n2))) b d<M1 a b c))))) (K a 0 e)))) (K a 0 c))) (K a 0 c))):CallT PR B3 [.str s,.int .i64 i] [.one (.int .i64),.one (.int .i64)] st K:=
 Ab (cfg:=⟨[],[],[]⟩) (h:=(.seq .none (.seq (.block (.loop ⟨[(1,.int .i64),(0,.str)],[],[],[]⟩ .none)) .none))) mixed (fun _ _=>Tryz.call207 _ _) Tryz.func207 (by kernel_rfl) (by kernel_rfl) h
theorem Gx (s:B8) (atx:Int) (st:St) (K:Int->St->Prop) (h:CallT PR AX [] [.one .tv,.one .tv] st (fun (v1 v2:TV) e=>CallT PR AW [.str s,.int .i64 atx,v2] [.one (.int .i64)] e (fun (n1:Int) a=>BId ((i64.wrap (n1-atx))=(10:Int)) (((0<=atx/\atx<=n1/\n1<=(s.length:Int))/\CallT PR Bk [(.str (List.drop atx.toNat (List.take n1.toNat s))),.str Oi] [.one .bool] a (fun (b1:Bool) c=>BIf b1 (((0<=n1/\n1<=(s.length:Int))/\CallT PR Bk [(.str (List.drop n1.toNat s)),.str Oh] [.one .bool] c (fun (b2:Bool) b=>BIf b2 (CallT PR AW [.str s,(.int .i64 (i64.wrap (n1+(1:Int)))),v2] [.one (.int .i64)] b (fun (n2:Int) d=>K n2 d)) (K n1 b)))) (K n1 c)))) (K n1 a)))):CallT PR Cq [.str s,.int .i64 atx] [.one (.int .i64)] st K:=
 Ab (cfg:=⟨[],[],[]⟩) (h:= .none) mixed (fun _ _=>Tryz.call208 _ _) Tryz.func208 (by kernel_rfl) (by kernel_rfl) h
theorem Gd (s:B8) (i:Int) (st:St) (K:Int->Int->Int->St->Prop) (h:CallT PR Be [.str s,.int .i64 i] [.one (.int .i64),.one (.int .i64)] st (fun (n1 n2:Int) f=>BId (n2≠0) (K 0 0 n2 f) (BId ((56320:Int)<=n1) (BId (n1<=57343) (K 0 0 5 f) (BId (n1<55296) (K ((IntKind.i32.wrap n1)) ((i64.wrap (i+(4:Int)))) 0 f) (BId ((57343:Int)<n1) (K ((IntKind.i32.wrap n1)) ((i64.wrap (i+(4:Int)))) 0 f) (∃(I1:Int->B8->Int->Int->TV->Int->St->Prop) (M1:Int->B8->Int->Int->TV->Int->St->Nat),(I1 0 s i n1 ((.list 1 .full 2 [.int .u8 92,.int .u8 117])) ((lenS (.list 1 .full 2 [.int .u8 92,.int .u8 117]):Int)) f)/\∀a k d n m o e,I1 a k d n m o e->(BId (a<o) (((0<=a/\a<(lenZ 1 m:Int))/\Bc (Ak e [] (.t (ixT 1 m a.toNat)) 0) (fun (x1:TV)=>A6 (.int .u8) x1 (fun (n3:Int)=>BId ((k.length:Int)<=(i64.wrap ((i64.wrap (d+(4:Int)))+a))) (K 0 0 4 e) (((0<=(i64.wrap ((i64.wrap (d+(4:Int)))+a))/\(i64.wrap ((i64.wrap (d+(4:Int)))+a))<(k.length:Int))/\BId (((List.getD k (Int.toNat (i64.wrap ((i64.wrap (d+(4:Int)))+a))) 0).toNat:Int)≠n3) (K 0 0 5 e) ((I1 ((i64.wrap (a+(1:Int)))) k d n m o e/\M1 ((i64.wrap (a+(1:Int)))) k d n m o e<M1 a k d n m o e)))))))) (CallT PR Be [.str k,(.int .i64 (i64.wrap (d+(6:Int))))] [.one (.int .i64),.one (.int .i64)] e (fun (n4 n5:Int) r=>BId (n5≠0) (K 0 0 n5 r) (BId (n4<56320) (K 0 0 5 r) (BId ((57343:Int)<n4) (K 0 0 5 r) (K ((IntKind.i32.wrap (i64.wrap ((i64.wrap ((i64.wrap ((65536:Int)+(i64.wrap ((i64.wrap (n-(55296:Int)))*2^(min (Int.toNat (10:Int)) (IntKind.bits .i64))))))+n4))-(56320:Int))))) ((i64.wrap (d+(10:Int)))) 0 r)))))))))) (BId (n1<55296) (K ((IntKind.i32.wrap n1)) ((i64.wrap (i+(4:Int)))) 0 f) (BId ((57343:Int)<n1) (K ((IntKind.i32.wrap n1)) ((i64.wrap (i+(4:Int)))) 0 f) (∃(I2:Int->B8->Int->Int->TV->Int->St->Prop) (M2:Int->B8->Int->Int->TV->Int->St->Nat),(I2 0 s i n1 ((.list 1 .full 2 [.int .u8 92,.int .u8 117])) ((lenS (.list 1 .full 2 [.int .u8 92,.int .u8 117]):Int)) f)/\∀b j c p l q g,I2 b j c p l q g->(BId (b<q) (((0<=b/\b<(lenZ 1 l:Int))/\Bc (Ak g [] (.t (ixT 1 l b.toNat)) 0) (fun (x2:TV)=>A6 (.int .u8) x2 (fun (n6:Int)=>BId ((j.length:Int)<=(i64.wrap ((i64.wrap (c+(4:Int)))+b))) (K 0 0 4 g) (((0<=(i64.wrap ((i64.wrap (c+(4:Int)))+b))/\(i64.wrap ((i64.wrap (c+(4:Int)))+b))<(j.length:Int))/\BId (((List.getD j (Int.toNat (i64.wrap ((i64.wrap (c+(4:Int)))+b))) 0).toNat:Int)≠n6) (K 0 0 5 g) ((I2 ((i64.wrap (b+(1:Int)))) j c p l q g/\M2 ((i64.wrap (b+(1:Int)))) j c p l q g<M2 b j c p l q g)))))))) (CallT PR Be [.str j,(.int .i64 (i64.wrap (c+(6:Int))))] [.one (.int .i64),.one (.int .i64)] g (fun (n7 n8:Int) u=>BId (n8≠0) (K 0 0 n8 u) (BId (n7<56320) (K 0 0 5 u) (BId ((57343:Int)<n7) (K 0 0 5 u) (K ((IntKind.i32.wrap (i64.wrap ((i64.wrap ((i64.wrap ((65536:Int)+(i64.wrap ((i64.wrap (p-(55296:Int)))*2^(min (Int.toNat (10:Int)) (IntKind.bits .i64))))))+n7))-(56320:Int))))) ((i64.wrap (c+(10:Int)))) 0 u)))))))))))):CallT PR Bu [.str s,.int .i64 i] [.one (.int .i32),.one (.int .i64),.one (.int .i64)] st K:=
 Ab (cfg:=⟨[],[],[]⟩) (h:=(.seq .none (.seq .none (.seq .none (.seq .none (.seq .none (.seq (.seq .none (.block (.loop ⟨[(39,.int .i64),(0,.str),(1,.int .i64),(7,.int .i64),(37,.tv),(38,.int .i64)],[],[],[]⟩ .none))) .none))))))) mixed (fun _ _=>Tryz.call209 _ _) Tryz.func209 (by kernel_rfl) (by kernel_rfl) h
theorem D0 (s:B8) (prefixx:B8) (st:St) (K:Bool->St->Prop) (h:BId ((prefixx.length:Int)<=(s.length:Int)) (((0<=(prefixx.length:Int)/\(prefixx.length:Int)<=(s.length:Int))/\K ((decide ((List.take (Int.toNat (prefixx.length:Int)) s)=prefixx))) st)) (K false st)):CallT PR Ce [.str s,.str prefixx] [.one .bool] st K:=
 Ab (cfg:=⟨[],[],[]⟩) (h:= .none) mixed (fun _ _=>Tryz.call211 _ _) Tryz.func211 (by kernel_rfl) (by kernel_rfl) h
theorem GF (year:Int) (month:Int) (st:St) (K:Int->St->Prop) (h:CallT PR BI [.int .i64 year] [.one .bool] st (fun (b1:Bool) a=>BIf (!b1) (K 0 a) (BId (month<1) (K 0 a) (BId ((12:Int)<month) (K 0 a) (BId (month=2) (CallT PR CO [.int .i64 year] [.one .bool] a (fun (b2:Bool) b=>BIf b2 (K 29 b) (((0<=(i64.wrap (month-(1:Int)))/\(i64.wrap (month-(1:Int)))<((12:Nat):Int))/\Bc ((([.int .i64 31,.int .i64 28,.int .i64 31,.int .i64 30,.int .i64 31,.int .i64 30,.int .i64 31,.int .i64 31,.int .i64 30,.int .i64 31,.int .i64 30,.int .i64 31]:List TV)[(0+(Int.toNat (i64.wrap (month-(1:Int))))*1)+0]?)) (fun (x1:TV)=>A6 (.int .i64) x1 (fun (n1:Int)=>K n1 b)))))) (((0<=(i64.wrap (month-(1:Int)))/\(i64.wrap (month-(1:Int)))<((12:Nat):Int))/\Bc ((([.int .i64 31,.int .i64 28,.int .i64 31,.int .i64 30,.int .i64 31,.int .i64 30,.int .i64 31,.int .i64 31,.int .i64 30,.int .i64 31,.int .i64 30,.int .i64 31]:List TV)[(0+(Int.toNat (i64.wrap (month-(1:Int))))*1)+0]?)) (fun (x2:TV)=>A6 (.int .i64) x2 (fun (n2:Int)=>K n2 a))))))))):CallT PR Az [.int .i64 year,.int .i64 month] [.one (.int .i64)] st K:=
 Ab (cfg:=⟨[5],[],[]⟩) (h:= .none) mixed (fun _ _=>Tryz.call222 _ _) Tryz.func222 (by kernel_rfl) (by kernel_rfl) h
theorem GD (year:Int) (st:St) (K:Int->St->Prop) (h:K ((i64.wrap ((i64.wrap ((i64.wrap ((i64.wrap ((365:Int)*(i64.wrap (year-(1:Int)))))+(i64.wrap (Int.tdiv (i64.wrap (year-(1:Int))) (4:Int)))))-(i64.wrap (Int.tdiv (i64.wrap (year-(1:Int))) (100:Int)))))+(i64.wrap (Int.tdiv (i64.wrap (year-(1:Int))) (400:Int)))))) st):CallT PR Bi [.int .i64 year] [.one (.int .i64)] st K:=
 Ab (cfg:=⟨[],[],[]⟩) (h:= .none) mixed (fun _ _=>Tryz.call223 _ _) Tryz.func223 (by kernel_rfl) (by kernel_rfl) h
theorem Eu (s:B8) (atx:Int) (st:St) (K:Int->Int->St->Prop) (h:BId (atx<0) (K 0 0 st) (BId ((s.length:Int)<=atx) (K 0 0 st) (((0<=atx/\atx<(s.length:Int))/\∃(C1:Int->Int->B8->Int->St->Prop),(BId ((240:Int)<=(i64.wrap ((List.getD s atx.toNat 0).toNat:Int))) (C1 4 ((Af .and .i64 (i64.wrap ((List.getD s atx.toNat 0).toNat:Int)) (7:Int))) s atx st) (BId ((224:Int)<=(i64.wrap ((List.getD s atx.toNat 0).toNat:Int))) (C1 3 ((Af .and .i64 (i64.wrap ((List.getD s atx.toNat 0).toNat:Int)) (15:Int))) s atx st) (BId ((192:Int)<=(i64.wrap ((List.getD s atx.toNat 0).toNat:Int))) (C1 2 ((Af .and .i64 (i64.wrap ((List.getD s atx.toNat 0).toNat:Int)) (31:Int))) s atx st) (C1 1 ((i64.wrap ((List.getD s atx.toNat 0).toNat:Int))) s atx st))))/\∀e m j i l,C1 e m j i l->(BId ((i64.wrap ((j.length:Int)-i))<e) (K 0 0 l) (∃(I1:Int->Int->B8->Int->Int->St->Prop) (M1:Int->Int->B8->Int->Int->St->Nat),(I1 m 1 j i e l)/\∀f c d b a g,I1 f c d b a g->(BId (c<a) (((0<=(i64.wrap (b+c))/\(i64.wrap (b+c))<(d.length:Int))/\(I1 ((Af .or .i64 (i64.wrap (f*2^(min (Int.toNat (6:Int)) (IntKind.bits .i64)))) (Af .and .i64 (i64.wrap ((List.getD d (Int.toNat (i64.wrap (b+c))) 0).toNat:Int)) (63:Int)))) ((i64.wrap (c+(1:Int)))) d b a g/\M1 ((Af .or .i64 (i64.wrap (f*2^(min (Int.toNat (6:Int)) (IntKind.bits .i64)))) (Af .and .i64 (i64.wrap ((List.getD d (Int.toNat (i64.wrap (b+c))) 0).toNat:Int)) (63:Int)))) ((i64.wrap (c+(1:Int)))) d b a g<M1 f c d b a g))) (CallT PR A0 [.int .i64 f] [.one .str,.one (.int .i64)] g (fun (s1:B8) (n1:Int) k=>BId (n1≠0) (K 0 0 k) (((0<=b/\b<=(i64.wrap (b+a))/\(i64.wrap (b+a))<=(d.length:Int))/\BId (s1≠(List.drop b.toNat (List.take (Int.toNat (i64.wrap (b+a))) d))) (K 0 0 k) (K f a k)))))))))))):CallT PR A1 [.str s,.int .i64 atx] [.one (.int .i64),.one (.int .i64)] st K:=
 Ab (cfg:=⟨[],[],[]⟩) (h:=(.seq .none (.seq .none (.seq .none (.seq .none (.cut ⟨[(7,.int .i64),(8,.int .i64),(0,.str),(1,.int .i64)],[],[],[]⟩ .none (.seq .none (.seq (.seq .none (.block (.loop ⟨[(8,.int .i64),(9,.int .i64),(0,.str),(1,.int .i64),(7,.int .i64)],[],[],[]⟩ .none))) .none)))))))) mixed (fun _ _=>Tryz.call225 _ _) Tryz.func225 (by kernel_rfl) (by kernel_rfl) h
theorem EZ (a:B8) (st:St) (K:Int->St->Prop) (h:∃(I1:Int->B8->St->Prop) (M1:Int->B8->St->Nat),(I1 0 a st)/\∀c b d,I1 c b d->(BId (c<(b.length:Int)) (((0<=(i64.wrap ((i64.wrap ((b.length:Int)-(1:Int)))-c))/\(i64.wrap ((i64.wrap ((b.length:Int)-(1:Int)))-c))<(b.length:Int))/\BId (((List.getD b (Int.toNat (i64.wrap ((i64.wrap ((b.length:Int)-(1:Int)))-c))) 0).toNat:Int)=(48:Int)) ((I1 ((i64.wrap (c+(1:Int)))) b d/\M1 ((i64.wrap (c+(1:Int)))) b d<M1 c b d)) (K c d))) (K c d))):CallT PR BC [.str a] [.one (.int .i64)] st K:=
 Ab (cfg:=⟨[],[],[]⟩) (h:=(.seq .none (.seq .none (.seq (.block (.loop ⟨[(3,.int .i64),(0,.str)],[],[],[]⟩ .none)) .none)))) mixed (fun _ _=>Tryz.call229 _ _) Tryz.func229 (by kernel_rfl) (by kernel_rfl) h
theorem EX (year:Int) (month:Int) (st:St) (K:Int->St->Prop) (h:BId (year<1) (K 0 st) (BId ((9999:Int)<year) (K 0 st) (∃(C1:Bool->Int->Int->St->Prop),(BId (month=1) (C1 ((decide (month=1))) year month st) (BId (month=3) (C1 ((decide (month=3))) year month st) (BId (month=5) (C1 ((decide (month=5))) year month st) (BId (month=7) (C1 ((decide (month=7))) year month st) (BId (month=8) (C1 ((decide (month=8))) year month st) (BId (month=10) (C1 ((decide (month=10))) year month st) (C1 ((decide (month=12))) year month st)))))))/\∀e c b a,C1 e c b a->(BIf e (K 31 a) (BId (b=4) (BId (b=4) (K 30 a) (BId (b=2) (CallT PR AF [.int .i64 c] [.one .bool] a (fun (b1:Bool) d=>BIf b1 (K 29 d) (K 28 d))) (K 0 a))) (BId (b=6) (BId (b=6) (K 30 a) (BId (b=2) (CallT PR AF [.int .i64 c] [.one .bool] a (fun (b2:Bool) g=>BIf b2 (K 29 g) (K 28 g))) (K 0 a))) (BId (b=9) (BId (b=9) (K 30 a) (BId (b=2) (CallT PR AF [.int .i64 c] [.one .bool] a (fun (b3:Bool) f=>BIf b3 (K 29 f) (K 28 f))) (K 0 a))) (BId (b=11) (K 30 a) (BId (b=2) (CallT PR AF [.int .i64 c] [.one .bool] a (fun (b4:Bool) i=>BIf b4 (K 29 i) (K 28 i))) (K 0 a)))))))))):CallT PR AL [.int .i64 year,.int .i64 month] [.one (.int .i64)] st K:=
 Ab (cfg:=⟨[],[],[]⟩) (h:=(.seq .none (.seq .none (.seq (.seq .none (.block (.cut ⟨[(12,.bool),(0,.int .i64),(11,.int .i64)],[],[],[]⟩ .none .none))) .none)))) mixed (fun _ _=>Tryz.call230 _ _) Tryz.func230 (by kernel_rfl) (by kernel_rfl) h
theorem Ia (s:B8) (st:St) (K:Bool->St->Prop) (h:BId ((s.length:Int)<=(600:Int)) (CallT PR D4 [.str s] [.one .bool] st (fun (b1:Bool) a=>BIf b1 (BId (s=([]:B8)) (K true a) (((0<=(0:Int)/\(0:Int)<(s.length:Int))/\K ((decide (((List.getD s (Int.toNat (0:Int)) 0).toNat:Int)≠(48:Int)))) a))) (K false a))) (K false st)):CallT PR Df [.str s] [.one .bool] st K:=
 Ab (cfg:=⟨[],[],[]⟩) (h:= .none) mixed (fun _ _=>Tryz.call232 _ _) Tryz.func232 (by kernel_rfl) (by kernel_rfl) h
theorem H9 (a:B8) (st:St) (K:Int->St->Prop) (h:CallT PR CZ [.str a,.str HJ] [.one .str] st (fun (s1:B8) b=>K ((i64.wrap ((a.length:Int)-(s1.length:Int)))) b)):CallT PR De [.str a] [.one (.int .i64)] st K:=
 Ab (cfg:=⟨[],[],[]⟩) (h:= .none) mixed (fun _ _=>Tryz.call233 _ _) Tryz.func233 (by kernel_rfl) (by kernel_rfl) h
theorem GB (n:Int) (st:St) (K:B8->St->Prop) (h:∃(I1:Int->TV->St->Prop) (M1:Int->TV->St->Nat),(I1 n .nilSlice st)/\∀a b c,I1 a b c->(BId ((0:Int)<a) (Ic 5 1 1 b 1 [(.int .u8 (u8.wrap (i64.wrap ((48:Int)+(Int.tmod a (10:Int))))))] c (fun (v1:TV) d=>(I1 ((i64.wrap (Int.tdiv a (10:Int)))) v1 d/\M1 ((i64.wrap (Int.tdiv a (10:Int)))) v1 d<M1 a b c))) (CallT PR Ct [b] [] c (fun (e:St)=>Bc ((toBytes e b).map TV.str) (fun (x1:TV)=>A6 .str x1 (fun (s1:B8)=>K s1 e)))))):CallT PR Cu [.int .i64 n] [.one .str] st K:=
 Ab (cfg:=⟨[],[14],[]⟩) (h:=(.seq .none (.seq .none (.seq (.block (.loop ⟨[(0,.int .i64),(3,.tv)],[],[],[]⟩ .none)) .none)))) mixed (fun _ _=>Tryz.call238 _ _) Tryz.func238 (by kernel_rfl) (by kernel_rfl) h
theorem Hk (n:Int) (st:St) (K:Int->Int->Int->Int->St->Prop) (h:CallT PR DX [.int .i64 n] [.one .bool] st (fun (b1:Bool) s=>BIf (!b1) (K 0 0 0 2 s) (∃(I1:Int->Int->St->Prop) (M1:Int->Int->St->Nat),(I1 ((i64.wrap ((i64.wrap (Int.tdiv n (366:Int)))+(1:Int)))) n s)/\∀a i j,I1 a i j->(BId (a<9999) (CallT PR Bi [(.int .i64 (i64.wrap (a+(1:Int))))] [.one (.int .i64)] j (fun (n1:Int) o=>BId (n1<=i) ((I1 ((i64.wrap (a+(1:Int)))) i o/\M1 ((i64.wrap (a+(1:Int)))) i o<M1 a i j)) (CallT PR Bi [.int .i64 a] [.one (.int .i64)] o (fun (n2:Int) u=>∃(I2:Int->Int->Int->St->Prop) (M2:Int->Int->Int->St->Nat),(I2 1 ((i64.wrap (i-n2))) a u)/\∀c f e p,I2 c f e p->(CallT PR Az [.int .i64 e,.int .i64 c] [.one (.int .i64)] p (fun (n3:Int) r=>BId (n3<=f) (CallT PR Az [.int .i64 e,.int .i64 c] [.one (.int .i64)] r (fun (n4:Int) q=>(I2 ((i64.wrap (c+(1:Int)))) ((i64.wrap (f-n4))) e q/\M2 ((i64.wrap (c+(1:Int)))) ((i64.wrap (f-n4))) e q<M2 c f e p))) (K e c ((i64.wrap (f+(1:Int)))) 0 r))))))) (CallT PR Bi [.int .i64 a] [.one (.int .i64)] j (fun (n5:Int) t=>∃(I3:Int->Int->Int->St->Prop) (M3:Int->Int->Int->St->Nat),(I3 1 ((i64.wrap (i-n5))) a t)/\∀b g d k,I3 b g d k->(CallT PR Az [.int .i64 d,.int .i64 b] [.one (.int .i64)] k (fun (n6:Int) l=>BId (n6<=g) (CallT PR Az [.int .i64 d,.int .i64 b] [.one (.int .i64)] l (fun (n7:Int) m=>(I3 ((i64.wrap (b+(1:Int)))) ((i64.wrap (g-n7))) d m/\M3 ((i64.wrap (b+(1:Int)))) ((i64.wrap (g-n7))) d m<M3 b g d k))) (K d b ((i64.wrap (g+(1:Int)))) 0 l))))))))):CallT PR CP [.int .i64 n] [.one (.int .i64),.one (.int .i64),.one (.int .i64),.one (.int .i64)] st K:=
 Ab (cfg:=⟨[],[],[]⟩) (h:=(.seq .none (.seq .none (.seq .none (.seq (.block (.loop ⟨[(2,.int .i64),(0,.int .i64)],[],[],[]⟩ .none)) (.seq .none (.seq .none (.seq (.block (.loop ⟨[(3,.int .i64),(6,.int .i64),(2,.int .i64)],[],[],[]⟩ .none)) .none)))))))) mixed (fun _ _=>Tryz.call239 _ _) Tryz.func239 (by kernel_rfl) (by kernel_rfl) h
theorem Hg (n:Int) (width:Int) (st:St) (K:B8->St->Prop) (h:((0<=width/\width<=width/\Int.toNat width*1<=140737488355328)/\∃(I1:Int->Int->TV->St->Prop) (M1:Int->Int->TV->St->Nat),(I1 n ((i64.wrap (width-(1:Int)))) ((.ms 1 st.nb 0 width.toNat width.toNat)) (st.push (.cells (DO [.int .u8 0] (Int.toNat width*1))) (some 5)))/\∀c a b d,I1 c a b d->(BId ((0:Int)<=a) (((0<=a/\a<(lenZ 1 b:Int))/\stB d (ixT 1 b a.toNat) [(.int .u8 (u8.wrap (i64.wrap ((48:Int)+(Int.tmod c (10:Int))))))] (fun e=>(I1 ((i64.wrap (Int.tdiv c (10:Int)))) ((i64.wrap (a-(1:Int)))) b e/\M1 ((i64.wrap (Int.tdiv c (10:Int)))) ((i64.wrap (a-(1:Int)))) b e<M1 c a b d)))) (Bc ((toBytes d b).map TV.str) (fun (x1:TV)=>A6 .str x1 (fun (s1:B8)=>K s1 d)))))):CallT PR Al [.int .i64 n,.int .i64 width] [.one .str] st K:=
 Ab (cfg:=⟨[],[8],[]⟩) (h:=(.seq .none (.seq .none (.seq (.seq .none (.block (.loop ⟨[(0,.int .i64),(6,.int .i64),(5,.tv)],[],[],[]⟩ .none))) .none)))) mixed (fun _ _=>Tryz.call240 _ _) Tryz.func240 (by kernel_rfl) (by kernel_rfl) h
theorem Eh (n:Int) (st:St) (K:B8->St->Prop) (h:∃(I1:Int->B8->St->Prop) (M1:Int->B8->St->Nat),(I1 n [] st)/\∀b a c,I1 b a c->(BId ((0:Int)<b) (Bc ((toBytes c (.list 1 .full 1 [(.int .u8 (u8.wrap (i64.wrap ((48:Int)+(Int.tmod b (10:Int))))))])).map TV.str) (fun (x1:TV)=>A6 .str x1 (fun (s1:B8)=>(s1.length+a.length<=9223372036854775807/\(I1 ((i64.wrap (Int.tdiv b (10:Int)))) ((s1++a)) c/\M1 ((i64.wrap (Int.tdiv b (10:Int)))) ((s1++a)) c<M1 b a c))))) (K a c))):CallT PR AV [.int .i64 n] [.one .str] st K:=
 Ab (cfg:=⟨[],[],[]⟩) (h:=(.seq .none (.seq .none (.seq (.block (.loop ⟨[(0,.int .i64),(3,.str)],[],[],[]⟩ .none)) .none)))) mixed (fun _ _=>Tryz.call242 _ _) Tryz.func242 (by kernel_rfl) (by kernel_rfl) h
theorem EU (kind:Int) (st:St) (K:Bool->St->Prop) (h:BId (kind=1) (K true st) (BId (kind=3) (K true st) (K ((decide (kind=4))) st))):CallT PR BB [.int .i64 kind] [.one .bool] st K:=
 Ab (cfg:=⟨[],[],[]⟩) (h:= .none) mixed (fun _ _=>Tryz.call243 _ _) Tryz.func243 (by kernel_rfl) (by kernel_rfl) h
theorem Ef (kind:Int) (st:St) (K:Bool->St->Prop) (h:BId (kind=2) (K true st) (BId (kind=3) (K true st) (K ((decide (kind=4))) st))):CallT PR AT [.int .i64 kind] [.one .bool] st K:=
 Ab (cfg:=⟨[],[],[]⟩) (h:= .none) mixed (fun _ _=>Tryz.call244 _ _) Tryz.func244 (by kernel_rfl) (by kernel_rfl) h
theorem Gf (n:Int) (st:St) (K:Bool->St->Prop) (h:BId ((0:Int)<=n) (K ((decide (n<=3652058))) st) (K false st)):CallT PR DH [.int .i64 n] [.one .bool] st K:=
 Ab (cfg:=⟨[],[],[]⟩) (h:= .none) mixed (fun _ _=>Tryz.call245 _ _) Tryz.func245 (by kernel_rfl) (by kernel_rfl) h
theorem Es (year:Int) (st:St) (K:Int->St->Prop) (h:∃(I1:Int->Int->Int->St->Prop) (M1:Int->Int->Int->St->Nat),(I1 0 1 year st)/\∀c b a d,I1 c b a d->(BId (b<=12) (CallT PR AL [.int .i64 a,.int .i64 b] [.one (.int .i64)] d (fun (n1:Int) e=>(I1 ((i64.wrap (c+n1))) ((i64.wrap (b+(1:Int)))) a e/\M1 ((i64.wrap (c+n1))) ((i64.wrap (b+(1:Int)))) a e<M1 c b a d))) (K c d))):CallT PR AZ [.int .i64 year] [.one (.int .i64)] st K:=
 Ab (cfg:=⟨[],[],[]⟩) (h:=(.seq .none (.seq .none (.seq (.seq .none (.block (.loop ⟨[(3,.int .i64),(4,.int .i64),(0,.int .i64)],[],[],[]⟩ .none))) .none)))) mixed (fun _ _=>Tryz.call246 _ _) Tryz.func246 (by kernel_rfl) (by kernel_rfl) h
theorem FQ (c:Int) (st:St) (K:B8->St->Prop) (h:((0<=(Int.fdiv c (2^(min (Int.toNat (4:Int)) (IntKind.bits .u8))))/\(Int.fdiv c (2^(min (Int.toNat (4:Int)) (IntKind.bits .u8))))<=(u8.wrap ((Int.fdiv c (2^(min (Int.toNat (4:Int)) (IntKind.bits .u8))))+(1:Int)))/\(u8.wrap ((Int.fdiv c (2^(min (Int.toNat (4:Int)) (IntKind.bits .u8))))+(1:Int)))<=(Bq.length:Int))/\((0<=(Af .and .u8 c (15:Int))/\(Af .and .u8 c (15:Int))<=(u8.wrap ((Af .and .u8 c (15:Int))+(1:Int)))/\(u8.wrap ((Af .and .u8 c (15:Int))+(1:Int)))<=(Bq.length:Int))/\(((List.drop (Int.toNat (Int.fdiv c (2^(min (Int.toNat (4:Int)) (IntKind.bits .u8))))) (List.take (Int.toNat (u8.wrap ((Int.fdiv c (2^(min (Int.toNat (4:Int)) (IntKind.bits .u8))))+(1:Int)))) Bq))).length+((List.drop (Int.toNat (Af .and .u8 c (15:Int))) (List.take (Int.toNat (u8.wrap ((Af .and .u8 c (15:Int))+(1:Int)))) Bq))).length<=9223372036854775807/\K (((List.drop (Int.toNat (Int.fdiv c (2^(min (Int.toNat (4:Int)) (IntKind.bits .u8))))) (List.take (Int.toNat (u8.wrap ((Int.fdiv c (2^(min (Int.toNat (4:Int)) (IntKind.bits .u8))))+(1:Int)))) Bq))++(List.drop (Int.toNat (Af .and .u8 c (15:Int))) (List.take (Int.toNat (u8.wrap ((Af .and .u8 c (15:Int))+(1:Int)))) Bq)))) st)))):CallT PR B5 [.int .u8 c] [.one .str] st K:=
 Ab (cfg:=⟨[],[],[]⟩) (h:= .none) mixed (fun _ _=>Tryz.call247 _ _) Tryz.func247 (by kernel_rfl) (by kernel_rfl) h
theorem FR (v_0:Int) (v_1:Bool) (v_2:Bool) (v_3:B8) (v_4:Int) (v_5:Int) (v_6:Int) (v_7:Int) (v_8:Int) (v_9:B8) (v_10:TV) (v_11:TV) (v_12:TV) (st:St) (K:Bool->St->Prop) (h:BId (v_0<0) (K false st) (BId ((7:Int)<v_0) (K false st) (BId (v_0≠1) (BIf v_1 (K false st) (BId (v_0≠2) (BIf (!((v_2==false)&&(decide (v_3=([]:B8))&&(decide (v_4=(0:Int))&&true)))) (K false st) (BId (v_0≠3) (BIf (!(decide (v_5=(0:Int))&&(decide (v_6=(0:Int))&&(decide (v_7=(0:Int))&&(decide (v_8=(0:Int))&&true))))) (K false st) (BId (v_0=4) (BId (v_0=5) (BId (v_0=6) (BId (v_0=7) (K true st) (need (isSl v_12) (K ((decide ((lenS v_12:Int)=(0:Int)))) st))) (need (isSl v_11) (BId ((lenS v_11:Int)=(0:Int)) (BId (v_0=7) (K true st) (need (isSl v_12) (K ((decide ((lenS v_12:Int)=(0:Int)))) st))) (K false st)))) (need (isSl v_10) (BId ((lenS v_10:Int)=(0:Int)) (BId (v_0=6) (BId (v_0=7) (K true st) (need (isSl v_12) (K ((decide ((lenS v_12:Int)=(0:Int)))) st))) (need (isSl v_11) (BId ((lenS v_11:Int)=(0:Int)) (BId (v_0=7) (K true st) (need (isSl v_12) (K ((decide ((lenS v_12:Int)=(0:Int)))) st))) (K false st)))) (K false st)))) (BId (v_9=([]:B8)) (BId (v_0=5) (BId (v_0=6) (BId (v_0=7) (K true st) (need (isSl v_12) (K ((decide ((lenS v_12:Int)=(0:Int)))) st))) (need (isSl v_11) (BId ((lenS v_11:Int)=(0:Int)) (BId (v_0=7) (K true st) (need (isSl v_12) (K ((decide ((lenS v_12:Int)=(0:Int)))) st))) (K false st)))) (need (isSl v_10) (BId ((lenS v_10:Int)=(0:Int)) (BId (v_0=6) (BId (v_0=7) (K true st) (need (isSl v_12) (K ((decide ((lenS v_12:Int)=(0:Int)))) st))) (need (isSl v_11) (BId ((lenS v_11:Int)=(0:Int)) (BId (v_0=7) (K true st) (need (isSl v_12) (K ((decide ((lenS v_12:Int)=(0:Int)))) st))) (K false st)))) (K false st)))) (K false st)))) (BId (v_0=4) (BId (v_0=5) (BId (v_0=6) (BId (v_0=7) (K true st) (need (isSl v_12) (K ((decide ((lenS v_12:Int)=(0:Int)))) st))) (need (isSl v_11) (BId ((lenS v_11:Int)=(0:Int)) (BId (v_0=7) (K true st) (need (isSl v_12) (K ((decide ((lenS v_12:Int)=(0:Int)))) st))) (K false st)))) (need (isSl v_10) (BId ((lenS v_10:Int)=(0:Int)) (BId (v_0=6) (BId (v_0=7) (K true st) (need (isSl v_12) (K ((decide ((lenS v_12:Int)=(0:Int)))) st))) (need (isSl v_11) (BId ((lenS v_11:Int)=(0:Int)) (BId (v_0=7) (K true st) (need (isSl v_12) (K ((decide ((lenS v_12:Int)=(0:Int)))) st))) (K false st)))) (K false st)))) (BId (v_9=([]:B8)) (BId (v_0=5) (BId (v_0=6) (BId (v_0=7) (K true st) (need (isSl v_12) (K ((decide ((lenS v_12:Int)=(0:Int)))) st))) (need (isSl v_11) (BId ((lenS v_11:Int)=(0:Int)) (BId (v_0=7) (K true st) (need (isSl v_12) (K ((decide ((lenS v_12:Int)=(0:Int)))) st))) (K false st)))) (need (isSl v_10) (BId ((lenS v_10:Int)=(0:Int)) (BId (v_0=6) (BId (v_0=7) (K true st) (need (isSl v_12) (K ((decide ((lenS v_12:Int)=(0:Int)))) st))) (need (isSl v_11) (BId ((lenS v_11:Int)=(0:Int)) (BId (v_0=7) (K true st) (need (isSl v_12) (K ((decide ((lenS v_12:Int)=(0:Int)))) st))) (K false st)))) (K false st)))) (K false st))))) (BId (v_0≠3) (BIf (!(decide (v_5=(0:Int))&&(decide (v_6=(0:Int))&&(decide (v_7=(0:Int))&&(decide (v_8=(0:Int))&&true))))) (K false st) (BId (v_0=4) (BId (v_0=5) (BId (v_0=6) (BId (v_0=7) (K true st) (need (isSl v_12) (K ((decide ((lenS v_12:Int)=(0:Int)))) st))) (need (isSl v_11) (BId ((lenS v_11:Int)=(0:Int)) (BId (v_0=7) (K true st) (need (isSl v_12) (K ((decide ((lenS v_12:Int)=(0:Int)))) st))) (K false st)))) (need (isSl v_10) (BId ((lenS v_10:Int)=(0:Int)) (BId (v_0=6) (BId (v_0=7) (K true st) (need (isSl v_12) (K ((decide ((lenS v_12:Int)=(0:Int)))) st))) (need (isSl v_11) (BId ((lenS v_11:Int)=(0:Int)) (BId (v_0=7) (K true st) (need (isSl v_12) (K ((decide ((lenS v_12:Int)=(0:Int)))) st))) (K false st)))) (K false st)))) (BId (v_9=([]:B8)) (BId (v_0=5) (BId (v_0=6) (BId (v_0=7) (K true st) (need (isSl v_12) (K ((decide ((lenS v_12:Int)=(0:Int)))) st))) (need (isSl v_11) (BId ((lenS v_11:Int)=(0:Int)) (BId (v_0=7) (K true st) (need (isSl v_12) (K ((decide ((lenS v_12:Int)=(0:Int)))) st))) (K false st)))) (need (isSl v_10) (BId ((lenS v_10:Int)=(0:Int)) (BId (v_0=6) (BId (v_0=7) (K true st) (need (isSl v_12) (K ((decide ((lenS v_12:Int)=(0:Int)))) st))) (need (isSl v_11) (BId ((lenS v_11:Int)=(0:Int)) (BId (v_0=7) (K true st) (need (isSl v_12) (K ((decide ((lenS v_12:Int)=(0:Int)))) st))) (K false st)))) (K false st)))) (K false st)))) (BId (v_0=4) (BId (v_0=5) (BId (v_0=6) (BId (v_0=7) (K true st) (need (isSl v_12) (K ((decide ((lenS v_12:Int)=(0:Int)))) st))) (need (isSl v_11) (BId ((lenS v_11:Int)=(0:Int)) (BId (v_0=7) (K true st) (need (isSl v_12) (K ((decide ((lenS v_12:Int)=(0:Int)))) st))) (K false st)))) (need (isSl v_10) (BId ((lenS v_10:Int)=(0:Int)) (BId (v_0=6) (BId (v_0=7) (K true st) (need (isSl v_12) (K ((decide ((lenS v_12:Int)=(0:Int)))) st))) (need (isSl v_11) (BId ((lenS v_11:Int)=(0:Int)) (BId (v_0=7) (K true st) (need (isSl v_12) (K ((decide ((lenS v_12:Int)=(0:Int)))) st))) (K false st)))) (K false st)))) (BId (v_9=([]:B8)) (BId (v_0=5) (BId (v_0=6) (BId (v_0=7) (K true st) (need (isSl v_12) (K ((decide ((lenS v_12:Int)=(0:Int)))) st))) (need (isSl v_11) (BId ((lenS v_11:Int)=(0:Int)) (BId (v_0=7) (K true st) (need (isSl v_12) (K ((decide ((lenS v_12:Int)=(0:Int)))) st))) (K false st)))) (need (isSl v_10) (BId ((lenS v_10:Int)=(0:Int)) (BId (v_0=6) (BId (v_0=7) (K true st) (need (isSl v_12) (K ((decide ((lenS v_12:Int)=(0:Int)))) st))) (need (isSl v_11) (BId ((lenS v_11:Int)=(0:Int)) (BId (v_0=7) (K true st) (need (isSl v_12) (K ((decide ((lenS v_12:Int)=(0:Int)))) st))) (K false st)))) (K false st)))) (K false st)))))) (BId (v_0≠2) (BIf (!((v_2==false)&&(decide (v_3=([]:B8))&&(decide (v_4=(0:Int))&&true)))) (K false st) (BId (v_0≠3) (BIf (!(decide (v_5=(0:Int))&&(decide (v_6=(0:Int))&&(decide (v_7=(0:Int))&&(decide (v_8=(0:Int))&&true))))) (K false st) (BId (v_0=4) (BId (v_0=5) (BId (v_0=6) (BId (v_0=7) (K true st) (need (isSl v_12) (K ((decide ((lenS v_12:Int)=(0:Int)))) st))) (need (isSl v_11) (BId ((lenS v_11:Int)=(0:Int)) (BId (v_0=7) (K true st) (need (isSl v_12) (K ((decide ((lenS v_12:Int)=(0:Int)))) st))) (K false st)))) (need (isSl v_10) (BId ((lenS v_10:Int)=(0:Int)) (BId (v_0=6) (BId (v_0=7) (K true st) (need (isSl v_12) (K ((decide ((lenS v_12:Int)=(0:Int)))) st))) (need (isSl v_11) (BId ((lenS v_11:Int)=(0:Int)) (BId (v_0=7) (K true st) (need (isSl v_12) (K ((decide ((lenS v_12:Int)=(0:Int)))) st))) (K false st)))) (K false st)))) (BId (v_9=([]:B8)) (BId (v_0=5) (BId (v_0=6) (BId (v_0=7) (K true st) (need (isSl v_12) (K ((decide ((lenS v_12:Int)=(0:Int)))) st))) (need (isSl v_11) (BId ((lenS v_11:Int)=(0:Int)) (BId (v_0=7) (K true st) (need (isSl v_12) (K ((decide ((lenS v_12:Int)=(0:Int)))) st))) (K false st)))) (need (isSl v_10) (BId ((lenS v_10:Int)=(0:Int)) (BId (v_0=6) (BId (v_0=7) (K true st) (need (isSl v_12) (K ((decide ((lenS v_12:Int)=(0:Int)))) st))) (need (isSl v_11) (BId ((lenS v_11:Int)=(0:Int)) (BId (v_0=7) (K true st) (need (isSl v_12) (K ((decide ((lenS v_12:Int)=(0:Int)))) st))) (K false st)))) (K false st)))) (K false st)))) (BId (v_0=4) (BId (v_0=5) (BId (v_0=6) (BId (v_0=7) (K true st) (need (isSl v_12) (K ((decide ((lenS v_12:Int)=(0:Int)))) st))) (need (isSl v_11) (BId ((lenS v_11:Int)=(0:Int)) (BId (v_0=7) (K true st) (need (isSl v_12) (K ((decide ((lenS v_12:Int)=(0:Int)))) st))) (K false st)))) (need (isSl v_10) (BId ((lenS v_10:Int)=(0:Int)) (BId (v_0=6) (BId (v_0=7) (K true st) (need (isSl v_12) (K ((decide ((lenS v_12:Int)=(0:Int)))) st))) (need (isSl v_11) (BId ((lenS v_11:Int)=(0:Int)) (BId (v_0=7) (K true st) (need (isSl v_12) (K ((decide ((lenS v_12:Int)=(0:Int)))) st))) (K false st)))) (K false st)))) (BId (v_9=([]:B8)) (BId (v_0=5) (BId (v_0=6) (BId (v_0=7) (K true st) (need (isSl v_12) (K ((decide ((lenS v_12:Int)=(0:Int)))) st))) (need (isSl v_11) (BId ((lenS v_11:Int)=(0:Int)) (BId (v_0=7) (K true st) (need (isSl v_12) (K ((decide ((lenS v_12:Int)=(0:Int)))) st))) (K false st)))) (need (isSl v_10) (BId ((lenS v_10:Int)=(0:Int)) (BId (v_0=6) (BId (v_0=7) (K true st) (need (isSl v_12) (K ((decide ((lenS v_12:Int)=(0:Int)))) st))) (need (isSl v_11) (BId ((lenS v_11:Int)=(0:Int)) (BId (v_0=7) (K true st) (need (isSl v_12) (K ((decide ((lenS v_12:Int)=(0:Int)))) st))) (K false st)))) (K false st)))) (K false st))))) (BId (v_0≠3) (BIf (!(decide (v_5=(0:Int))&&(decide (v_6=(0:Int))&&(decide (v_7=(0:Int))&&(decide (v_8=(0:Int))&&true))))) (K false st) (BId (v_0=4) (BId (v_0=5) (BId (v_0=6) (BId (v_0=7) (K true st) (need (isSl v_12) (K ((decide ((lenS v_12:Int)=(0:Int)))) st))) (need (isSl v_11) (BId ((lenS v_11:Int)=(0:Int)) (BId (v_0=7) (K true st) (need (isSl v_12) (K ((decide ((lenS v_12:Int)=(0:Int)))) st))) (K false st)))) (need (isSl v_10) (BId ((lenS v_10:Int)=(0:Int)) (BId (v_0=6) (BId (v_0=7) (K true st) (need (isSl v_12) (K ((decide ((lenS v_12:Int)=(0:Int)))) st))) (need (isSl v_11) (BId ((lenS v_11:Int)=(0:Int)) (BId (v_0=7) (K true st) (need (isSl v_12) (K ((decide ((lenS v_12:Int)=(0:Int)))) st))) (K false st)))) (K false st)))) (BId (v_9=([]:B8)) (BId (v_0=5) (BId (v_0=6) (BId (v_0=7) (K true st) (need (isSl v_12) (K ((decide ((lenS v_12:Int)=(0:Int)))) st))) (need (isSl v_11) (BId ((lenS v_11:Int)=(0:Int)) (BId (v_0=7) (K true st) (need (isSl v_12) (K ((decide ((lenS v_12:Int)=(0:Int)))) st))) (K false st)))) (need (isSl v_10) (BId ((lenS v_10:Int)=(0:Int)) (BId (v_0=6) (BId (v_0=7) (K true st) (need (isSl v_12) (K ((decide ((lenS v_12:Int)=(0:Int)))) st))) (need (isSl v_11) (BId ((lenS v_11:Int)=(0:Int)) (BId (v_0=7) (K true st) (need (isSl v_12) (K ((decide ((lenS v_12:Int)=(0:Int)))) st))) (K false st)))) (K false st)))) (K false st)))) (BId (v_0=4) (BId (v_0=5) (BId (v_0=6) (BId (v_0=7) (K true st) (need (isSl v_12) (K ((decide ((lenS v_12:Int)=(0:Int)))) st))) (need (isSl v_11) (BId ((lenS v_11:Int)=(0:Int)) (BId (v_0=7) (K true st) (need (isSl v_12) (K ((decide ((lenS v_12:Int)=(0:Int)))) st))) (K false st)))) (need (isSl v_10) (BId ((lenS v_10:Int)=(0:Int)) (BId (v_0=6) (BId (v_0=7) (K true st) (need (isSl v_12) (K ((decide ((lenS v_12:Int)=(0:Int)))) st))) (need (isSl v_11) (BId ((lenS v_11:Int)=(0:Int)) (BId (v_0=7) (K true st) (need (isSl v_12) (K ((decide ((lenS v_12:Int)=(0:Int)))) st))) (K false st)))) (K false st)))) (BId (v_9=([]:B8)) (BId (v_0=5) (BId (v_0=6) (BId (v_0=7) (K true st) (need (isSl v_12) (K ((decide ((lenS v_12:Int)=(0:Int)))) st))) (need (isSl v_11) (BId ((lenS v_11:Int)=(0:Int)) (BId (v_0=7) (K true st) (need (isSl v_12) (K ((decide ((lenS v_12:Int)=(0:Int)))) st))) (K false st)))) (need (isSl v_10) (BId ((lenS v_10:Int)=(0:Int)) (BId (v_0=6) (BId (v_0=7) (K true st) (need (isSl v_12) (K ((decide ((lenS v_12:Int)=(0:Int)))) st))) (need (isSl v_11) (BId ((lenS v_11:Int)=(0:Int)) (BId (v_0=7) (K true st) (need (isSl v_12) (K ((decide ((lenS v_12:Int)=(0:Int)))) st))) (K false st)))) (K false st)))) (K false st)))))))):CallT PR B6 [(.agg (cV v_0 v_1 v_2 v_3 v_4 v_5 v_6 v_7 v_8 v_9 v_10 v_11 v_12))] [.one .bool] st K:=
 Ab (cfg:=⟨[1],[],[]⟩) (h:= .none) mixed (fun _ _=>Tryz.call257 _ _) Tryz.func257 (by kernel_rfl) (by kernel_rfl) h
theorem CE (d_0:Bool) (d_1:B8) (d_2:Int) (st:St) (K:Bool->St->Prop) (h:BId (d_1=([]:B8)) (BIf (!d_0) (K ((decide (d_2=0))) st) (K false st)) (BId ((d_1.length:Int)<=(120:Int)) (CallT PR BD [.str d_1] [.one .bool] st (fun (b1:Bool) b=>BIf b1 (CallT PR BC [.str d_1] [.one (.int .i64)] b (fun (n1:Int) a=>BId (n1=0) (BId ((-400:Int)<=d_2) (K ((decide (d_2<=400))) a) (K false a)) (K false a))) (K false b))) (K false st))):CallT PR Bb [(.agg [.bool d_0,.str d_1,.int .i64 d_2])] [.one .bool] st K:=
 Ab (cfg:=⟨[1],[],[]⟩) (h:= .none) mixed (fun _ _=>Tryz.call258 _ _) Tryz.func258 (by kernel_rfl) (by kernel_rfl) h
theorem Fe (l:TV) (st:St) (K:Int->St->Prop) (h:∃(I1:Int->TV->St->Prop) (M1:Int->TV->St->Nat),(I1 0 l st)/\∀b c g,I1 b c g->(need (isSl c) (BId (b<(lenS c:Int)) (((0<=b/\b<(lenZ 14 c:Int))/\need (isPtr (ixT 14 c b.toNat)) (Bc (Ak g [] (.t (IU (ixT 14 c b.toNat) 0)) 0) (fun (x1:TV)=>A6 .str x1 (fun (s1:B8)=>CallT PR As [.str s1] [.one .bool] g (fun (b1:Bool) i=>BIf (!b1) (K 5 i) (((0<=b/\b<(lenZ 14 c:Int))/\need (isPtr (ixT 14 c b.toNat)) (Bc (Ak i [] (.t (IU (ixT 14 c b.toNat) 0)) 0) (fun (x2:TV)=>A6 .str x2 (fun (s2:B8)=>BId ((1024:Int)<(s2.length:Int)) (K 10 i) (∃(I2:Int->TV->Int->St->Prop) (M2:Int->TV->Int->St->Nat),(I2 0 c b i)/\∀e a d f,I2 e a d f->(BId (e<d) (((0<=e/\e<(lenZ 14 a:Int))/\need (isPtr (ixT 14 a e.toNat)) (Bc (Ak f [] (.t (IU (ixT 14 a e.toNat) 0)) 0) (fun (x3:TV)=>A6 .str x3 (fun (s3:B8)=>((0<=d/\d<(lenZ 14 a:Int))/\need (isPtr (ixT 14 a d.toNat)) (Bc (Ak f [] (.t (IU (ixT 14 a d.toNat) 0)) 0) (fun (x4:TV)=>A6 .str x4 (fun (s4:B8)=>BId (s3=s4) (K 8 f) ((I2 ((i64.wrap (e+(1:Int)))) a d f/\M2 ((i64.wrap (e+(1:Int)))) a d f<M2 e a d f))))))))))) ((I1 ((i64.wrap (d+(1:Int)))) a f/\M1 ((i64.wrap (d+(1:Int)))) a f<M1 b c g))))))))))))))) (K 0 g)))):CallT PR AE [l] [.one (.int .i64)] st K:=
 Ab (cfg:=⟨[],[],[]⟩) (h:=(.seq .none (.seq (.seq .none (.block (.loop ⟨[(3,.int .i64),(0,.tv)],[],[],[]⟩ (.seq .none (.seq (.block (.seq .none (.seq .none (.seq .none (.block (.loop ⟨[(4,.int .i64),(0,.tv),(3,.int .i64)],[],[],[]⟩ .none)))))) .none))))) .none))) mixed (fun _ _=>Tryz.call259 _ _) Tryz.func259 (by kernel_rfl) (by kernel_rfl) h
theorem FL (s:B8) (p:B8) (st:St) (K:Bool->St->Prop) (h:BId ((s.length:Int)<(p.length:Int)) (K false st) (∃(I1:Int->B8->B8->St->Prop) (M1:Int->B8->B8->St->Nat),(I1 0 s p st)/\∀a c b d,I1 a c b d->(BId (a<(b.length:Int)) (((0<=a/\a<(b.length:Int))/\BId (((List.getD b a.toNat 0).toNat:Int)=(48:Int)) (((0<=a/\a<(c.length:Int))/\BId (((List.getD c a.toNat 0).toNat:Int)<(48:Int)) (K false d) (((0<=a/\a<(c.length:Int))/\BId ((57:Int)<((List.getD c a.toNat 0).toNat:Int)) (K false d) (((0<=a/\a<(b.length:Int))/\BId (((List.getD b a.toNat 0).toNat:Int)≠(48:Int)) (((0<=a/\a<(c.length:Int))/\((0<=a/\a<(b.length:Int))/\BId (((List.getD c a.toNat 0).toNat:Int)≠((List.getD b a.toNat 0).toNat:Int)) (K false d) ((I1 ((i64.wrap (a+(1:Int)))) c b d/\M1 ((i64.wrap (a+(1:Int)))) c b d<M1 a c b d))))) ((I1 ((i64.wrap (a+(1:Int)))) c b d/\M1 ((i64.wrap (a+(1:Int)))) c b d<M1 a c b d)))))))) (((0<=a/\a<(b.length:Int))/\BId (((List.getD b a.toNat 0).toNat:Int)≠(48:Int)) (((0<=a/\a<(c.length:Int))/\((0<=a/\a<(b.length:Int))/\BId (((List.getD c a.toNat 0).toNat:Int)≠((List.getD b a.toNat 0).toNat:Int)) (K false d) ((I1 ((i64.wrap (a+(1:Int)))) c b d/\M1 ((i64.wrap (a+(1:Int)))) c b d<M1 a c b d))))) ((I1 ((i64.wrap (a+(1:Int)))) c b d/\M1 ((i64.wrap (a+(1:Int)))) c b d<M1 a c b d)))))) (K true d)))):CallT PR Bk [.str s,.str p] [.one .bool] st K:=
 Ab (cfg:=⟨[],[],[]⟩) (h:=(.seq .none (.seq .none (.seq (.seq .none (.block (.loop ⟨[(5,.int .i64),(0,.str),(1,.str)],[],[],[]⟩ .none))) .none)))) mixed (fun _ _=>Tryz.call279 _ _) Tryz.func279 (by kernel_rfl) (by kernel_rfl) h
theorem H5 (s:B8) (i:Int) (st:St) (K:Int->Int->St->Prop) (h:∃(I1:Int->Int->B8->Int->St->Prop) (M1:Int->Int->B8->Int->St->Nat),(I1 0 i s i st)/\∀d a b c e,I1 d a b c e->(BId (a<(i64.wrap (c+(4:Int)))) (BId ((b.length:Int)<=a) (K 0 4 e) (((0<=a/\a<(b.length:Int))/\CallT PR Ax [.str Og,(.int .u8 ((List.getD b a.toNat 0).toNat:Int))] [.one (.int .i64)] e (fun (n1:Int) f=>BId (n1<0) (K 0 3 f) (BId ((16:Int)<=n1) ((I1 ((i64.wrap ((i64.wrap (d*(16:Int)))+(i64.wrap (n1-(6:Int)))))) ((i64.wrap (a+(1:Int)))) b c f/\M1 ((i64.wrap ((i64.wrap (d*(16:Int)))+(i64.wrap (n1-(6:Int)))))) ((i64.wrap (a+(1:Int)))) b c f<M1 d a b c e)) ((I1 ((i64.wrap ((i64.wrap (d*(16:Int)))+n1))) ((i64.wrap (a+(1:Int)))) b c f/\M1 ((i64.wrap ((i64.wrap (d*(16:Int)))+n1))) ((i64.wrap (a+(1:Int)))) b c f<M1 d a b c e))))))) (K d 0 e))):CallT PR Be [.str s,.int .i64 i] [.one (.int .i64),.one (.int .i64)] st K:=
 Ab (cfg:=⟨[],[],[]⟩) (h:=(.seq .none (.seq .none (.seq (.seq .none (.block (.loop ⟨[(6,.int .i64),(7,.int .i64),(0,.str),(1,.int .i64)],[],[],[]⟩ .none))) .none)))) mixed (fun _ _=>Tryz.call280 _ _) Tryz.func280 (by kernel_rfl) (by kernel_rfl) h
theorem GC (year:Int) (st:St) (K:Bool->St->Prop) (h:BId ((1:Int)<=year) (K ((decide (year<=9999))) st) (K false st)):CallT PR BI [.int .i64 year] [.one .bool] st K:=
 Ab (cfg:=⟨[],[],[]⟩) (h:= .none) mixed (fun _ _=>Tryz.call287 _ _) Tryz.func287 (by kernel_rfl) (by kernel_rfl) h
theorem Hj (year:Int) (st:St) (K:Bool->St->Prop) (h:CallT PR BI [.int .i64 year] [.one .bool] st (fun (b1:Bool) a=>BIf b1 (BId ((Int.tmod year (4:Int))=(0:Int)) (BId ((Int.tmod year (100:Int))≠(0:Int)) (K true a) (K ((decide ((Int.tmod year (400:Int))=(0:Int)))) a)) (K false a)) (K false a))):CallT PR CO [.int .i64 year] [.one .bool] st K:=
 Ab (cfg:=⟨[],[],[]⟩) (h:= .none) mixed (fun _ _=>Tryz.call288 _ _) Tryz.func288 (by kernel_rfl) (by kernel_rfl) h
theorem Et (r:Int) (st:St) (K:B8->Int->St->Prop) (h:CallT PR Bd [.int .i64 r] [.one .bool] st (fun (b1:Bool) a=>BIf (!b1) (K [] 2 a) (BId (r<128) (Bc ((toBytes a (.list 1 .full 1 [(.int .u8 (u8.wrap r))])).map TV.str) (fun (x1:TV)=>A6 .str x1 (fun (s1:B8)=>K s1 0 a))) (BId (r<2048) (Bc ((toBytes a (.list 1 .full 2 [(.int .u8 (u8.wrap (Af .or .i64 (192:Int) (Int.fdiv r (2^(min (Int.toNat (6:Int)) (IntKind.bits .i64))))))),(.int .u8 (u8.wrap (Af .or .i64 (128:Int) (Af .and .i64 r (63:Int)))))])).map TV.str) (fun (x2:TV)=>A6 .str x2 (fun (s2:B8)=>K s2 0 a))) (BId (r<65536) (Bc ((toBytes a (.list 1 .full 3 [(.int .u8 (u8.wrap (Af .or .i64 (224:Int) (Int.fdiv r (2^(min (Int.toNat (12:Int)) (IntKind.bits .i64))))))),(.int .u8 (u8.wrap (Af .or .i64 (128:Int) (Af .and .i64 (Int.fdiv r (2^(min (Int.toNat (6:Int)) (IntKind.bits .i64)))) (63:Int))))),(.int .u8 (u8.wrap (Af .or .i64 (128:Int) (Af .and .i64 r (63:Int)))))])).map TV.str) (fun (x3:TV)=>A6 .str x3 (fun (s3:B8)=>K s3 0 a))) (Bc ((toBytes a (.list 1 .full 4 [(.int .u8 (u8.wrap (Af .or .i64 (240:Int) (Int.fdiv r (2^(min (Int.toNat (18:Int)) (IntKind.bits .i64))))))),(.int .u8 (u8.wrap (Af .or .i64 (128:Int) (Af .and .i64 (Int.fdiv r (2^(min (Int.toNat (12:Int)) (IntKind.bits .i64)))) (63:Int))))),(.int .u8 (u8.wrap (Af .or .i64 (128:Int) (Af .and .i64 (Int.fdiv r (2^(min (Int.toNat (6:Int)) (IntKind.bits .i64)))) (63:Int))))),(.int .u8 (u8.wrap (Af .or .i64 (128:Int) (Af .and .i64 r (63:Int)))))])).map TV.str) (fun (x4:TV)=>A6 .str x4 (fun (s4:B8)=>K s4 0 a)))))))):CallT PR A0 [.int .i64 r] [.one .str,.one (.int .i64)] st K:=
 Ab (cfg:=⟨[],[],[]⟩) (h:= .none) mixed (fun _ _=>Tryz.call290 _ _) Tryz.func290 (by kernel_rfl) (by kernel_rfl) h
theorem E0 (s:B8) (st:St) (K:Bool->St->Prop) (h:BId ((s.length:Int)<=(600:Int)) (CallT PR Bw [.str s] [.one .bool] st (fun (b1:Bool) a=>BIf b1 (BId ((s.length:Int)=(0:Int)) (K true a) (((0<=(0:Int)/\(0:Int)<(s.length:Int))/\K ((decide (((List.getD s (Int.toNat (0:Int)) 0).toNat:Int)≠(48:Int)))) a))) (K false a))) (K false st)):CallT PR BD [.str s] [.one .bool] st K:=
 Ab (cfg:=⟨[],[],[]⟩) (h:= .none) mixed (fun _ _=>Tryz.call291 _ _) Tryz.func291 (by kernel_rfl) (by kernel_rfl) h
theorem Fg (year:Int) (st:St) (K:Bool->St->Prop) (h:BId ((1:Int)<=year) (BId (year<=9999) (BId ((Int.tmod year (4:Int))=(0:Int)) (BId ((Int.tmod year (100:Int))≠(0:Int)) (K true st) (K ((decide ((Int.tmod year (400:Int))=(0:Int)))) st)) (K ((decide ((Int.tmod year (400:Int))=(0:Int)))) st)) (K false st)) (K false st)):CallT PR AF [.int .i64 year] [.one .bool] st K:=
 Ab (cfg:=⟨[],[],[]⟩) (h:= .none) mixed (fun _ _=>Tryz.call292 _ _) Tryz.func292 (by kernel_rfl) (by kernel_rfl) h
theorem Jj (s:B8) (st:St) (K:Bool->St->Prop) (h:∃(I1:Int->B8->Int->St->Prop) (M1:Int->B8->Int->St->Nat),(I1 0 s ((s.length:Int)) st)/\∀a b d c,I1 a b d c->(BId (a<d) (((0<=a/\a<(b.length:Int))/\BId (((List.getD b a.toNat 0).toNat:Int)<(48:Int)) (K false c) (((0<=a/\a<(b.length:Int))/\BId ((57:Int)<((List.getD b a.toNat 0).toNat:Int)) (K false c) ((I1 ((i64.wrap (a+(1:Int)))) b d c/\M1 ((i64.wrap (a+(1:Int)))) b d c<M1 a b d c)))))) (K true c))):CallT PR D4 [.str s] [.one .bool] st K:=
 Ab (cfg:=⟨[],[],[]⟩) (h:=(.seq .none (.seq (.seq .none (.block (.loop ⟨[(6,.int .i64),(0,.str),(5,.int .i64)],[],[],[]⟩ .none))) .none))) mixed (fun _ _=>Tryz.call293 _ _) Tryz.func293 (by kernel_rfl) (by kernel_rfl) h
theorem GA (b:TV) (st:St) (K:St->Prop) (h:need (isSl b) (∃(I1:Int->Int->TV->St->Prop) (M1:Int->Int->TV->St->Nat),(I1 0 ((i64.wrap ((lenS b:Int)-(1:Int)))) b st)/\∀c d a e,I1 c d a e->(BId (c<d) (((0<=d/\d<(lenZ 1 a:Int))/\Bc (Ak e [] (.t (ixT 1 a d.toNat)) 0) (fun (x1:TV)=>A6 (.int .u8) x1 (fun (n1:Int)=>((0<=c/\c<(lenZ 1 a:Int))/\Bc (Ak e [] (.t (ixT 1 a c.toNat)) 0) (fun (x2:TV)=>A6 (.int .u8) x2 (fun (n2:Int)=>((0<=c/\c<(lenZ 1 a:Int))/\stB e (ixT 1 a c.toNat) [.int .u8 n1] (fun g=>((0<=d/\d<(lenZ 1 a:Int))/\stB g (ixT 1 a d.toNat) [.int .u8 n2] (fun f=>(I1 ((i64.wrap (c+(1:Int)))) ((i64.wrap (d-(1:Int)))) a f/\M1 ((i64.wrap (c+(1:Int)))) ((i64.wrap (d-(1:Int)))) a f<M1 c d a e)))))))))))) (K e)))):CallT PR Ct [b] [] st K:=
 Ab (cfg:=⟨[],[],[]⟩) (h:=(.seq .none (.block (.loop ⟨[(2,.int .i64),(3,.int .i64),(0,.tv)],[],[],[]⟩ .none)))) mixed (fun _ _=>Tryz.call298 _ _) Tryz.func298 (by kernel_rfl) (by kernel_rfl) h
theorem GE (n:Int) (st:St) (K:Bool->St->Prop) (h:BId ((0:Int)<=n) (K ((decide (n<=3652058))) st) (K false st)):CallT PR DX [.int .i64 n] [.one .bool] st K:=
 Ab (cfg:=⟨[],[],[]⟩) (h:= .none) mixed (fun _ _=>Tryz.call299 _ _) Tryz.func299 (by kernel_rfl) (by kernel_rfl) h
theorem DP (r:Int) (st:St) (K:Bool->St->Prop) (h:BId ((0:Int)<=r) (BId (r<=1114111) (BId (r<55296) (K true st) (K ((decide ((57343:Int)<r))) st)) (K false st)) (K false st)):CallT PR Bd [.int .i64 r] [.one .bool] st K:=
 Ab (cfg:=⟨[],[],[]⟩) (h:= .none) mixed (fun _ _=>Tryz.call318 _ _) Tryz.func318 (by kernel_rfl) (by kernel_rfl) h
theorem Ew (s:B8) (st:St) (K:Bool->St->Prop) (h:∃(I1:Int->B8->St->Prop) (M1:Int->B8->St->Nat),(I1 0 s st)/\∀a b c,I1 a b c->(BId (a<(b.length:Int)) (((0<=a/\a<(b.length:Int))/\BId (((List.getD b a.toNat 0).toNat:Int)<(48:Int)) (K false c) (((0<=a/\a<(b.length:Int))/\BId ((57:Int)<((List.getD b a.toNat 0).toNat:Int)) (K false c) ((I1 ((i64.wrap (a+(1:Int)))) b c/\M1 ((i64.wrap (a+(1:Int)))) b c<M1 a b c)))))) (K true c))):CallT PR Bw [.str s] [.one .bool] st K:=
 Ab (cfg:=⟨[],[],[]⟩) (h:=(.seq .none (.seq (.seq .none (.block (.loop ⟨[(3,.int .i64),(0,.str)],[],[],[]⟩ .none))) .none))) mixed (fun _ _=>Tryz.call319 _ _) Tryz.func319 (by kernel_rfl) (by kernel_rfl) h
section
structure Sc where
 kind:Int
 b:Bool
 neg:Bool
 dg:B8
 ex:Int
 tk:Int
 td:Int
 tn:Int
 tz:Int
 text:B8
 bytes:B8
mutual
inductive Vl where
 | mk (s:Sc) (l:List Vl) (f:List Fd)
inductive Fd where
 | mk (k:B8) (v:Vl)
end
def Fd.key:Fd->B8 | .mk k _=>k
def Fd.val:Fd->Vl | .mk _ v=>v
def SlR (st:St) (sz:Nat) (v:TV) (n:Nat) (xs:List TV):Prop:=
 Rd sz v n xs∨∃b off cap l,v= .ms sz b off n cap/\b<st.nb/\st.box b= .cells l/\off+cap*sz<=l.length/\n<=cap/\xs=(l.drop off).take (n*sz)
theorem SlR.of_rd {st:St} {sz n:Nat} {v:TV} {xs:List TV} (h:Rd sz v n xs):SlR st sz v n xs:= .inl h
def BJ (st st':St):Prop:=st.nb<=st'.nb/\∀b,b<st.nb->st'.box b=st.box b
theorem SlR.keep {st st':St} (k:BJ st st') {sz n:Nat} {v:TV} {xs:List TV} (h:SlR st sz v n xs):SlR st' sz v n xs:=by
 rcases h with h | ⟨b,off,cap,l,h1,h2,h3,h4,h5,h6⟩
 ·exact .inl h
 ·exact .inr ⟨b,off,cap,l,h1,Nat.lt_of_lt_of_le h2 k.1,(k.2 b h2).trans h3,h4,h5,h6⟩
mutual
def VlR (st:St):Vl->List TV->Prop
 | .mk s l f,cs=>∃ub ul uf xl xf,cs=[.int .i64 s.kind,.bool s.b,.bool s.neg,.str s.dg,.int .i64 s.ex,.int .i64 s.tk,.int .i64 s.td,.int .i64 s.tn,.int .i64 s.tz,.str s.text,ub,ul,uf]/\
   SlR st 1 ub s.bytes.length (Ai s.bytes)/\SlR st 13 ul l.length xl/\VsR st l xl/\SlR st 14 uf f.length xf/\FsR st f xf
def VsR (st:St):List Vl->List TV->Prop
 | [],xs=>xs=[]
 | v::r,xs=>∃a b,xs=a++b/\VlR st v a/\VsR st r b
def FdR (st:St):Fd->List TV->Prop
 | .mk k v,xs=>∃cs,xs= .str k::cs/\VlR st v cs
def FsR (st:St):List Fd->List TV->Prop
 | [],xs=>xs=[]
 | d::r,xs=>∃a b,xs=a++b/\FdR st d a/\FsR st r b
end
mutual
theorem VlR.keep {st st':St} (k:BJ st st'):∀{v:Vl} {cs:List TV},VlR st v cs->VlR st' v cs
 | .mk s l f,cs,h=>by
  unfold VlR at h⊢
  obtain⟨ub,ul,uf,xl,xf,h0,h1,h2,h3,h4,h5⟩:=h
  exact⟨ub,ul,uf,xl,xf,h0,h1.keep k,h2.keep k,VsR.keep k h3,h4.keep k,FsR.keep k h5⟩
theorem VsR.keep {st st':St} (k:BJ st st'):∀{l:List Vl} {cs:List TV},VsR st l cs->VsR st' l cs
 | [],cs,h=>by unfold VsR at h⊢;exact h
 | v::r,cs,h=>by
  unfold VsR at h⊢
  obtain⟨a,b,h0,h1,h2⟩:=h
  exact⟨a,b,h0,VlR.keep k h1,VsR.keep k h2⟩
theorem FdR.keep {st st':St} (k:BJ st st'):∀{d:Fd} {cs:List TV},FdR st d cs->FdR st' d cs
 | .mk key v,cs,h=>by
  unfold FdR at h⊢
  obtain⟨c,h0,h1⟩:=h
  exact⟨c,h0,VlR.keep k h1⟩
theorem FsR.keep {st st':St} (k:BJ st st'):∀{l:List Fd} {cs:List TV},FsR st l cs->FsR st' l cs
 | [],cs,h=>by unfold FsR at h⊢;exact h
 | d::r,cs,h=>by
  unfold FsR at h⊢
  obtain⟨a,b,h0,h1,h2⟩:=h
  exact⟨a,b,h0,FdR.keep k h1,FsR.keep k h2⟩
end
theorem VlR.len {st:St} {v:Vl} {cs:List TV} (h:VlR st v cs):cs.length=13:=by
 cases v;unfold VlR at h;obtain⟨ub,ul,uf,xl,xf,rfl,_⟩:=h;rfl
theorem FdR.len {st:St} {v:Fd} {cs:List TV} (h:FdR st v cs):cs.length=14:=by
 cases v;unfold FdR at h;obtain⟨c,rfl,h⟩:=h;simp[h.len]
theorem VsR.len {st:St}:∀{l:List Vl} {xs:List TV},VsR st l xs->xs.length=l.length*13
 | [],xs,h=>by unfold VsR at h;subst h;rfl
 | v::r,xs,h=>by
  unfold VsR at h
  obtain⟨a,b,rfl,h1,h2⟩:=h
  rw[List.length_append,h1.len,VsR.len h2,List.length_cons];omega
theorem FsR.len {st:St}:∀{l:List Fd} {xs:List TV},FsR st l xs->xs.length=l.length*14
 | [],xs,h=>by unfold FsR at h;subst h;rfl
 | v::r,xs,h=>by
  unfold FsR at h
  obtain⟨a,b,rfl,h1,h2⟩:=h
  rw[List.length_append,h1.len,FsR.len h2,List.length_cons];omega
theorem VsR.get {st:St}:∀{l:List Vl} {xs:List TV} {i:Nat} {v:Vl},VsR st l xs->l[i]? =some v->∃cs,VlR st v cs/\(xs.drop (i*13)).take 13=cs/\cs.length=13
 | [],xs,i,v,h,hi=>by simp at hi
 | w::r,xs,i,v,h,hi=>by
  unfold VsR at h
  obtain⟨a,b,rfl,h1,h2⟩:=h
  cases i with
  | zero=>
   simp only[List.getElem?_cons_zero,Option.some.injEq]at hi
   subst hi
   refine⟨a,h1,?_,h1.len⟩
   rw[Nat.zero_mul,List.drop_zero,<-h1.len,List.take_left]
  | succ i=>
   obtain⟨cs,h3,h4,h5⟩:=VsR.get h2 (by simpa using hi)
   refine⟨cs,h3,?_,h5⟩
   rw[show(i+1)*13=a.length+i*13 by rw[h1.len];omega,List.drop_append]
   simp only[Nat.add_sub_cancel_left]
   rw[List.drop_of_length_le (by omega),List.nil_append];exact h4
theorem FsR.get {st:St}:∀{l:List Fd} {xs:List TV} {i:Nat} {v:Fd},FsR st l xs->l[i]? =some v->∃cs,FdR st v cs/\(xs.drop (i*14)).take 14=cs/\cs.length=14
 | [],xs,i,v,h,hi=>by simp at hi
 | w::r,xs,i,v,h,hi=>by
  unfold FsR at h
  obtain⟨a,b,rfl,h1,h2⟩:=h
  cases i with
  | zero=>
   simp only[List.getElem?_cons_zero,Option.some.injEq]at hi
   subst hi
   refine⟨a,h1,?_,h1.len⟩
   rw[Nat.zero_mul,List.drop_zero,<-h1.len,List.take_left]
  | succ i=>
   obtain⟨cs,h3,h4,h5⟩:=FsR.get h2 (by simpa using hi)
   refine⟨cs,h3,?_,h5⟩
   rw[show(i+1)*14=a.length+i*14 by rw[h1.len];omega,List.drop_append]
   simp only[Nat.add_sub_cancel_left]
   rw[List.drop_of_length_le (by omega),List.nil_append];exact h4
end
structure StX (S:Nat->Prop) (a b:St):Prop where
 nb:a.nb<=b.nb
 box:∀i,i<a.nb->¬S i->b.box i=a.box i
 nt:a.nt<=b.nt
 live:∀i,i<a.nt->b.live i=a.live i
 ty:∀i,i<a.nt->b.ty i=a.ty i
 bt:∀i,i<a.nb->b.bt i=a.bt i
theorem StX.of {S:Nat->Prop} {a b:St} (h:Ae a b):StX S a b:=⟨h.nb,fun i hi _=>h.box i hi,h.nt,h.live,h.ty,h.bt⟩
theorem StX.ext {S:Nat->Prop} {a b c:St} (h:Ae a b) (k:StX S b c) (hs:∀i,S i->a.nb<=i):Ae a c:=
 ⟨Nat.le_trans h.nb k.nb,fun i hi=>(k.box i (Nat.lt_of_lt_of_le hi h.nb) fun g=>absurd (hs i g) (by omega)).trans (h.box i hi),Nat.le_trans h.nt k.nt,fun i hi=>(k.live i (Nat.lt_of_lt_of_le hi h.nt)).trans (h.live i hi),fun i hi=>(k.ty i (Nat.lt_of_lt_of_le hi h.nt)).trans (h.ty i hi),fun i hi=>(k.bt i (Nat.lt_of_lt_of_le hi h.nb)).trans (h.bt i hi)⟩
theorem StX.put {S:Nat->Prop} {a:St} {i:Nat} (hi:S i) (o:Gv):StX S a (a.put i o):=
 ⟨Nat.le_refl _,fun j hj hs=>by simp only[St.put];rw[if_neg (by rintro rfl;exact hs hi)],Nat.le_refl _,fun _ _=>rfl,fun _ _=>rfl,fun _ _=>rfl⟩
theorem Ix:∀(ys A c B:List TV),ys.length=c.length->setAll (A++c++B) A.length ys=A++ys++B
 | [],A,c,B,h=>by
  have:c=[]:=List.eq_nil_of_length_eq_zero (by simpa using h.symm)
  subst this;rfl
 | y::ys,A,[],B,h=>by simp at h
 | y::ys,A,x::c,B,h=>by
  rw[setAll]
  have e:(A++x::c++B).set A.length y=(A++[y])++c++B:=by simp
  rw[e]
  have:=Ix ys (A++[y]) c B (by simpa using h)
  rw[List.length_append]at this
  rw[show A.length+1=A.length+ [y].length from rfl,this]
  simp
theorem Ig {st:St} {b:Nat} {B:List TV}:∀(c:List TV) (l:List TV) (j o:Nat),st.box b= .cells l->l.drop (o+j)=c++B->Aj st [] (.t (.box b o)) j c.length=some c
 | [],l,j,o,h,hd=>rfl
 | x::c,l,j,o,h,hd=>by
  have hx:l[o+j]? =some x:=by
   have:=congrArg (fun z:List TV=>z[0]?) hd
   simpa using this
  have hd2:l.drop (o+(j+1))=c++B:=by
   have:=congrArg (fun z:List TV=>z.drop 1) hd
   simpa [List.drop_drop,Nat.add_assoc]using this
  show(match Ak st [] (.t (.box b o)) j with | some x=>(Aj st [] (.t (.box b o)) (j+1) c.length).map (x::·) | none=>none)=_
  have:Ak st [] (.t (.box b o)) j=some x:=by simp only[Ak,h];exact hx
  rw[this]
  simp only
  rw[Ig c l (j+1) o h hd2];rfl
theorem CX {g:Ghost} {w:World} {l:B8} {v:Value} (h:Rel g w (.str l) v):v= .string ⟨l.toArray⟩:=by cases h;rfl
theorem HO {g:Ghost} {w:World} {k:IntKind} {n:Int} {v:Value} (h:Rel g w (.int k n) v):v= .int k n:=by cases h;rfl
theorem Ou {g:Ghost} {w:World} {x:TV} {vs:List Value} (h:Aq g w [x] vs):∃v,vs=[v]/\Rel g w x v:=by
 obtain⟨v,h1,h2⟩:=h.get? (i:=0) rfl
 have:=h.1
 cases vs with
 | nil=>simp at this
 | cons a r=>cases r with
  | nil=>simp at h1;subst h1;exact⟨_,rfl,h2⟩
  | cons b r=>simp at this
theorem IA {g:Ghost} {w:World} {x y:TV} {vs:List Value} (h:Aq g w [x,y] vs):∃v u,vs=[v,u]/\Rel g w x v/\Rel g w y u:=by
 obtain⟨v,h1,h2⟩:=h.get? (i:=0) rfl
 obtain⟨u,h3,h4⟩:=h.get? (i:=1) rfl
 have:=h.1
 cases vs with
 | nil=>simp at this
 | cons a r=>cases r with
  | nil=>simp at this
  | cons b r=>cases r with
   | nil=>simp at h1 h3;subst h1 h3;exact⟨_,_,rfl,h2,h4⟩
   | cons c r=>simp at this
section
theorem SlR.one {st:St} {sz n:Nat} {u:TV} {xs:List TV} (h:SlR st sz u n xs):BK u=true:=by
 rcases h with(⟨rfl,_⟩ | ⟨tip,rfl⟩) | ⟨b,off,cap,l,rfl,_⟩<;>rfl
theorem Ae.keeps {a b:St} (h:Ae a b):BJ a b:=⟨h.nb,h.box⟩
section
variable {st:St}
end
end
def EP (st:St) (sz:Nat) (u:TV) (n:Nat) (xs:List TV) (bs:List Nat):Prop:=
 (n=0/\xs=[]/\bs=[]/\(u= .nilSlice∨u= .list sz .full 0 []))∨∃b cap tail,u= .ms sz b 0 n cap/\b<st.nb/\st.box b= .cells (xs++tail)/\(xs++tail).length=cap*sz/\xs.length=n*sz/\n<=cap/\bs=[b]
theorem EP.rd {st:St} {sz n:Nat} {u:TV} {xs:List TV} {bs:List Nat} (h:EP st sz u n xs bs):SlR st sz u n xs:=by
 rcases h with⟨rfl,rfl,rfl,rfl | rfl⟩ | ⟨b,cap,tail,rfl,h1,h2,h3,h4,h5,rfl⟩
 ·exact .inl (.inl ⟨rfl,rfl,rfl⟩)
 ·exact .inl (.inr ⟨_,rfl⟩)
 ·exact .inr ⟨b,0,cap,_,rfl,h1,h2,by omega,h5,by rw[List.drop_zero,<-h4,List.take_left]⟩
theorem LJ (xs ys tail:List TV) (h:ys.length<=tail.length):setAll (xs++tail) xs.length ys=xs++ys++tail.drop ys.length:=by
 have e:tail=tail.take ys.length++tail.drop ys.length:=(List.take_append_drop _ _).symm
 have:=Ix ys xs (tail.take ys.length) (tail.drop ys.length) (by simp;omega)
 rw[List.append_assoc,List.take_append_drop]at this
 exact this
theorem N6 {T sz bytes:Nat} {st:St} {u:TV} {n k:Nat} {xs ys:List TV} {bs:List Nat} {K:TV->St->Prop} (h:EP st sz u n xs bs) (hk1:0<k) (hy:ys.length=k*sz) (hby:(n+k)*bytes<=140737488355328)
  (hK:∀u' st' bs',EP st' sz u' (n+k) (xs++ys) bs'->StX (·∈bs) st st'->((bs'=bs/\bs≠ [])∨bs'=[st.nb])->K u' st'):Ic T sz bytes u k ys st K:=by
 obtain⟨m,rfl⟩:∃m,k=m+1:=⟨k-1,by omega⟩
 have fresh:∀(zs:List TV) (N cap:Nat),zs.length=N*sz->N<=cap->EP (st.push (.cells (zs++DV ((cap-N)*sz))) (some T)) sz (.ms sz st.nb 0 N cap) N zs [st.nb]:=fun zs N cap h1 h2=>
  .inr ⟨st.nb,cap,DV ((cap-N)*sz),rfl,by simp[St.push],by simp[St.push],by rw[List.length_append,h1];simp only[DV,List.length_replicate];rw[<-Nat.add_mul];congr 1;omega,h1,h2,rfl⟩
 rcases h with⟨rfl,rfl,rfl,rfl | rfl⟩ | ⟨b,cap,tail,rfl,h1,h2,h3,h4,h5,rfl⟩
 ·simp only[Ic,Ad]
  refine⟨by simpa using hby,fun cap hc=>hK _ _ [st.nb] ?_ (StX.of ((Ae.refl st).push _ _)) (.inr rfl)⟩
  have:=fresh ys (m+1) cap hy hc
  simpa using this
 ·simp only[Ic,Nat.beq_refl]
  refine⟨hby,fun cap hc=>hK _ _ [st.nb] ?_ (StX.of ((Ae.refl st).push _ _)) (.inr rfl)⟩
  have:=fresh ys (0+(m+1)) cap (by rw[hy];congr 1;omega) hc
  simpa using this
 ·simp only[Ic,Nat.beq_refl]
  rw[List.length_append]at h3
  refine⟨hby,_,h2,by rw[List.length_append];omega,fun hc=>?_,fun hc cap' hc'=>?_⟩
  ·have hmul:(n+(m+1))*sz<=cap*sz:=Nat.mul_le_mul_right _ hc
   rw[Nat.add_mul]at hmul
   rw[Nat.zero_add,<-h4,LJ xs ys tail (by omega)]
   refine hK _ _ [b] (.inr ⟨b,cap,tail.drop ys.length,rfl,h1,by simp[St.put],by simp only[List.length_append,List.length_drop];omega,by rw[List.length_append,h4,hy,<-Nat.add_mul],hc,rfl⟩) (StX.put (S:=(·∈ [b])) (.head _) _) (.inl ⟨rfl,by simp⟩)
  ·rw[List.drop_zero,<-h4,List.take_left]
   exact hK _ _ [st.nb] (fresh (xs++ys) (n+(m+1)) cap' (by rw[List.length_append,h4,hy,<-Nat.add_mul]) hc') (StX.of ((Ae.refl st).push _ _)) (.inr rfl)
section
mutual
def Vl.sz:Vl->Nat
 | .mk s l f=>1+s.bytes.length+s.text.length+s.dg.length+E8 l+DR f
def E8:List Vl->Nat
 | []=>0
 | v::r=>v.sz+E8 r
def Fd.sz:Fd->Nat
 | .mk k v=>k.length+v.sz
def DR:List Fd->Nat
 | []=>0
 | d::r=>d.sz+DR r
end
theorem Vl.sz_pos (v:Vl):1<=v.sz:=by cases v;unfold Vl.sz;omega
theorem KD:∀l:List Vl,l.length<=E8 l
 | []=>Nat.le_refl _
 | v::r=>by have:=KD r;have:=v.sz_pos;unfold E8;simp only[List.length_cons];omega
theorem G0:∀l:List Fd,l.length<=DR l
 | []=>Nat.le_refl _
 | .mk k v::r=>by have:=G0 r;have:=v.sz_pos;unfold DR Fd.sz;simp only[List.length_cons];omega
theorem KE:∀{l:List Vl} {i:Nat} {v:Vl},l[i]? =some v->v.sz<=E8 l
 | [],i,v,h=>by simp at h
 | w::r,0,v,h=>by simp at h;subst h;unfold E8;omega
 | w::r,i+1,v,h=>by have:=KE (by simpa using h:r[i]? =some v);unfold E8;omega
theorem IT:∀{l:List Fd} {i:Nat} {d:Fd},l[i]? =some d->d.sz<=DR l
 | [],i,v,h=>by simp at h
 | w::r,0,v,h=>by simp at h;subst h;unfold DR;omega
 | w::r,i+1,v,h=>by have:=IT (by simpa using h:r[i]? =some v);unfold DR;omega
theorem IN {st:St} {ys:List TV}:∀(k j:Nat),j+k<=ys.length->Aj st [] (.t (.rptr ys)) j k=some ((ys.drop j).take k)
 | 0,j,h=>by simp[Aj]
 | k+1,j,h=>by
  show(match Ak st [] (.t (.rptr ys)) j with | some x=>(Aj st [] (.t (.rptr ys)) (j+1) k).map (x::·) | none=>none)=_
  have hj:j<ys.length:=by omega
  have:Ak st [] (.t (.rptr ys)) j=some ys[j]:=by simp[Ak,hj]
  rw[this]
  simp only
  rw[IN k (j+1) (by omega),List.drop_eq_getElem_cons hj]
  rfl
theorem SlR.ldc {st:St} {sz n i:Nat} {u:TV} {xs:List TV} (h:SlR st sz u n xs) (hl:xs.length=n*sz) (hi:i<n):Aj st [] (.t (ixT sz u i)) 0 sz=some ((xs.drop (i*sz)).take sz):=by
 have hm:(i+1)*sz<=n*sz:=Nat.mul_le_mul_right _ hi
 rw[Nat.add_mul,Nat.one_mul]at hm
 rcases h with(⟨rfl,rfl,rfl⟩ | ⟨tip,rfl⟩) | ⟨b,off,cap,l,rfl,h2,h3,h4,h5,rfl⟩
 ·omega
 ·show Aj st [] (.t (.rptr (xs.drop (i*sz)))) 0 sz=_
  rw[IN sz 0 (by rw[List.length_drop];omega),List.drop_zero]
 ·have hc:n*sz<=cap*sz:=Nat.mul_le_mul_right _ h5
  have e1:(((l.drop off).take (n*sz)).drop (i*sz)).take sz=(l.drop (off+i*sz)).take sz:=by
   rw[List.drop_take,List.drop_drop,List.take_take,Nat.min_eq_left (by omega)]
  rw[e1]
  have e:=Ig (B:=l.drop (off+i*sz+sz)) (st:=st) (b:=b) ((l.drop (off+i*sz)).take sz) l 0 (off+i*sz) h3 (by
   have:=List.take_append_drop sz (l.drop (off+i*sz))
   rw[List.drop_drop]at this
   rw[Nat.add_zero];exact this.symm)
  rw[show((l.drop (off+i*sz)).take sz).length=sz by simp;omega]at e
  exact e
theorem SlR.lenZ {st:St} {sz n:Nat} {u:TV} {xs:List TV} (h:SlR st sz u n xs):TVF.lenZ sz u=n:=by
 rcases h with(⟨rfl,rfl,rfl⟩ | ⟨tip,rfl⟩) | ⟨b,off,cap,l,rfl,h2,h3,h4,h5,rfl⟩
 ·rfl
 ·simp[TVF.lenZ]
 ·simp[TVF.lenZ]
theorem SlR.lenS {st:St} {sz n:Nat} {u:TV} {xs:List TV} (h:SlR st sz u n xs):TVF.lenS u=n:=by
 rcases h with(⟨rfl,rfl,rfl⟩ | ⟨tip,rfl⟩) | ⟨b,off,cap,l,rfl,h2,h3,h4,h5,rfl⟩<;>rfl
theorem SlR.isSl {st:St} {sz n:Nat} {u:TV} {xs:List TV} (h:SlR st sz u n xs):TVF.isSl u=true:=by
 rcases h with(⟨rfl,rfl,rfl⟩ | ⟨tip,rfl⟩) | ⟨b,off,cap,l,rfl,h2,h3,h4,h5,rfl⟩<;>rfl
theorem EP.nil (st:St) (sz:Nat):EP st sz .nilSlice 0 [] []:= .inl ⟨rfl,rfl,rfl,.inl rfl⟩
theorem Pc {n1:Int} {b1 b2:Bool} {s2:B8} {n2 n3 n4 n5 n6:Int} {s3:B8} {u1 u2 u3:TV} {f:Fun [.int .i64,.bool,.bool,.str,.int .i64,.int .i64,.int .i64,.int .i64,.int .i64,.str,.tv,.tv,.tv] Prop} (h:f n1 b1 b2 s2 n2 n3 n4 n5 n6 s3 u1 u2 u3):
  Pd [.int .i64,.bool,.bool,.str,.int .i64,.int .i64,.int .i64,.int .i64,.int .i64,.str,.tv,.tv,.tv] (.agg [.int .i64 n1,.bool b1,.bool b2,.str s2,.int .i64 n2,.int .i64 n3,.int .i64 n4,.int .i64 n5,.int .i64 n6,.str s3,u1,u2,u3]) f:=h
theorem one13 {n1:Int} {b1 b2:Bool} {s2:B8} {n2 n3 n4 n5 n6:Int} {s3:B8} {u1 u2 u3:TV} (h1:BK u1=true) (h2:BK u2=true) (h3:BK u3=true):
  List.all [.int .i64 n1,.bool b1,.bool b2,.str s2,.int .i64 n2,.int .i64 n3,.int .i64 n4,.int .i64 n5,.int .i64 n6,.str s3,u1,u2,u3] BK=true:=by
 simp only[List.all_cons,List.all_nil,h1,h2,h3,Bool.and_true];rfl
end
def AR (s:Sc) (ub ul uf:TV):List TV:=[.int .i64 s.kind,.bool s.b,.bool s.neg,.str s.dg,.int .i64 s.ex,.int .i64 s.tk,.int .i64 s.td,.int .i64 s.tn,.int .i64 s.tz,.str s.text,ub,ul,uf]
theorem O3 {l:List Fd} {v:Fd} (h:v∈l):v.sz<=DR l:=by
 obtain⟨i,hi⟩:=List.getElem?_of_mem h
 exact IT hi
theorem CT {T:Nat} {st0 st:St} {v:TV} {l ys:B8} {k:Nat} {xs:List TV} {K:TV->St->Prop} (e:Ae st0 st) (h:G8 st0.nt st v l) (hkl:k=ys.length) (hx:xs=Ai ys) (hby:l.length+ys.length<=140737488355328)
  (hK:∀v' st',Ae st0 st'->st'.box=st.box->G8 st0.nt st' v' (l++ys)->K v' st'):Bp T 1 1 v k xs st K:=by
 subst hkl hx
 exact MB e h hby hK
theorem natB_lt (n:Nat) (h:n<256):n.toUInt8.toNat=n:=by simp;omega
theorem or_u8 (x y:Nat) (hx:x<2^8) (hy:y<2^8):Af .or .u8 (x:Int) (y:Int)=((x ||| y:Nat):Int):=by
 have h:x ||| y<2^8:=Nat.or_lt_two_pow hx hy
 show IntKind.wrap .u8 ((BitVec.ofInt 8 (x:Int) ||| BitVec.ofInt 8 (y:Int)).toNat:Int)=_
 simp only[BitVec.ofInt_natCast,BitVec.toNat_or,BitVec.toNat_ofNat]
 rw[Nat.mod_eq_of_lt (by omega),Nat.mod_eq_of_lt (by omega),Ii _ (by omega) (by omega)]
theorem el13 {st0 st:St} {ul:TV} {xl:List TV} {l:List Vl} (hke:BJ st0 st) (h2:SlR st0 13 ul l.length xl) (h3:VsR st0 l xl) {i:Int} {k:Nat} (hi:i=k) (hk:k<l.length) {f:Fun [.int .i64,.bool,.bool,.str,.int .i64,.int .i64,.int .i64,.int .i64,.int .i64,.str,.tv,.tv,.tv] Prop}
  (hf:∀s' l' f' ub1 ul1 uf1,l[k]? =some (.mk s' l' f')->VlR st0 (.mk s' l' f') (AR s' ub1 ul1 uf1)->List.all (AR s' ub1 ul1 uf1) BK=true->f s'.kind s'.b s'.neg s'.dg s'.ex s'.tk s'.td s'.tn s'.tz s'.text ub1 ul1 uf1):
  (0<=i/\i<(lenZ 13 ul:Int))/\Bc ((Aj st [] (.t (ixT 13 ul (Int.toNat i))) 0 13).map TV.agg) fun x=>Pd [.int .i64,.bool,.bool,.str,.int .i64,.int .i64,.int .i64,.int .i64,.int .i64,.str,.tv,.tv,.tv] x f:=by
 subst hi
 have gw:l[k]? =some l[k]:=List.getElem?_eq_getElem hk
 obtain⟨cw,hw,hcw,hcl⟩:=h3.get gw
 rw[h2.lenZ,Int.toNat_natCast,(h2.keep hke).ldc h3.len hk,hcw]
 generalize l[k]=w at*
 cases w with
 | mk s' l' f'=>
 have hw0:=hw
 unfold VlR at hw0
 obtain⟨ub',ul',uf',xl',xf',rfl,w1,w2,w3,w4,w5⟩:=hw0
 exact⟨⟨by omega,by omega⟩,Am rfl (Pc (hf s' l' f' ub' ul' uf' gw hw (one13 w1.one w2.one w4.one)))⟩
theorem Jx {α:Type} {l:List α} {k:Nat} {v:α} (h:l[k]? =some v):l.take (k+1)=l.take k++[v]:=by
 obtain⟨q1,q2⟩:=List.getElem?_eq_some_iff.1 h
 rw[List.take_succ_eq_append_getElem q1,q2]
theorem IK {α:Type} {l:List α} {k:Nat} {v:α} (h:l[k]? =some v):v∈l:=by
 obtain⟨q1,q2⟩:=List.getElem?_eq_some_iff.1 h
 rw[<-q2];exact List.getElem_mem q1
end Go.TVF
section
namespace Go.TVF
open Go.IntKind(i64 u8)
open Go
theorem or_i64 (x y:Nat) (hx:x<2^63) (hy:y<2^63):Af .or .i64 (x:Int) (y:Int)=((x ||| y:Nat):Int):=by
 have h:x ||| y<2^63:=Nat.or_lt_two_pow hx hy
 show IntKind.wrap .i64 ((BitVec.ofInt 64 (x:Int) ||| BitVec.ofInt 64 (y:Int)).toNat:Int)=_
 simp only[BitVec.ofInt_natCast,BitVec.toNat_or,BitVec.toNat_ofNat]
 rw[Nat.mod_eq_of_lt (by omega),Nat.mod_eq_of_lt (by omega),Ac _ (by omega) (by omega)]
theorem and_i64 (x y:Nat) (hx:x<2^63) (hy:y<2^63):Af .and .i64 (x:Int) (y:Int)=((x&&&y:Nat):Int):=by
 have h:x&&&y<2^63:=Nat.and_lt_two_pow _ hy
 show IntKind.wrap .i64 ((BitVec.ofInt 64 (x:Int)&&&BitVec.ofInt 64 (y:Int)).toNat:Int)=_
 simp only[BitVec.ofInt_natCast,BitVec.toNat_and,BitVec.toNat_ofNat]
 rw[Nat.mod_eq_of_lt (by omega),Nat.mod_eq_of_lt (by omega),Ac _ (by omega) (by omega)]
theorem Pv (x y:Nat) (hx:x<2^8) (hy:y<2^8):Af .and .u8 (x:Int) (y:Int)=((x&&&y:Nat):Int):=by
 have h:x&&&y<2^8:=Nat.and_lt_two_pow _ hy
 show IntKind.wrap .u8 ((BitVec.ofInt 8 (x:Int)&&&BitVec.ofInt 8 (y:Int)).toNat:Int)=_
 simp only[BitVec.ofInt_natCast,BitVec.toNat_and,BitVec.toNat_ofNat]
 rw[Nat.mod_eq_of_lt (by omega),Nat.mod_eq_of_lt (by omega),Ii _ (by omega) (by omega)]
theorem OF (a b m:Nat) (hb:b<2^m) (h:a*2^m+b<2^63):Af .or .i64 ((a*2^m:Nat):Int) (b:Int)=((a*2^m+b:Nat):Int):=by
 have hb':b<2^63:=by omega
 rw[or_i64 _ _ (by omega) hb',Nat.mul_comm a,Nat.two_pow_add_eq_or_of_lt hb]
theorem FB (a m:Nat) (ha:a<2^63) (hm:m<63):Af .and .i64 (a:Int) ((2^m-1:Nat):Int)=((a%2^m:Nat):Int):=by
 have:2^m<2^63:=Nat.pow_lt_pow_right (by decide) hm
 rw[and_i64 _ _ ha (by omega),Nat.and_two_pow_sub_one_eq_mod]
theorem Oa (n:Nat) (h:n<=255):IntKind.wrap .i64 (n:Int)=n:=Ac _ (by omega) (by omega)
theorem BY {α:Type} (l:List α) (i:Nat) (d:α) (h:i<l.length):l.take (i+1)=l.take i++[l.getD i d]:=by
 rw[List.take_add_one,List.getElem?_eq_getElem h,List.getD,List.getElem?_eq_getElem h];rfl
theorem Nl (a c:UInt8):((a.toNat:Int)=(c.toNat:Int))↔a=c:=by
 constructor
 ·intro h;exact UInt8.toNat_inj.1 (by omega)
 ·intro h;rw[h]
theorem shr_i64 (x m:Nat) (h:m<=64):Int.fdiv (x:Int) (2^(min m (IntKind.bits .i64)))=((x/2^m:Nat):Int):=by
 rw[show min m (IntKind.bits .i64)=m from Nat.min_eq_left h,show(2:Int)^m=((2^m:Nat):Int) by simp,Int.fdiv_eq_ediv_of_nonneg _ (Int.natCast_nonneg _)]
 rfl
theorem NR {α:Type} (l:List α) (i j:Nat) (d:α):(l.drop i).getD j d=l.getD (i+j) d:=by
 simp[List.getD,List.getElem?_drop]
theorem FJ {α:Type} (l:List α) (i:Nat) (d:α) (h:i<l.length):l.drop i=l.getD i d::l.drop (i+1):=by
 rw[List.drop_eq_getElem_cons h,List.getD,List.getElem?_eq_getElem h];rfl
theorem CQ {α:Type} (l:List α) (i j:Nat):(l.take j).drop i=(l.drop i).take (j-i):=by
 rw[List.drop_take]
def bt (l:B8) (i:Nat):Nat:=(l.getD i 0).toNat
theorem JV (l:B8) (i:Nat):bt l i<256:=(l.getD i 0).toNat_lt
theorem CS (l:B8) (i j:Nat):bt (l.drop i) j=bt l (i+j):=by simp[bt,NR]
def dN (l:B8):Nat×Nat:=Lib.decodeN l.length (bt l 0) (bt l 1) (bt l 2) (bt l 3)
def ul (l:B8):Nat:=if l=[]∨dN l=(65533,1)then 0 else(dN l).2
def ur (l:B8):Nat:=(dN l).1
def Au (r:Nat):Prop:=r<=1114111/\(r<55296∨57343<r)
instance (r:Nat):Decidable (Au r):=by unfold Au;infer_instance
def C7 (r:Nat):B8:=
 if r<128 then [UInt8.ofNat r]else if r<2048 then [UInt8.ofNat (192+r/64),UInt8.ofNat (128+r%64)]
 else if r<65536 then [UInt8.ofNat (224+r/4096),UInt8.ofNat (128+r/64%64),UInt8.ofNat (128+r%64)]
 else [UInt8.ofNat (240+r/262144),UInt8.ofNat (128+r/4096%64),UInt8.ofNat (128+r/64%64),UInt8.ofNat (128+r%64)]
theorem GU (n:Nat) (c:UInt8):UInt8.ofNat n=c↔n%256=c.toNat:=by
 rw[<-UInt8.toNat_inj];simp
theorem KM (l:B8) (h:1<=l.length):l.take 1=[l.getD 0 0]:=by
 rw[BY l 0 0 (by omega)];rfl
theorem KL (l:B8) (h:2<=l.length):l.take 2=[l.getD 0 0,l.getD 1 0]:=by
 rw[BY l 1 0 (by omega),KM l (by omega)];rfl
theorem Io (l:B8) (h:3<=l.length):l.take 3=[l.getD 0 0,l.getD 1 0,l.getD 2 0]:=by
 rw[BY l 2 0 (by omega),KL l (by omega)];rfl
theorem Nv (l:B8) (h:4<=l.length):l.take 4=[l.getD 0 0,l.getD 1 0,l.getD 2 0,l.getD 3 0]:=by
 rw[BY l 3 0 (by omega),Io l (by omega)];rfl
def rsz (b0:Nat):Nat:=if 240<=b0 then 4 else if 224<=b0 then 3 else if 192<=b0 then 2 else 1
def rb0 (b0:Nat):Nat:=if 240<=b0 then b0%8 else if 224<=b0 then b0%16 else if 192<=b0 then b0%32 else b0
def GS (l:B8) (r0:Nat):Nat->Nat
 | 0=>r0
 | j+1=>GS l r0 j*64+bt l (j+1)%64
theorem MV (l:B8) (r0:Nat) (h:r0<256):∀j,GS l r0 j<256*64^j
 | 0=>by simpa [GS]using h
 | j+1=>by
  have:=MV l r0 h j
  have h2:=Nat.mod_lt (bt l (j+1)) (show 0<64 by omega)
  simp only[GS,Nat.pow_succ]
  omega
theorem rb0_lt (b0:Nat) (h:b0<256):rb0 b0<256:=by
 unfold rb0
 repeat' split
 all_goals omega
theorem Os (b0:Nat):1<=rsz b0/\rsz b0<=4:=by
 unfold rsz
 repeat' split
 all_goals omega
def refU (l:B8):Nat×Nat:=
 let size:=rsz (bt l 0)
 let r:=GS l (rb0 (bt l 0)) (size-1)
 if l.length<size then(0,0)else if Au r/\C7 r=l.take size then(r,size)else(0,0)
theorem G5 {a b:UInt8} {x y:B8}:(a::x=b::y)↔a=b/\x=y:=by simp
set_option maxHeartbeats 4000000 in
theorem MU (l:B8) (h:l≠ []):refU l=if ul l=0 then(0,0)else(ur l,ul l):=by
 have hl:1<=l.length:=by cases l with | nil=>exact absurd rfl h | cons a r=>simp
 have h0:=JV l 0
 have h1:=JV l 1
 have h2:=JV l 2
 have h3:=JV l 3
 have e0:(l.getD 0 0).toNat=bt l 0:=rfl
 have e1:(l.getD 1 0).toNat=bt l 1:=rfl
 have e2:(l.getD 2 0).toNat=bt l 2:=rfl
 have e3:(l.getD 3 0).toNat=bt l 3:=rfl
 have hul:ul l=if dN l=(65533,1)then 0 else(dN l).2:=by simp[ul,h]
 rw[hul,ur]
 unfold dN
 generalize hb0:bt l 0=b0 at*
 generalize hb1:bt l 1=b1 at*
 generalize hb2:bt l 2=b2 at*
 generalize hb3:bt l 3=b3 at*
 unfold refU
 simp only[hb0]
 by_cases c4:240<=b0
 ·have r4:rsz b0=4:=by unfold rsz;rw[if_pos c4]
  have rb:rb0 b0=b0%8:=by unfold rb0;rw[if_pos c4]
  rw[r4,rb]
  simp only[Nat.reduceSub,GS,hb1,hb2,hb3,Nat.zero_add,Nat.reduceAdd]
  by_cases hn:l.length<4
  ·rw[if_pos hn]
   have:Lib.decodeN l.length b0 b1 b2 b3=(65533,1):=by
    unfold Lib.decodeN
    rw[if_neg (by omega),if_neg (by omega),if_neg (by omega),if_neg (by omega)]
   rw[this];simp
  ·rw[if_neg hn]
   have hEnc:(Au (((b0%8*64+b1%64)*64+b2%64)*64+b3%64)/\C7 (((b0%8*64+b1%64)*64+b2%64)*64+b3%64)=l.take 4)↔(b0/8=30/\b1/64=2/\b2/64=2/\b3/64=2/\65536<=((b0%8*64+b1%64)*64+b2%64)*64+b3%64/\((b0%8*64+b1%64)*64+b2%64)*64+b3%64<=1114111):=by
    rw[Nv l (by omega)]
    generalize hr:((b0%8*64+b1%64)*64+b2%64)*64+b3%64=r
    unfold Au C7
    by_cases k1:r<128
    ·rw[if_pos k1];simp;omega
    ·rw[if_neg k1]
     by_cases k2:r<2048
     ·rw[if_pos k2];simp;omega
     ·rw[if_neg k2]
      by_cases k3:r<65536
      ·rw[if_pos k3];simp;omega
      ·rw[if_neg k3]
       simp only[G5,GU,e0,e1,e2,e3,and_true]
       omega
   by_cases hE:b0/8=30/\b1/64=2/\b2/64=2/\b3/64=2/\65536<=((b0%8*64+b1%64)*64+b2%64)*64+b3%64/\((b0%8*64+b1%64)*64+b2%64)*64+b3%64<=1114111
   ·rw[if_pos (hEnc.2 hE)]
    have:Lib.decodeN l.length b0 b1 b2 b3=(((b0%8*64+b1%64)*64+b2%64)*64+b3%64,4):=by
     unfold Lib.decodeN
     rw[if_neg (by omega),if_neg (by omega),if_neg (by omega),if_pos (by omega),if_pos (by omega)]
     simp only[Prod.mk.injEq,and_true];omega
    rw[this];simp
   ·rw[if_neg (fun hh=>hE (hEnc.1 hh))]
    have:Lib.decodeN l.length b0 b1 b2 b3=(65533,1):=by
     unfold Lib.decodeN
     rw[if_neg (by omega),if_neg (by omega),if_neg (by omega)]
     split
     ·rw[if_neg (by omega)]
     ·rfl
    rw[this];simp
 ·by_cases c3:224<=b0
  ·have r4:rsz b0=3:=by unfold rsz;rw[if_neg c4,if_pos c3]
   have rb:rb0 b0=b0%16:=by unfold rb0;rw[if_neg c4,if_pos c3]
   rw[r4,rb]
   simp only[Nat.reduceSub,GS,hb1,hb2,Nat.zero_add,Nat.reduceAdd]
   by_cases hn:l.length<3
   ·rw[if_pos hn]
    have:Lib.decodeN l.length b0 b1 b2 b3=(65533,1):=by
     unfold Lib.decodeN
     rw[if_neg (by omega),if_neg (by omega),if_neg (by omega),if_neg (by omega)]
    rw[this];simp
   ·rw[if_neg hn]
    have hEnc:(Au ((b0%16*64+b1%64)*64+b2%64)/\C7 ((b0%16*64+b1%64)*64+b2%64)=l.take 3)↔(b1/64=2/\b2/64=2/\2048<=(b0%16*64+b1%64)*64+b2%64/\Au ((b0%16*64+b1%64)*64+b2%64)):=by
     rw[Io l (by omega)]
     generalize hr:(b0%16*64+b1%64)*64+b2%64=r
     unfold Au C7
     by_cases k1:r<128
     ·rw[if_pos k1];simp;omega
     ·rw[if_neg k1]
      by_cases k2:r<2048
      ·rw[if_pos k2];simp;omega
      ·rw[if_neg k2]
       by_cases k3:r<65536
       ·rw[if_pos k3]
        simp only[G5,GU,e0,e1,e2,and_true]
        omega
       ·omega
    by_cases hE:b1/64=2/\b2/64=2/\2048<=(b0%16*64+b1%64)*64+b2%64/\Au ((b0%16*64+b1%64)*64+b2%64)
    ·rw[if_pos (hEnc.2 hE)]
     have:Lib.decodeN l.length b0 b1 b2 b3=((b0%16*64+b1%64)*64+b2%64,3):=by
      unfold Au at hE
      unfold Lib.decodeN
      rw[if_neg (by omega),if_neg (by omega),if_pos (by omega),if_pos (by omega)]
      simp only[Prod.mk.injEq,and_true];omega
     rw[this];simp
    ·rw[if_neg (fun hh=>hE (hEnc.1 hh))]
     have:Lib.decodeN l.length b0 b1 b2 b3=(65533,1):=by
      unfold Au at hE
      unfold Lib.decodeN
      rw[if_neg (by omega),if_neg (by omega)]
      split
      ·rw[if_neg (by omega)]
      ·rw[if_neg (by omega)]
     rw[this];simp
  ·by_cases c2:192<=b0
   ·have r4:rsz b0=2:=by unfold rsz;rw[if_neg c4,if_neg c3,if_pos c2]
    have rb:rb0 b0=b0%32:=by unfold rb0;rw[if_neg c4,if_neg c3,if_pos c2]
    rw[r4,rb]
    simp only[Nat.reduceSub,GS,hb1,Nat.zero_add,Nat.reduceAdd]
    by_cases hn:l.length<2
    ·rw[if_pos hn]
     have:Lib.decodeN l.length b0 b1 b2 b3=(65533,1):=by
      unfold Lib.decodeN
      rw[if_neg (by omega),if_neg (by omega),if_neg (by omega),if_neg (by omega)]
     rw[this];simp
    ·rw[if_neg hn]
     have hEnc:(Au (b0%32*64+b1%64)/\C7 (b0%32*64+b1%64)=l.take 2)↔(b1/64=2/\128<=b0%32*64+b1%64):=by
      rw[KL l (by omega)]
      generalize hr:b0%32*64+b1%64=r
      unfold Au C7
      by_cases k1:r<128
      ·rw[if_pos k1];simp;omega
      ·rw[if_neg k1,if_pos (by omega)]
       simp only[G5,GU,e0,e1,and_true]
       omega
     by_cases hE:b1/64=2/\128<=b0%32*64+b1%64
     ·rw[if_pos (hEnc.2 hE)]
      have:Lib.decodeN l.length b0 b1 b2 b3=(b0%32*64+b1%64,2):=by
       unfold Lib.decodeN
       rw[if_neg (by omega),if_pos (by omega),if_pos (by omega)]
      rw[this];simp
     ·rw[if_neg (fun hh=>hE (hEnc.1 hh))]
      have:Lib.decodeN l.length b0 b1 b2 b3=(65533,1):=by
       unfold Lib.decodeN
       rw[if_neg (by omega)]
       split
       ·rw[if_neg (by omega)]
       ·rw[if_neg (by omega),if_neg (by omega)]
      rw[this];simp
   ·have r4:rsz b0=1:=by unfold rsz;rw[if_neg c4,if_neg c3,if_neg c2]
    have rb:rb0 b0=b0:=by unfold rb0;rw[if_neg c4,if_neg c3,if_neg c2]
    rw[r4,rb]
    simp only[Nat.reduceSub,GS]
    rw[if_neg (by omega),KM l hl]
    have hEnc:(Au b0/\C7 b0=[l.getD 0 0])↔b0<128:=by
     unfold Au C7
     by_cases k1:b0<128
     ·rw[if_pos k1];simp only[G5,GU,e0,and_true];omega
     ·rw[if_neg k1,if_pos (by omega)];simp;omega
    by_cases hE:b0<128
    ·rw[if_pos (hEnc.2 hE)]
     have:Lib.decodeN l.length b0 b1 b2 b3=(b0,1):=by unfold Lib.decodeN;rw[if_pos hE]
     rw[this,if_neg (by simp;omega)]
     simp only[Prod.mk.injEq]
     rw[if_neg (by omega)]
     simp
    ·rw[if_neg (fun hh=>hE (hEnc.1 hh))]
     have:Lib.decodeN l.length b0 b1 b2 b3=(65533,1):=by
      unfold Lib.decodeN
      rw[if_neg (by omega),if_neg (by omega),if_neg (by omega),if_neg (by omega)]
     rw[this];simp
theorem MI (l:B8) (h:ul l≠0):Au (ur l)/\C7 (ur l)=l.take (ul l)/\ul l<=l.length/\ul l<=4:=by
 have hne:l≠ []:=fun h0=>h (by simp[ul,h0])
 have e:=MU l hne
 rw[if_neg h]at e
 unfold refU at e
 simp only at e
 split at e
 ·simp only[Prod.mk.injEq]at e;omega
 ·split at e
  ·rename_i hn hc
   simp only[Prod.mk.injEq]at e
   rw[<-e.1,<-e.2]
   exact⟨hc.1,hc.2,by omega,(Os _).2⟩
  ·simp only[Prod.mk.injEq]at e;omega
theorem KH (l:B8):ul l<=l.length:=by
 by_cases h:ul l=0
 ·omega
 ·exact(MI l h).2.2.1
theorem Od (l:B8) (h:l≠ []) (hb:bt l 0<128):ul l=1/\ur l=bt l 0:=by
 have:dN l=(bt l 0,1):=by unfold dN Lib.decodeN;rw[if_pos hb]
 unfold ul ur
 rw[this,if_neg (by simp[h];omega)]
 exact⟨rfl,rfl⟩
theorem J1 (l:B8) (h:l≠ []):ul l=0↔dN l=(65533,1):=by
 have hul:ul l=if dN l=(65533,1)then 0 else(dN l).2:=by simp[ul,h]
 rw[hul]
 constructor
 ·intro h0
  by_cases hd:dN l=(65533,1)
  ·exact hd
  ·rw[if_neg hd]at h0
   exfalso
   unfold dN Lib.decodeN at h0
   repeat' split at h0
   all_goals simp at h0
 ·intro h0;rw[if_pos h0]
theorem Pg (l:B8) (h:ul l≠0):dN l=(ur l,ul l):=by
 have hne:l≠ []:=fun h0=>h (by simp[ul,h0])
 have hul:ul l=if dN l=(65533,1)then 0 else(dN l).2:=by simp[ul,hne]
 have hd:dN l≠(65533,1):=fun hd=>h ((J1 l hne).2 hd)
 rw[if_neg hd]at hul
 rw[hul];rfl
theorem ul_not (l:B8) (h:ul l≠0):¬(ur l=65533/\ul l=1):=by
 intro hh
 have hne:l≠ []:=fun h0=>h (by simp[ul,h0])
 have:=Pg l h
 rw[hh.1,hh.2]at this
 exact h ((J1 l hne).2 this)
def Cn (l:B8):Nat:=if h:ul l=0 then 0 else ul l+Cn (l.drop (ul l))
termination_by l.length
decreasing_by
 have:=KH l
 simp only[List.length_drop];omega
theorem Ee (l:B8) (h:ul l=0):Cn l=0:=by rw[Cn,dif_pos h]
theorem Hb (l:B8) (h:ul l≠0):Cn l=ul l+Cn (l.drop (ul l)):=by rw[Cn,dif_neg h]
theorem MH:∀(n:Nat) (l:B8),l.length<=n->Cn l<=l.length
 | 0,l,h=>by
  have:l=[]:=List.eq_nil_of_length_eq_zero (by omega)
  subst this
  rw[Ee _ (by simp[ul])];simp
 | n+1,l,h=>by
  by_cases h0:ul l=0
  ·rw[Ee l h0];omega
  ·have h1:=KH l
   have h2:=MH n (l.drop (ul l)) (by simp only[List.length_drop];omega)
   rw[Hb l h0]
   simp only[List.length_drop]at h2;omega
end Go.TVF
end
namespace Go.TVF
open Go.IntKind(i64 u8)
open Go Go.Proofs
section
def Fu (n:Nat):B8:=if h:n=0 then []else Fu (n/10)++[(48+n%10).toUInt8]
termination_by n
decreasing_by omega
theorem FH:Fu 0=[]:=by unfold Fu;rw[dif_pos rfl]
theorem Hz {n:Nat} (h:0<n):Fu n=Fu (n/10)++[(48+n%10).toUInt8]:=by
 rw[Fu.eq_def,dif_neg (by omega)]
theorem Ft:∀(k n:Nat),n<10^k->(Fu n).length<=k
 | 0,n,h=>by rw[show n=0 by simpa using h,FH];simp
 | k+1,n,h=>by
  by_cases h0:n=0
  ·rw[h0,FH];simp
  ·rw[Hz (by omega),List.length_append]
   have:=Ft k (n/10) (by rw[Nat.div_lt_iff_lt_mul (by omega)];rw[Nat.pow_succ]at h;exact h)
   simp only[List.length_cons,List.length_nil];omega
def whN (n:Nat):B8:=if n=0 then [48]else Fu n
def expT (p:Int):B8:=101::(if p<1 then 45::whN (1-p).toNat else whN (p-1).toNat)
def dcT (neg:Bool) (dg:B8) (ex:Int):B8:=
 if dg=[]then [48]else(if neg then [45]else [])++
  (if 0<=ex/\dg.length+ex<=21 then dg++List.replicate ex.toNat 48
  else if ex<0/\1<=dg.length+ex/\dg.length+ex<=21 then dg.take (dg.length+ex).toNat++46::dg.drop (dg.length+ex).toNat
  else if-5<=dg.length+ex/\dg.length+ex<=0 then 48::46::(List.replicate (-(dg.length+ex)).toNat 48++dg)
  else dg.take 1++((if 1<dg.length then 46::dg.drop 1 else [])++expT (dg.length+ex)))
def AA:Nat->Nat->B8
 | 0,_=>[]
 | w+1,n=>AA w (n/10)++[(48+n%10).toUInt8]
theorem At:∀w n,(AA w n).length=w
 | 0,_=>rfl
 | w+1,n=>by simp[AA,At w]
def El (c:UInt8):Prop:=48<=c.toNat/\c.toNat<=57
instance (c:UInt8):Decidable (El c):=inferInstanceAs (Decidable (_/\_))
def Ep (l:B8):Nat:=(l.reverse.takeWhile (·==48)).length
def Cz (neg:Bool) (dg:B8) (ex:Int):Prop:=
 (dg=[]->neg=false/\ex=0)/\(dg≠ []->dg.length<=120/\(∀c,c∈dg->El c)/\dg.getD 0 0≠48/\Ep dg=0/\ -400<=ex/\ex<=400)
instance (neg:Bool) (dg:B8) (ex:Int):Decidable (Cz neg dg ex):=inferInstanceAs (Decidable ((_->_)/\(_->_)))
def Bx (k d n z:Int):Prop:=
 1<=k/\k<=4/\0<=d/\d<=3652058/\0<=n/\n<=86399999999999/\ -1439<=z/\z<=1439/\(k=2->d=0)/\(k=1->n=0)/\(k≠4->z=0)
instance (k d n z:Int):Decidable (Bx k d n z):=inferInstanceAs (Decidable (_/\_/\_/\_/\_/\_/\_/\_/\(_->_)/\(_->_)/\(_->_)))
theorem Nf (k:Nat) (h:k<10):(48+k).toUInt8.toNat=48+k:=by simp;omega
def E6 (l:B8):B8:=(l.reverse.dropWhile (·==48)).reverse
theorem HF (l:B8) (c:UInt8):E6 (l++[c])=if c=48 then E6 l else l++[c]:=by
 unfold E6
 rw[List.reverse_append,List.reverse_singleton,List.singleton_append,List.dropWhile_cons]
 by_cases h:c=48
 ·rw[if_pos h,if_pos (by simp[h])]
 ·rw[if_neg h,if_neg (by simp[h])];simp
theorem Pi (l:B8):(E6 l).length<=l.length:=by
 unfold E6
 rw[List.length_reverse]
 have:=(List.dropWhile_sublist (l:=l.reverse) (fun x:UInt8=>x==48)).length_le
 rw[List.length_reverse]at this;exact this
def HG (n:Nat):B8:=AA 2 (n/1000000000/3600)++58::(AA 2 (n/1000000000/60%60)++58::(AA 2 (n/1000000000%60)++(if n%1000000000=0 then []else 46::E6 (AA 9 (n%1000000000)))))
def Ka (z:Int):B8:=if z=0 then [90]else(if z<0 then 45 else 43)::(AA 2 (z.natAbs/60)++58::AA 2 (z.natAbs%60))
def HT (y:Nat):Prop:=y%4=0/\(y%100≠0∨y%400=0)
instance (y:Nat):Decidable (HT y):=inferInstanceAs (Decidable (_/\_))
def FT (y m:Nat):Nat:=if m=2 then(if HT y then 29 else 28)else if m=4∨m=6∨m=9∨m=11 then 30 else 31
def DQ (y:Nat):Nat->Nat
 | 0=>0
 | 1=>0
 | m+2=>DQ y (m+1)+FT y (m+1)
def yrS (y:Nat):Nat:=365*(y-1)+(y-1)/4-(y-1)/100+(y-1)/400
def Eb (n y m d:Nat):Prop:=1<=y/\y<=9999/\1<=m/\m<=12/\1<=d/\d<=FT y m/\n=yrS y+DQ y m+(d-1)
theorem Kz {a b:Nat} (h1:1<=a) (h:a<=b):yrS a<=yrS b:=by
 rcases Nat.eq_or_lt_of_le h with rfl | h
 ·exact Nat.le_refl _
 ·unfold yrS;omega
theorem monS_12 (y:Nat):DQ y 12+FT y 12=if HT y then 366 else 365:=by
 simp only[DQ,FT]
 by_cases h:HT y<;>simp[h]
theorem Mj (k q:Nat) (h:0<q):(k+1)/q=k/q+(if (k+1)%q=0 then 1 else 0):=by
 rw[Nat.succ_div]
 congr 1
 simp only[Nat.dvd_iff_mod_eq_zero]
theorem Gw {y:Nat} (h:1<=y):yrS (y+1)=yrS y+(DQ y 12+FT y 12):=by
 rw[monS_12]
 obtain⟨k,rfl⟩:∃k,y=k+1:=⟨y-1,by omega⟩
 unfold yrS
 simp only[Nat.add_sub_cancel]
 rw[Mj k 4 (by omega),Mj k 100 (by omega),Mj k 400 (by omega)]
 have m1:(k+1)%400=0->(k+1)%100=0:=fun h=>by omega
 have m2:(k+1)%100=0->(k+1)%4=0:=fun h=>by omega
 have m3:k/100<=k/4:=by omega
 by_cases a4:(k+1)%4=0
 ·rw[if_pos a4]
  by_cases a100:(k+1)%100=0
  ·rw[if_pos a100]
   by_cases a400:(k+1)%400=0
   ·rw[if_pos a400,if_pos ⟨a4,.inr a400⟩];omega
   ·rw[if_neg a400,if_neg (fun h=>h.2.elim (fun h=>h a100) a400)];omega
  ·rw[if_neg a100,if_neg (fun h=>a100 (m1 h)),if_pos ⟨a4,.inl a100⟩];omega
 ·rw[if_neg a4,if_neg (fun h=>a4 (m2 h)),if_neg (fun h=>a4 (m2 (m1 h))),if_neg (fun h=>a4 h.1)];omega
theorem HA (y:Nat):∀{a b:Nat},a<=b->DQ y a<=DQ y b:=by
 intro a b h
 induction b with
 | zero=>rw[show a=0 by omega];exact Nat.le_refl _
 | succ b ih=>
  by_cases hab:a=b+1
  ·rw[hab];exact Nat.le_refl _
  ·refine Nat.le_trans (ih (by omega)) ?_
   cases b with
   | zero=>exact Nat.le_refl _
   | succ b=>simp only[DQ];omega
theorem CK (y:Nat) {m:Nat} (h:1<=m):DQ y (m+1)=DQ y m+FT y m:=by
 cases m with
 | zero=>omega
 | succ m=>rfl
theorem Eb.uniq {n y m d y' m' d':Nat} (h:Eb n y m d) (h':Eb n y' m' d'):y=y'/\m=m'/\d=d':=by
 obtain⟨a1,a2,a3,a4,a5,a6,a7⟩:=h
 obtain⟨b1,b2,b3,b4,b5,b6,b7⟩:=h'
 have within:∀{y m d:Nat},1<=y->1<=m->m<=12->1<=d->d<=FT y m->DQ y m+(d-1)<DQ y 12+FT y 12:=by
  intro y m d h1 h2 h3 h4 h5
  by_cases hm:m=12
  ·subst hm;omega
  ·have:=HA y (a:=m+1) (b:=12) (by omega)
   rw[CK y h2]at this;omega
 have w1:=within a1 a3 a4 a5 a6
 have w2:=within b1 b3 b4 b5 b6
 have hy:y=y':=by
  rcases Nat.lt_trichotomy y y' with h | h | h
  ·have:=Kz (a:=y+1) (b:=y') (by omega) (by omega)
   rw[Gw a1]at this;omega
  ·exact h
  ·have:=Kz (a:=y'+1) (b:=y) (by omega) (by omega)
   rw[Gw b1]at this;omega
 subst hy
 have hm:m=m':=by
  rcases Nat.lt_trichotomy m m' with h | h | h
  ·have:=HA y (a:=m+1) (b:=m') (by omega)
   rw[CK y a3]at this;omega
  ·exact h
  ·have:=HA y (a:=m'+1) (b:=m) (by omega)
   rw[CK y b3]at this;omega
 subst hm
 exact⟨rfl,rfl,by omega⟩
open Classical in
noncomputable def Ja (n:Nat):Nat×Nat×Nat:=if h:∃p:Nat×Nat×Nat,Eb n p.1 p.2.1 p.2.2 then h.choose else(0,0,0)
theorem N0 {n y m d:Nat} (h:Eb n y m d):Ja n=(y,m,d):=by
 have hex:∃p:Nat×Nat×Nat,Eb n p.1 p.2.1 p.2.2:=⟨(y,m,d),h⟩
 unfold Ja
 rw[dif_pos hex]
 obtain⟨h1,h2,h3⟩:=hex.choose_spec.uniq h
 exact Prod.ext h1 (Prod.ext h2 h3)
noncomputable def G4 (n:Nat):B8:=AA 4 (Ja n).1++45::(AA 2 (Ja n).2.1++45::AA 2 (Ja n).2.2)
noncomputable def In (k td tn tz:Int):B8:=
 if k=1 then G4 td.toNat else if k=2 then HG tn.toNat else if k=3 then G4 td.toNat++84::HG tn.toNat else G4 td.toNat++84::(HG tn.toNat++Ka tz)
end
end Go.TVF
