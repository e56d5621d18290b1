/- What the laws below rest on: a framework for Go programs, and contracts of the functions that they reach. -/
import Derived.Test.YtpfhcnpnngjpnaaGreatDoorHaB
import Derived.Deep.Slices
import Derived.WideShapes
import Derived.ChangeArms
import Derived.OpenShut
import Derived.Test.YtpfhcnpnngjpnaaGreatDoorProg
import Derived.KernelRfl
set_option maxRecDepth 20000
set_option linter.unusedVariables false
set_option linter.unusedSimpArgs false
section
namespace Go.TVF
open Go.IntKind(i64 u8)
open Go.RowKit (Below)
theorem QZ {P:Program} {Q:Exit->Act->World->Prop} {a:Act} {w:World} {c:Code} (I:Nat->Act->World->Prop) (h₀:∃m,I m a w)
  (round:∀m a w,I m a w->c.wp P (Exit.then (fun a' w'=>∃m',m'<m/\I m' a' w') Q) a w):(Code.loop c).wp P Q a w:=by
 intro b k cs
 have key:∀m a w,I m a w->∃e a' w',Q e a' w'/\Arrives P (lone (b.at a (.code c:: .inLoop c::k)) cs w) b k cs e a' w':=by
  intro m
  induction m using Nat.strongRecOn with
  | _ m ih=>
   intro a w hI
   obtain⟨e,a₁,w₁,hq,harr⟩:=round m a w hI b (.inLoop c::k) cs
   cases e with
   | normal=>
    obtain⟨m',hlt,hI₁⟩:=hq
    obtain⟨e₂,a₂,w₂,hq₂,harr₂⟩:=ih m' hlt a₁ w₁ hI₁
    exact⟨e₂,a₂,w₂,hq₂,.of_steps (Steps.trans harr (.one step_inLoop)) harr₂⟩
   | exit id=>exact⟨_,a₁,w₁,hq,.pass (x:= .inLoop c) rfl (fun _ _=> .inl (by simp)) harr⟩
   | goto l=>exact⟨_,a₁,w₁,hq,.pass (x:= .inLoop c) rfl (fun _ _=> .inl (by simp)) harr⟩
   | ret=>exact⟨_,a₁,w₁,hq,.pass (x:= .inLoop c) rfl (fun _ _=> .inl (by simp)) harr⟩
   | panic ch=>exact⟨_,a₁,w₁,hq,.pass (x:= .inLoop c) rfl (fun _ _=> .inl (by simp)) harr⟩
   | outgrown=>exact⟨_,a₁,w₁,hq,.pass (x:= .inLoop c) rfl (fun _ _=> .inl (by simp)) harr⟩
 obtain⟨m,hm⟩:=h₀
 obtain⟨e,a',w',hq,harr⟩:=key m a w hm
 exact⟨e,a',w',hq,.of_steps (.one step_loop) harr⟩
theorem OB:∀{cs:List CTy} {vs:List TV} {I:Fun cs (St->Prop)} {M:Fun cs (St->Nat)} {B:List TV->Nat->St->Prop} {st:St},AllC cs I M B->JY cs vs I (fun p=>p st)->∃m,B vs m st
 | [],[],I,M,B,st,h,hd=>⟨_,h st hd⟩
 | [],_::_,I,M,B,st,h,hd=>hd.elim
 | _::_,[],I,M,B,st,h,hd=>hd.elim
 | c::cs,v::vs,I,M,B,st,h,hd=>by
  obtain⟨y,rfl,hd2⟩:=D8 hd
  exact OB (B:=fun l=>B (enc c y::l)) (h y) hd2
theorem PT:∀{cs:List CTy} {vs:List TV} {I:Fun cs (St->Prop)} {M:Fun cs (St->Nat)} {B:List TV->Nat->St->Prop} {st:St} {m:Nat},AllC cs I M B->Sq cs vs I M (fun p q=>p st/\q st<m)->∃m',m'<m/\B vs m' st
 | [],[],I,M,B,st,m,h,hd=>⟨_,hd.2,h st hd.1⟩
 | [],_::_,I,M,B,st,m,h,hd=>hd.elim
 | _::_,[],I,M,B,st,m,h,hd=>hd.elim
 | c::cs,v::vs,I,M,B,st,m,h,hd=>by
  obtain⟨y,rfl,hd2⟩:=D8 hd
  exact PT (B:=fun l=>B (enc c y::l)) (h y) hd2
theorem MF:∀{cs:List CTy} {vs:List TV} {I:Fun cs (St->Prop)} {B:List TV->St->Prop} {st:St},XL cs I B->JY cs vs I (fun p=>p st)->B vs st
 | [],[],I,B,st,h,hd=>h st hd
 | [],_::_,I,B,st,h,hd=>hd.elim
 | _::_,[],I,B,st,h,hd=>hd.elim
 | c::cs,v::vs,I,B,st,h,hd=>by
  obtain⟨y,rfl,hd2⟩:=D8 hd
  exact MF (B:=fun l=>B (enc c y::l)) (h y) hd2
def QPost (g:Ghost) (w:World) (a0:Act) (Q:Exit->Fr->St->Prop) (e:Exit) (a:Act) (w':World):Prop:=J0 g w a0 (Q e) a w'
section
variable {P:Program} {cfg:Cfg} {ns nl:Nat}
theorem V2 (hm:P.follows .mixedOrders=true):∀(c:Code) (h:Jg) (Q:Exit->Fr->St->Prop) (fr:Fr) (st:St) (g:Ghost) (w:World) (a:Act),cwp cfg P ns nl c h Q fr st->Sim g st fr.loc w->Gj g w fr a.tmps->a.tmps.size=ns->
  c.wp P (QPost g w a Q) a w:=by
 intro c
 induction c with
 | skip=>intro h Q fr st g w a hc s hf hn;exact wp_skip ⟨fr,st,g,hc,s,hf,Ext.refl _ _,rfl,rfl⟩
 | region id ops draw=>
  intro h Q fr st g w a hc s hf hn
  cases draw with
  | false=>exact wp_region_list (Mo ops.toList fr st g w a hc s hf fun a' w' hp=>hp)
  | true=>exact QB hm hc s hf fun a' w' hp=>hp
 | seq x y ihx ihy=>
  intro h Q fr st g w a hc s hf hn
  have key:∀(hx hy:Jg),cwp cfg P ns nl x hx (Rg (cwp cfg P ns nl y hy Q) Q) fr st->(Code.seq x y).wp P (QPost g w a Q) a w:=by
   intro hx hy hcx
   refine wp_seq (wp_mono (ihx hx _ fr st g w a hcx s hf hn) fun e a' w' hq=>?_)
   obtain⟨fr',st',g',h1,h2,h3,h4,h5⟩:=hq
   cases e with
   | normal=>
    refine wp_mono (ihy hy Q fr' st' g' w' a' h1 h2 h3 (h5.2.trans hn)) fun e a'' w'' hq2=>?_
    exact hq2.ext h4 h5
   | _=>exact⟨fr',st',g',h1,h2,h3,h4,h5⟩
  cases h with
  | cut k hx hy=>
   obtain⟨R,h1,h2⟩:=hc
   refine wp_seq (wp_mono (ihx hx _ fr st g w a h1 s hf hn) fun e a' w' hq=>?_)
   obtain⟨fr',st',g',q1,q2,q3,q4,q5⟩:=hq
   cases e with
   | normal=>
    have q1':need (k.ok nl fr') (JY k.tys (k.vals fr') R fun p=>p st'):=q1
    rw[As]at q1'
    obtain⟨w1,w2⟩:=E6.weak (ns:=ns) q1'.1 q2 q3 (q5.2.trans hn)
    have hb:=MF h2 q1'.2
    exact wp_mono (ihy hy Q _ st' g' w' a' hb w1 w2 (q5.2.trans hn)) fun e a'' w'' hq2=>hq2.ext q4 q5
   | _=>exact⟨fr',st',g',q1,q2,q3,q4,q5⟩
  | none=>exact key _ _ hc
  | seq p q=>exact key _ _ hc
  | cond p q=>exact key _ _ hc
  | block p=>exact key _ _ hc
  | loop k p=>exact key _ _ hc
 | cond c x y ihx ihy=>
  intro h Q fr st g w a hc s hf hn
  simp only[cwp]at hc
  split at hc
  ·rename_i b hb
   have hr:=Qc hf c
   rw[hb]at hr
   have hr':Rel g w (.bool b) (a.eval c):=hr
   have hev:a.eval c= .bool b:=by generalize a.eval c=q at hr';cases hr';rfl
   cases b with
   | true=>exact wp_cond_true hev (ihx h.l Q fr st g w a hc s hf hn)
   | false=>exact wp_cond_false hev (ihy h.r Q fr st g w a hc s hf hn)
  ·exact hc.elim
 | block id x ih=>
  intro h Q fr st g w a hc s hf hn
  refine wp_block (wp_mono (ih h.l (Ug id Q) fr st g w a hc s hf hn) fun e a' w' hq=>?_)
  obtain⟨fr',st',g',h1,h2,h3,h4,h5⟩:=hq
  cases e with
  | exit id'=>
   simp only[Ug]at h1
   by_cases hid:id'=id
   ·subst hid
    have hbe:(id'.beq id')=true:=Nat.beq_refl id'
    simp only[hbe]at h1
    simp only[Exit.inBlock,if_true]
    exact⟨fr',st',g',h1,h2,h3,h4,h5⟩
   ·have hbe:(id'.beq id)=false:=by
     cases hq:id'.beq id with
     | false=>rfl
     | true=>exact absurd (Nat.eq_of_beq_eq_true hq) hid
    simp only[hbe]at h1
    simp only[Exit.inBlock,hid,if_false]
    exact⟨fr',st',g',h1,h2,h3,h4,h5⟩
  | _=>exact⟨fr',st',g',h1,h2,h3,h4,h5⟩
 | loop x ih=>
  intro h Q fr st g w a hc s hf hn
  cases h with
  | loop k hx=>
   obtain⟨I,M,h1,h2⟩:=hc
   rw[As]at h1
   refine QZ (fun m a' w'=>∃vals st' g',cwp cfg P ns nl x hx (Rg (fun fr st=>need (k.ok nl fr) (Sq k.tys (k.vals fr) I M fun p q=>p st/\q st<m)) Q) (k.frame ns nl vals) st'/\
    Sim g' st' (k.frame ns nl vals).loc w'/\Gj g' w' (k.frame ns nl vals) a'.tmps/\Ext g w g' w'/\a'.defers=a.defers/\a'.tmps.size=a.tmps.size) ?_ ?_
   ·obtain⟨m,hm⟩:=OB h2 h1.2
    obtain⟨w1,w2⟩:=E6.weak (ns:=ns) h1.1 s hf hn
    exact⟨m,_,st,g,hm,w1,w2,Ext.refl _ _,rfl,rfl⟩
   ·rintro m a' w' ⟨vals,st',g',q1,q2,q3,q4,q5⟩
    refine wp_mono (ih hx _ _ st' g' w' a' q1 q2 q3 (q5.2.trans hn)) fun e a'' w'' hq=>?_
    obtain⟨fr2,st2,g2,r1,r2,r3,r4,r5⟩:=hq
    cases e with
    | normal=>
     have r1':need (k.ok nl fr2) (Sq k.tys (k.vals fr2) I M fun p q=>p st2/\q st2<m):=r1
     rw[As]at r1'
     obtain⟨m',hlt,hB⟩:=PT h2 r1'.2
     obtain⟨w1,w2⟩:=E6.weak (ns:=ns) r1'.1 r2 r3 (r5.2.trans (q5.2.trans hn))
     exact⟨m',hlt,_,st2,g2,hB,w1,w2,q4.trans r4,r5.1.trans q5.1,r5.2.trans q5.2⟩
    | _=>exact⟨fr2,st2,g2,r1,r2,r3,q4.trans r4,r5.1.trans q5.1,r5.2.trans q5.2⟩
  | _=>exact hc.elim
 | exit id=>intro h Q fr st g w a hc s hf hn;exact wp_exit ⟨fr,st,g,hc,s,hf,Ext.refl _ _,rfl,rfl⟩
 | ret=>intro h Q fr st g w a hc s hf hn;exact wp_ret ⟨fr,st,g,hc,s,hf,Ext.refl _ _,rfl,rfl⟩
 | _=>intro h Q fr st g w a hc s hf hn;exact hc.elim
def LJ (P:Program) (fr:Fr) (st:St):ResultVar->Option TV
 | .tmp t=>some (LD fr t)
 | .cell a t=>match Kw P t with
  | some true=>match P.cellsOf t with
   | 0=>none
   | n=>(Av st fr.loc (fr.slots.f a) 0 n).map .agg
  | some false=>Ac st fr.loc (fr.slots.f a) 0
  | none=>none
def IO (P:Program) (fr:Fr) (st:St):List ResultVar->Option (List TV)
 | []=>some []
 | r::rs=>match LJ P fr st r with
  | some v=>(IO P fr st rs).map (v::·)
  | none=>none
def SU:List TV->TV
 | [v]=>v
 | vs=> .tuple vs
def resT (P:Program) (fn:Func) (fr:Fr) (st:St):Option TV:=(IO P fr st fn.results.toList).map SU
def Qi (P:Program) (fr:Fr) (st:St) (r:ResultVar) (k:TV->Prop):Prop:=
 match r with
 | .tmp t=>k (LD fr t)
 | .cell a t=>match Kw P t with
  | some true=>match P.cellsOf t with
   | 0=>False
   | n=>Ah ((Av st fr.loc (fr.slots.f a) 0 n).map .agg) k
  | some false=>Ah (Ac st fr.loc (fr.slots.f a) 0) k
  | none=>False
def KV (P:Program) (fr:Fr) (st:St):List ResultVar->(List TV->Prop)->Prop
 | [],k=>k []
 | r::rs,k=>Qi P fr st r fun v=>KV P fr st rs fun vs=>k (v::vs)
theorem ON {P:Program} {fr:Fr} {st:St} {r:ResultVar} {k:TV->Prop} (h:Qi P fr st r k):∃v,LJ P fr st r=some v/\k v:=by
 cases r with
 | tmp t=>exact⟨_,rfl,h⟩
 | cell a t=>
  unfold Qi at h
  unfold LJ
  simp only at h⊢
  cases ha:Kw P t with
  | none=>rw[ha]at h;exact h.elim
  | some b=>
   rw[ha]at h
   cases b with
   | true=>
    simp only at h⊢
    cases hn:P.cellsOf t with
    | zero=>rw[hn]at h;exact h.elim
    | succ n=>
     rw[hn]at h
     exact DS.1 h
   | false=>exact DS.1 h
theorem JM {P:Program} {fr:Fr} {st:St}:∀{rs:List ResultVar} {k:List TV->Prop},KV P fr st rs k->∃vs,IO P fr st rs=some vs/\k vs
 | [],k,h=>⟨[],rfl,h⟩
 | r::rs,k,h=>by
  obtain⟨v,h1,h2⟩:=ON h
  obtain⟨vs,h3,h4⟩:=JM h2
  exact⟨v::vs,by simp[IO,h1,h3],h4⟩
def retQ (P:Program) (fn:Func) (R:TV->St->Prop):Exit->Fr->St->Prop
 | .normal,fr,st=>KV P fr st fn.results.toList fun vs=>R (SU vs) st
 | .ret,fr,st=>KV P fr st fn.results.toList fun vs=>R (SU vs) st
 | _,_,_=>False
def HG (cfg:Cfg) (fn:Func) (args:List TV):Fr:=⟨⟨fn.ntmps,fun i=>match args[i]? with | some v=> .t v | none=> .t .undef⟩,cfg.loc.map fun _=>none⟩
theorem Qh {g:Ghost} {st:St} {w:World} {fr:Fr} {tmps:Array Value} (s:Sim g st fr.loc w) (hf:Gj g w fr tmps) {r:ResultVar} {v:TV} (h:LJ P fr st r=some v):
  ∃u,(match r with | .tmp t=>pure (tmps.getD t Go.undef) | .cell a t=>do loadVar t (<-asAddr (tmps.getD a Go.undef)):Sem Value).run P w= .ok u w/\Rel g w v u:=by
 cases r with
 | tmp t=>
  simp only[LJ,Option.some.injEq]at h
  subst h
  exact⟨_,rfl,(hf.2 t).tv⟩
 | cell a t=>
  simp only[LJ]at h
  have hld:∀p,BD g w fr.loc p (tmps.getD a Go.undef)->(Es P st fr.loc t p).Is (.t v)->∃u,(do loadVar t (<-asAddr (tmps.getD a Go.undef)):Sem Value).run P w= .ok u w/\Rel g w v u:=by
   intro p hp hl
   have hl':=hl
   obtain⟨u,hu,hr⟩:=NP (P:=P) s hp hl'
   have hsa:(Instr.loadAt t (tmps.getD a Go.undef)).run P w=(do loadVar t (<-asAddr (tmps.getD a Go.undef)):Sem Value).run P w:=by
    generalize hq:tmps.getD a Go.undef=q at hp hu
    simp only[Instr.loadAt,Sem.run_bind]
    cases q with
    | pointer o=>cases o with
     | none=>simp[Instr.loadAt,Instr.sureAddr]at hu
     | some ad=>simp[Instr.sureAddr,asAddr]
    | _=>simp[Instr.loadAt,Instr.sureAddr]at hu
   exact⟨u,by rw[<-hsa];exact hu,hr⟩
  split at h
  ·rename_i ha
   split at h
   ·cases h
   ·rename_i n hn
    refine hld _ (hf.2 a) ?_
    unfold Es
    rw[ha]
    exact⟨v,by
     split
     ·rename_i h0;exact absurd h0 hn
     ·exact h,rfl⟩
  ·rename_i ha
   refine hld _ (hf.2 a) ?_
   unfold Es
   rw[ha]
   exact⟨v,h,rfl⟩
  ·cases h
theorem KU {g:Ghost} {st:St} {w:World} {fr:Fr} {tmps:Array Value} (s:Sim g st fr.loc w) (hf:Gj g w fr tmps):∀{rs:List ResultVar} {vs:List TV},IO P fr st rs=some vs->
  ∃us:List Value,(rs.mapM (fun r=>match r with | .tmp t=>pure (tmps.getD t Go.undef) | .cell a t=>do loadVar t (<-asAddr (tmps.getD a Go.undef))):Sem (List Value)).run P w= .ok us w/\AV g w vs us
 | [],vs,h=>by simp only[IO,Option.some.injEq]at h;subst h;exact⟨[],rfl,.nil _ _⟩
 | r::rs,vs,h=>by
  simp only[IO]at h
  split at h
  ·rename_i v hv
   obtain⟨vs',hvs',rfl⟩:=Option.map_eq_some_iff.1 h
   obtain⟨u,hu,hr⟩:=Qh s hf hv
   obtain⟨us,hus,hrs⟩:=KU s hf hvs'
   refine⟨u::us,?_,.cons hr hrs⟩
   rw[List.mapM_cons]
   simp only[Sem.run_bind,hu,Result.andThen_ok,hus,Sem.run_pure]
  ·cases h
theorem Ta {g:Ghost} {st:St} {w:World} {fr:Fr} {tmps:Array Value} (s:Sim g st fr.loc w) (hf:Gj g w fr tmps) {fn:Func} {v:TV} (h:resT P fn fr st=some v):∃u,(results fn tmps).run P w= .ok u w/\Rel g w v u:=by
 unfold resT at h
 cases hr:IO P fr st fn.results.toList with
 | none=>rw[hr]at h;cases h
 | some vs=>
  rw[hr]at h
  obtain⟨us,hus,hrel⟩:=KU s hf hr
  have hrun:(fn.results.mapM (fun r=>match r with | .tmp t=>pure (tmps.getD t Go.undef) | .cell a t=>do loadVar t (<-asAddr (tmps.getD a Go.undef))):Sem (Array Value)).run P w= .ok us.toArray w:=by
   rw[<-Array.toArray_toList (xs:=fn.results),List.mapM_toArray]
   simp only[Sem.run_map,hus,Result.andThen_ok]
  refine⟨if h:us.toArray.size=1 then us.toArray[0]else .tuple us.toArray,?_,?_⟩
  ·have hres:results fn tmps=(do
     let vs<-(fn.results.mapM (fun r=>match r with | .tmp t=>pure (tmps.getD t Go.undef) | .cell a t=>do loadVar t (<-asAddr (tmps.getD a Go.undef))):Sem (Array Value))
     pure (if h:vs.size=1 then vs[0]else .tuple vs)):=rfl
   rw[hres,Sem.run_bind,hrun]
   rfl
  ·cases vs with
   | nil=>
    simp only[Option.map_some,Option.some.injEq,SU]at h;subst h
    have:us=[]:=List.eq_nil_of_length_eq_zero hrel.1.symm
    subst this
    exact Rel.tuple [] [] rfl (fun i hi=>absurd hi (Nat.not_lt_zero _))
   | cons v1 vs1=>cases vs1 with
    | nil=>
     simp only[Option.map_some,Option.some.injEq,SU]at h;subst h
     cases us with
     | nil=>have:=hrel.1;simp at this
     | cons u1 us1=>
      have:us1=[]:=List.eq_nil_of_length_eq_zero (by have:=hrel.1;simpa using this.symm)
      subst this
      simpa using hrel.2 0 (by simp)
    | cons v2 vs2=>
     simp only[Option.map_some,Option.some.injEq,SU]at h;subst h
     have hl:us.toArray.size≠1:=by have:=hrel.1;simp at this⊢;omega
     rw[dif_neg hl]
     exact Rel.tuple _ us hrel.1 hrel.2
theorem Vh (hm:P.follows .mixedOrders=true) {f:FuncId} {fn:Func} {c:Code} (hcall:∀(vs:Array Value) (w:World),(callFunc f vs).run P w= .ok (.enter f vs) w) (hf:P.funcs[f]? =some fn) (hb:fn.body=some c)
  (cfg:Cfg) (h:Jg) {args:List TV} {st:St} {R:TV->St->Prop} (hn:args.length<=fn.ntmps)
  (hc:cwp cfg P fn.ntmps cfg.loc.length c h (retQ P fn R) (HG cfg fn args) st):Gh P f args st R:=by
 refine Fv hcall fun g w vargs s hr=>?_
 refine calls_of_wp hf hb ?_
 have hlen:vargs.length=args.length:=hr.1.symm
 have hsize:(vargs.toArray++Array.replicate (fn.ntmps-vargs.toArray.size) Go.undef).size=fn.ntmps:=by simp;omega
 have hsim:Sim g st (HG cfg fn args).loc w:=s.weakLoc fun j x' hx'=>by
  simp only[HG,List.getElem?_map]at hx'
  cases hq:cfg.loc[j]? with
  | none=>rw[hq]at hx';cases hx'
  | some q=>rw[hq]at hx';simp at hx'
 have hfr:Gj g w (HG cfg fn args) (vargs.toArray++Array.replicate (fn.ntmps-vargs.toArray.size) Go.undef):=by
  refine⟨by rw[hsize];rfl,fun i=>?_⟩
  by_cases hia:i<args.length
  ·have h1:(HG cfg fn args).slots.f i= .t args[i]:=by simp[HG,hia]
   have h2:(vargs.toArray++Array.replicate (fn.ntmps-vargs.toArray.size) Go.undef).getD i Go.undef=vargs.getD i Go.undef:=by
    have:i<vargs.length:=by omega
    have hin:i<fn.ntmps:=by omega
    simp[Array.getD,Array.getElem_append,this,hin,List.getD_eq_getElem?_getD]
    omega
   rw[h1,h2]
   exact hr.2 i hia
  ·have h1:(HG cfg fn args).slots.f i= .t .undef:=by simp[HG,hia]
   have h2:(vargs.toArray++Array.replicate (fn.ntmps-vargs.toArray.size) Go.undef).getD i Go.undef=Go.undef:=by
    have:¬i<vargs.length:=by omega
    simp[Array.getD,Array.getElem_append,this]
   rw[h1,h2]
   exact Rel.undef
 refine wp_mono (V2 hm c h _ _ st g w {tmps:=vargs.toArray++Array.replicate (fn.ntmps-vargs.toArray.size) Go.undef,defers:=[]} hc hsim hfr hsize) fun e a' w' hq=>?_
 obtain⟨fr',st',g',h1,h2,h3,h4,h5,h6⟩:=hq
 have fin:KV P fr' st' fn.results.toList (fun vs=>R (SU vs) st')->a'.defers=[]/\∃v,(results fn a'.tmps).run P w'= .ok v w'/\∃v',Ending.returned v= .returned v'/\∃r st' g',R r st'/\Sim g' st' [] w'/\Rel g' w' r v'/\Ext g w g' w':=by
  intro ho
  obtain⟨vs,hvs,hR⟩:=JM ho
  obtain⟨u,hu,hrel⟩:=Ta (fn:=fn) h2 h3 (by unfold resT;rw[hvs];rfl)
  exact⟨h5,u,hu,u,rfl,_,st',g',hR,h2.dropLoc (fun j x hx=>by simp at hx),hrel,h4⟩
 cases e with
 | normal=>exact fin h1
 | ret=>exact fin h1
 | _=>exact h1.elim
def St.zero:St:={nb:=0,box:=fun _=> .dead,nt:=0,live:=fun _=>false,ty:=fun _=>none,bt:=fun _=>none}
def Ghost.start (w:World):Ghost:={base:=w.heap.size,w0:=w,nb:=0,bk:=fun _=>0,lam:=fun _=>0,nt:=0,sp:=fun _=>none,S:=fun a=>a.spot=none/\∃v,w.cell? a=some v,prot:=fun _=>False}
theorem Sim.start (w:World) (hG:∀w',Below w.heap.size w w'->GlobOK w'):Sim (Ghost.start w) St.zero [] w:=by
 have hd:∀k,¬Dom St.zero [] k:=by
  intro k d
  cases k with
  | box i=>exact absurd d (Nat.not_lt_zero _)
  | loc i=>obtain⟨x,hx⟩:=d;simp at hx
 exact⟨rfl,rfl,Below.refl _ _,Nat.le_refl _,fun k d=>absurd d (hd k),fun k k' d=>absurd d (hd k),fun k d=>absurd d (hd k),fun id h=>absurd h (Nat.not_lt_zero _),
  fun id b l h hh=>(by cases hh),fun i j b l h l' h' _ hh=>(by cases hh),fun id _=>rfl,fun a ha=>⟨ha.1,ha.2,fun k d=>absurd d (hd k),fun id l h hh=>(by cases hh)⟩,fun b hb=>hb.elim,fun id b l h hh=>(by cases hh),fun id b l h T hh=>(by cases hh),fun b T hb=>absurd hb (Nat.not_lt_zero _),hG⟩
theorem Ub {f:FuncId} {args:List TV} (hcall:∀(vs:Array Value) (w:World),(callFunc f vs).run P w= .ok (.enter f vs) w) (h:Gh P f args St.zero fun r _=>r= .bool true) (w:World) (hG:∀w',Below w.heap.size w w'->GlobOK w') (vargs:List Value) (hr:AV (Ghost.start w) w args vargs):
  Calls P f vargs.toArray w fun e w'=>e= .returned (.bool true)/\Below w.heap.size w w':=by
 have h1:=h.run (Ghost.start w) w vargs (Sim.start w hG) hr
 unfold DD at h1
 rw[hcall]at h1
 refine Calls.mono h1 ?_
 rintro e w' ⟨v,rfl,r,st',g',rfl,s',hrel,e'⟩
 have hb:=s'.below
 rw[e'.base,e'.w0]at hb
 cases hrel
 exact⟨rfl,hb⟩
end
def Uf (fn:Func):Code:=match fn.body with | some c=>c | none=> .skip
def Fw (cfg:Cfg) (P:Program) (h:Jg) (fn:Func) (args:List TV) (st:St) (R:TV->St->Prop):Prop:=
 cwp cfg P fn.ntmps cfg.loc.length (Uf fn) h (retQ P fn R) (HG cfg fn args) st
def fits (fn:Func) (args:List TV):Bool:=(fn.body.isSome).and (args.length.ble fn.ntmps)
theorem Ai {P:Program} (hm:P.follows .mixedOrders=true) {f:FuncId} {fn:Func} (hcall:∀(vs:Array Value) (w:World),(callFunc f vs).run P w= .ok (.enter f vs) w) (hf:P.funcs[f]? =some fn)
  {cfg:Cfg} {h:Jg} {args:List TV} {st:St} {R:TV->St->Prop} (hn:fits fn args=true) {V:Prop} (he:Fw cfg P h fn args st R=V) (hV:V):Gh P f args st R:=by
 simp only[fits,Bool.and_eq_true]at hn
 obtain⟨c,hc⟩:=Option.isSome_iff_exists.1 hn.1
 have hb:fn.body=some (Uf fn):=by rw[Uf,hc]
 rw[<-he]at hV
 exact Vh hm hcall hf hb cfg h (Nat.le_of_ble_eq_true hn.2) hV
def DF (cs:List CTy) (v:TV) (f:Fun cs Prop):Prop:=
 match v with
 | .agg l=>decL cs l f
 | _=>False
def stB (st:St) (p:TV) (xs:List TV) (k:St->Prop):Prop:=
 match p with
 | .box b off=>∃l,st.box b= .cells l/\off+xs.length<=l.length/\k (st.put b (.cells (setAll l off xs)))
 | _=>False
theorem Aa {p:Prop} [Decidable p] {x y:Prop} (h1:p->x) (h2:¬p->y):BIf (decide p) x y:=by
 by_cases h:p
 ·simp only[h,decide_true,BIf];exact h1 h
 ·simp only[h,decide_false,BIf];exact h2 h
theorem Ar {b:Bool} {x y:Prop} (h1:b=true->x) (h2:b=false->y):BIf b x y:=by
 cases b
 ·exact h2 rfl
 ·exact h1 rfl
end Go.TVF
end
section
namespace Go.TVF
open Go.IntKind(i64 u8)
structure AN (a b:St):Prop where
 nb:a.nb<=b.nb
 box:∀i,i<a.nb->b.box i=a.box i
 nt:a.nt<=b.nt
 live:∀i,i<a.nt->b.live i=a.live i
 ty:∀i,i<a.nt->b.ty i=a.ty i
 bt:∀i,i<a.nb->b.bt i=a.bt i
theorem AN.refl (a:St):AN a a:=⟨Nat.le_refl _,fun _ _=>rfl,Nat.le_refl _,fun _ _=>rfl,fun _ _=>rfl,fun _ _=>rfl⟩
theorem AN.trans {a b c:St} (h:AN a b) (k:AN b c):AN a c:=
 ⟨Nat.le_trans h.nb k.nb,fun i hi=>(k.box i (Nat.lt_of_lt_of_le hi h.nb)).trans (h.box i hi),Nat.le_trans h.nt k.nt,fun i hi=>(k.live i (Nat.lt_of_lt_of_le hi h.nt)).trans (h.live i hi),fun i hi=>(k.ty i (Nat.lt_of_lt_of_le hi h.nt)).trans (h.ty i hi),fun i hi=>(k.bt i (Nat.lt_of_lt_of_le hi h.nb)).trans (h.bt i hi)⟩
theorem AN.fresh {a b:St} (h:AN a b) (T:Option Nat):AN a (b.fresh T):=
 h.trans ⟨Nat.le_refl _,fun _ _=>rfl,Nat.le_succ _,fun i hi=>by simp only[St.fresh];rw[if_neg (by omega)],fun i hi=>by simp only[St.fresh];rw[if_neg (by omega)],fun _ _=>rfl⟩
theorem AN.push {a b:St} (h:AN a b) (o:Lu) (T:Option Nat):AN a (b.push o T):=
 h.trans ⟨Nat.le_succ _,fun i hi=>by simp only[St.push];rw[if_neg (by omega)],Nat.le_refl _,fun _ _=>rfl,fun _ _=>rfl,fun i hi=>by simp only[St.push];rw[if_neg (by omega)]⟩
theorem AN.retire {a b:St} (h:AN a b) {id:Nat} (hid:a.nt<=id):AN a (b.retire id):=
 ⟨h.nb,h.box,h.nt,fun i hi=>by simp only[St.retire];rw[if_neg (by omega)];exact h.live i hi,h.ty,h.bt⟩
theorem JR (l:B8):(A3 l).length=l.length:=by simp[A3]
theorem Dz:∀l:B8,DZ (A3 l)=some l
 | []=>rfl
 | c::l=>by
  have:=Dz l
  simp only[A3]at this
  simp[A3,DZ,Ow,Uk,this]
theorem OY (a b:B8):A3 a++A3 b=A3 (a++b):=by simp[A3]
def Rd (sz:Nat) (v:TV) (n:Nat) (xs:List TV):Prop:=
 (v= .nilSlice/\n=0/\xs=[])∨∃tip,v= .list sz tip n xs
def Own (b sz:Nat) (st:St) (v:TV) (n:Nat) (xs:List TV):Prop:=
 (v= .nilSlice/\n=0/\xs=[])∨∃tip,v= .list sz tip n xs/\(tip= .full∨∃id,tip= .own id/\b<=id/\id<st.nt/\st.live id=true)
theorem Own.rd {b sz:Nat} {st:St} {v:TV} {n:Nat} {xs:List TV} (h:Own b sz st v n xs):Rd sz v n xs:=by
 rcases h with h | ⟨tip,h,_⟩
 ·exact .inl h
 ·exact .inr ⟨tip,h⟩
theorem Own.ext {b sz:Nat} {st st':St} {v:TV} {n:Nat} {xs:List TV} (h:Own b sz st v n xs) (e:AN st st'):Own b sz st' v n xs:=by
 rcases h with h | ⟨tip,h,ht | ⟨id,h1,h2,h3,h4⟩⟩
 ·exact .inl h
 ·exact .inr ⟨tip,h,.inl ht⟩
 ·exact .inr ⟨tip,h,.inr ⟨id,h1,h2,Nat.lt_of_lt_of_le h3 e.nt,(e.live id h3).trans h4⟩⟩
theorem Own.nil (b sz:Nat) (st:St):Own b sz st .nilSlice 0 []:= .inl ⟨rfl,rfl,rfl⟩
theorem Own.full (b sz:Nat) (st:St) (n:Nat) (xs:List TV):Own b sz st (.list sz .full n xs) n xs:= .inr ⟨_,rfl,.inl rfl⟩
theorem Own.fresh {b sz:Nat} {st:St} {T:Option Nat} (n:Nat) (xs:List TV) (hb:b<=st.nt):Own b sz (st.fresh T) (.list sz (.own st.nt) n xs) n xs:=
 .inr ⟨_,rfl,.inr ⟨st.nt,rfl,hb,Nat.lt_succ_self _,by simp[St.fresh]⟩⟩
theorem Rd.isSl {sz:Nat} {v:TV} {n:Nat} {xs:List TV} (h:Rd sz v n xs):TVF.isSl v=true:=by
 rcases h with⟨rfl,_⟩ | ⟨tip,rfl⟩<;>rfl
theorem Rd.lenS {sz:Nat} {v:TV} {n:Nat} {xs:List TV} (h:Rd sz v n xs):TVF.lenS v=n:=by
 rcases h with⟨rfl,rfl,_⟩ | ⟨tip,rfl⟩<;>rfl
theorem Rd.lenZ {sz:Nat} {v:TV} {n:Nat} {xs:List TV} (h:Rd sz v n xs):TVF.lenZ sz v=n:=by
 rcases h with⟨rfl,rfl,_⟩ | ⟨tip,rfl⟩
 ·rfl
 ·simp[TVF.lenZ]
theorem Rd.one {sz:Nat} {v:TV} {n:Nat} {xs:List TV} (h:Rd sz v n xs):Aq v=true:=by
 rcases h with⟨rfl,rfl,_⟩ | ⟨tip,rfl⟩<;>rfl
theorem Rd.ld {sz:Nat} {v:TV} {n:Nat} {xs:List TV} (h:Rd sz v n xs) (st:St) (i j:Nat) (hi:i*sz+j<xs.length):Ac st [] (.t (ixT sz v i)) j=some xs[i*sz+j]:=by
 rcases h with⟨rfl,rfl,rfl⟩ | ⟨tip,rfl⟩
 ·simp at hi
 ·simp[Ac,ixT,hi]
theorem Rd.ldf {sz:Nat} {v:TV} {n:Nat} {xs:List TV} (h:Rd sz v n xs) (st:St) (i f:Nat) (hi:i*sz+f<xs.length):Ac st [] (.t (Af (ixT sz v i) f)) 0=some xs[i*sz+f]:=by
 rcases h with⟨rfl,rfl,rfl⟩ | ⟨tip,rfl⟩
 ·simp at hi
 ·simp[Ac,ixT,Af,hi]
theorem src_str (st:St) (l:B8):BJ st 1 (.str l)=some (l.length,A3 l):=rfl
theorem CV {T b sz bytes:Nat} {st0 st:St} {v:TV} {n k:Nat} {xs ys:List TV} {K:TV->St->Prop} (e:AN st0 st) (hb:b=st0.nt) (h:Own b sz st v n xs) (hby:(n+k)*bytes<=140737488355328) (hys:k=0->ys=[])
  (hK:∀v' st',AN st0 st'->st'.box=st.box->Own b sz st' v' (n+k) (xs++ys)->K v' st'):AG T sz bytes v k ys st K:=by
 subst hb
 rcases h with⟨rfl,rfl,rfl⟩ | ⟨tip,rfl,ht⟩
 ·simp only[AG]
  cases k with
  | zero=>rw[hys rfl]at hK;exact hK _ _ e rfl (.nil _ _ _)
  | succ m=>
   simp only[As]
   refine⟨by simpa using hby,hK _ _ (e.fresh _) rfl ?_⟩
   simp only[List.nil_append,Nat.zero_add]
   exact Own.fresh _ _ e.nt
 ·simp only[AG,Nat.beq_refl]
  refine⟨hby,?_⟩
  rcases ht with rfl | ⟨id,rfl,h1,h2,h3⟩
  ·cases k with
   | zero=>rw[hys rfl]at hK;simp only[List.append_nil]at hK;exact hK _ _ e rfl (Own.full _ _ _ _ _)
   | succ m=>exact hK _ _ (e.fresh _) rfl (Own.fresh _ _ e.nt)
  ·exact⟨h3,hK _ _ ((e.retire h1).fresh _) rfl (Own.fresh (st:=st.retire id) _ _ e.nt)⟩
theorem Ab {b:Bool} {k:Prop} (h:b=true) (hk:k):need b k:=As.2 ⟨h,hk⟩
theorem Ae {α:Type} {o:Option α} {x:α} {k:α->Prop} (h:o=some x) (hk:k x):Ah o k:=by rw[h];exact hk
theorem Al (x:Int) (h1: -9223372036854775808<=x) (h2:x<=9223372036854775807):IntKind.wrap .i64 x=x:=by
 unfold IntKind.wrap
 simp only[IntKind.signed,IntKind.bits]
 simp
 omega
theorem Nf (x:Int) (h1:0<=x) (h2:x<=255):IntKind.wrap .u8 x=x:=by
 unfold IntKind.wrap
 simp only[IntKind.signed,IntKind.bits]
 simp
 omega
end Go.TVF
end
section
namespace Go.TVF
open Go.IntKind(i64 u8)
open Go.RowKit (Below)
theorem Xy {r:TV} {st':St} (h:GS [.one .bool] r (fun (b:Bool) (_:St)=>b=true) (fun p=>p st')):r= .bool true:=by
 cases r<;>simp only[GS,Gc,Ak]at h<;>first | exact h.elim | skip
 subst h;rfl
theorem calls_law {P:Program} {f:FuncId} {args:List TV} (hcall:∀(vs:Array Value) (w:World),(callFunc f vs).run P w= .ok (.enter f vs) w) (h:Ad P f args [.one .bool] St.zero (fun r _=>r=true)) (w:World) (hG:∀w',Below w.heap.size w w'->GlobOK w') (vargs:List Value) (hr:AV (Ghost.start w) w args vargs):
  Calls P f vargs.toArray w fun e w'=>e= .returned (.bool true)/\Below w.heap.size w w':=
 Ub hcall (Gh.mono h fun r st' hd=>Xy hd) w hG vargs hr
theorem NE (g:Ghost) (w:World) (s:ByteArray):Rel g w (.str s.data.toList) (.string s):=by
 have:=Rel.str (g:=g) (w:=w) s.data.toList
 simpa using this
def flatIs:List CTy->List TV->Prop
 | [],xs=>xs=[]
 | .int k::cs,xs=>∃n ys,xs= .int k n::ys/\(Lit.int k n).wf=true/\flatIs cs ys
 | .str::cs,xs=>∃l ys,xs= .str l::ys/\l.length<=maxLen/\flatIs cs ys
 | .bool::cs,xs=>∃b ys,xs= .bool b::ys/\flatIs cs ys
 | .tv::_,_=>False
def QX (P:Program):CTy->TypeId->Prop
 | .int k,t=>P.underlying t=some (.int k)
 | .bool,t=>P.underlying t=some .bool
 | .str,t=>P.underlying t=some .string
 | .tv,_=>False
def FieldsTy (P:Program):List CTy->List Field->Nat->Prop
 | [],[],_=>True
 | c::cs,f::fs,o=>f.offset=o/\P.cellsOf f.type=1/\QX P c f.type/\FieldsTy P cs fs (o+1)
 | _,_,_=>False
section
variable {H:Type} {enc:TypeId×Value->H} {P:Program} {w:World} {base:Nat} {sp:Nat->Bool} {held:Bool}
theorem LU {c:CTy} {t:TypeId} {fuel:Nat} {cs:List Value} {x:DataW H×List MemPlace} (g:Ghost) (hc:QX P c t) (h:DataW.trod enc P w base sp held fuel t cs=some x):
  ∃v u,cs=[u]/\Rel g w v u/\flatIs [c] [v]:=by
 cases c with
 | int k=>
  obtain⟨n,rfl,_,hw⟩:=DataW.trod_int hc h
  exact⟨_,_,rfl,.int k n,n,[],rfl,hw,rfl⟩
 | bool=>
  obtain⟨b,rfl,_⟩:=DataW.trod_bool hc h
  exact⟨_,_,rfl,.bool b,b,[],rfl,rfl⟩
 | str=>
  obtain⟨s,rfl,_,hs⟩:=DataW.trod_string hc h
  exact⟨_,_,rfl,NE g w s,_,[],rfl,by rw[Array.length_toList];exact hs,rfl⟩
 | tv=>exact hc.elim
theorem flatIs.cons {c:CTy} {cs:List CTy} {v:TV} {xs:List TV} (h:flatIs [c] [v]) (k:flatIs cs xs):flatIs (c::cs) (v::xs):=by
 cases c with
 | int _=>
  obtain⟨n,ys,h1,h2,_⟩:=h
  simp only[List.cons.injEq]at h1
  exact⟨n,xs,by rw[h1.1],h2,k⟩
 | bool=>
  obtain⟨b,ys,h1,_⟩:=h
  simp only[List.cons.injEq]at h1
  exact⟨b,xs,by rw[h1.1],k⟩
 | str=>
  obtain⟨l,ys,h1,h2,_⟩:=h
  simp only[List.cons.injEq]at h1
  exact⟨l,xs,by rw[h1.1],h2,k⟩
 | tv=>exact h.elim
theorem Mp {n:Nat} {vs:List Value} (g:Ghost):∀(cs:List CTy) (fs:List Field) (o:Nat) (xs:List (DataW H×List MemPlace)),FieldsTy P cs fs o->xs.length=fs.length->vs.length=o+cs.length->
  (∀(i:Nat) (f:Field),fs[i]? =some f->DataW.trod enc P w base sp held n f.type ((vs.drop f.offset).take (P.cellsOf f.type))=xs[i]?)->∃tv,AV g w tv (vs.drop o)/\flatIs cs tv
 | [],[],o,xs,_,_,hl,_=>⟨[],by rw[List.drop_of_length_le (by simp at hl;omega)];exact .nil _ _,rfl⟩
 | c::cs,f::fs,o,[],_,hx,_,_=>by simp at hx
 | c::cs,f::fs,o,x::xs,ht,hx,hl,hd=>by
  obtain⟨h1,h2,h3,h4⟩:=ht
  have hd0:=hd 0 f rfl
  rw[h1,h2]at hd0
  obtain⟨v,u,hu,hr,hf⟩:=LU g h3 hd0
  obtain⟨tv,hr',hf'⟩:=Mp (n:=n) (vs:=vs) g cs fs (o+1) xs h4 (by simpa using hx) (by simp at hl;omega) (fun i f' hi=>by simpa using hd (i+1) f' (by simpa using hi))
  refine⟨v::tv,?_,hf.cons hf'⟩
  have hlt:o<vs.length:=by simp at hl;omega
  rw[List.drop_eq_getElem_cons hlt]
  rw[List.drop_eq_getElem_cons hlt]at hu
  simp only[List.take_succ_cons,List.take_zero,List.cons.injEq]at hu
  rw[hu.1]
  exact .cons hr hr'
 | [],f::fs,o,xs,ht,_,_,_=>ht.elim
 | c::cs,[],o,xs,ht,_,_,_=>ht.elim
theorem HR (b off i:Nat):(⟨b,off,none⟩:Addr).add i=⟨b,off+i,none⟩:=by
 unfold Addr.add;split
 ·rename_i h;subst h;rfl
 ·rfl
def Opens (enc:TypeId×Value->H) (P:Program) (w:World) (base:Nat) (sp:Nat->Bool) (held:Bool) (cs:List CTy) (e:TypeId):Prop:=
 ∀(g:Ghost) n vs x,DataW.trod enc P w base sp held n e vs=some x->∃tv,AV g w tv vs/\flatIs cs tv
theorem opens_struct {cs:List CTy} {e:TypeId} {fs:Array Field} (ht:P.underlying e=some (.struct fs)) (hf:FieldsTy P cs fs.toList 0) (hc:P.cellsOf e=cs.length):Opens enc P w base sp held cs e:=fun g n vs x hd=>by
 obtain⟨xs,m,rfl,_,hl,hx,hi⟩:=DataW.trod_struct ht hd
 have:=Mp (enc:=enc) (P:=P) (w:=w) (base:=base) (sp:=sp) (held:=held) (n:=m) (vs:=vs) g cs fs.toList 0 xs hf (by simpa using hx) (by omega) (fun i f h=>hi i f (by simpa using h))
 simpa using this
end
end Go.TVF
end
namespace Go.TVF
open Go.IntKind(i64 u8)
open Go Go.Proofs
theorem mixed:Tryz.prog.follows .mixedOrders=true:=by kernel_rfl
noncomputable def PR:Program:=Tryz.prog
abbrev V13(X:Type):=Int->Bool->Bool->B8->Int->Int->Int->Int->Int->B8->TV->TV->TV->X
abbrev sV:RTy:=.agg [.int .i64,.bool,.bool,.str,.int .i64,.int .i64,.int .i64,.int .i64,.int .i64,.str,.tv,.tv,.tv]
abbrev cV(a:Int)(b c:Bool)(d:B8)(e f g h i:Int)(j:B8)(k l m:TV):List TV:=[.int .i64 a,.bool b,.bool c,.str d,.int .i64 e,.int .i64 f,.int .i64 g,.int .i64 h,.int .i64 i,.str j,k,l,m]
abbrev BId(p:Prop)[Decidable p](a b:Prop):Prop:=BIf (decide p) a b
def Bs:Nat:=3
def Dj:Nat:=15
def Cb:Nat:=16
def Bg:Nat:=17
def CM:Nat:=18
def Cl:Nat:=19
def CJ:Nat:=20
def DL:Nat:=21
def AP:Nat:=24
def BH:Nat:=29
def Bv:Nat:=31
def BI:Nat:=36
def AE:Nat:=37
def Cj:Nat:=38
def Dv:Nat:=40
def EE:Nat:=62
def EF:Nat:=63
def Du:Nat:=64
def CK:Nat:=65
def BP:Nat:=66
def BB:Nat:=67
def JT:Nat:=68
def F8:Nat:=69
def F7:Nat:=70
def B6:Nat:=71
def B9:Nat:=72
def Dc:Nat:=73
def Bp:Nat:=74
def Bo:Nat:=75
def B0:Nat:=76
def Ay:Nat:=77
def AW:Nat:=78
def CL:Nat:=81
def B1:Nat:=82
def AQ:Nat:=83
def CX:Nat:=93
def JU:Nat:=94
def GL:Nat:=95
def CD:Nat:=96
def FC:Nat:=97
def CT:Nat:=98
def ET:Nat:=99
def Cr:Nat:=100
def Df:Nat:=101
def Dd:Nat:=102
def D5:Nat:=103
def Cv:Nat:=127
def BW:Nat:=128
def Bl:Nat:=129
def Et:Nat:=130
def A0:Nat:=131
def BQ:Nat:=132
def GN:Nat:=133
def Bx:Nat:=134
def AZ:Nat:=135
def AF:Nat:=136
def Bf:Nat:=137
def AO:Nat:=138
def Ag:Nat:=139
def Au:Nat:=140
def Ax:Nat:=142
def ED:Nat:=146
def Ba:Nat:=156
def Dt:Nat:=157
def EO:Nat:=158
def DK:Nat:=159
def CU:Nat:=160
def Db:Nat:=161
def Ff:Nat:=162
def AD:Nat:=163
def BN:Nat:=164
def De:Nat:=165
def CQ:Nat:=166
def Bm:Nat:=167
def AT:Nat:=168
def DM:Nat:=169
def At:Nat:=170
def A1:Nat:=171
def By:Nat:=172
def B2:Nat:=202
def Fc:Nat:=203
def CN:Nat:=204
def B7:Nat:=205
def Aj:Nat:=206
def Ck:Nat:=207
def A4:Nat:=208
def AM:Nat:=209
def IZ:Nat:=210
def GM:Nat:=211
def HI:Nat:=212
def Ao:Nat:=213
def Ap:Nat:=214
def AL:Nat:=215
def Da:Nat:=216
def CO:Nat:=233
def Bz:Nat:=234
def DV:Nat:=235
def Fb:Nat:=236
def Fe:Nat:=241
def Br:Nat:=242
def B5:Nat:=243
def AK:Nat:=244
def BL:Nat:=245
def Dn:Nat:=246
def Eu:Nat:=247
def Ca:Nat:=248
def Di:Nat:=249
def Dg:Nat:=250
def CP:Nat:=251
def Fa:Nat:=267
def BS:Nat:=271
def EC:Nat:=272
def Bn:Nat:=286
def EY:Nat:=289
def Az:Nat:=290
def Ce:Nat:=291
def Dm:Nat:=292
def EP:Nat:=293
def Dh:Nat:=294
def GO:Nat:=301
def BR:Nat:=302
def CR:Nat:=316
def Cf:Nat:=320
def Nu:B8:=[97,44,98,10]
def P8:B8:=[49,44]
def SZ:B8:=[120]
def str5:B8:=[97,44,34,98]
def str6:B8:=[99,34]
def str7:B8:=[97,34]
def str8:B8:=[98]
def Mk:B8:=[116,114,117,101]
def str13:B8:=[102,97,108,115,101]
def Wu:B8:=[48]
def UC:B8:=[45]
def str16:B8:=[46]
def str20:B8:=[43]
def str21:B8:=[100,100,100,100,45,100,100,45,100,100]
def UB:B8:=[58]
def str24:B8:=[90]
def str25:B8:=[84,116,32]
def str26:B8:=[100,100,58,100,100,58,100,100]
def EW:B8:=[48,48,48,48,48,48,48,48,48]
def str28:B8:=[122]
def str29:B8:=[43,100,100,58,100,100]
def str30:B8:=[45,100,100,58,100,100]
def str31:B8:=[90,122,43,45]
def str32:B8:=[57,50,50,51,51,55,50,48,51,54,56,53,52,55,55,53,56,48,55]
theorem Eo (parts:TV) (d_0:Int) (d_1:Int) (d_2:Bool) (d_3:Bool) (inx_0:Int) (inx_1:Int) (inx_2:Int) (inx_3:Int) (inx_4:Int) (inx_5:Int) (st:St) (K:Bool->St->Prop) (h:Ad PR Dj [parts] [.one .bool] st (fun (b1:Bool) b=>BIf (!b1) (Ad PR Cb [] [.one .bool] b (fun (b2:Bool) d=>K b2 d)) (Ad PR Bg [parts,(.agg [.int .u8 d_0,.int .u8 d_1,.bool d_2,.bool d_3]),(.agg [.int .i64 inx_0,.int .i64 inx_1,.int .i64 inx_2,.int .i64 inx_3,.int .i64 inx_4]),.int .i64 inx_5] [.one .tv,.one (.int .i64),.one (.int .i64)] b (fun (v1:TV) (n1 n2:Int) e=>Ad PR CM [parts,(.agg [.int .u8 d_0,.int .u8 d_1,.bool d_2,.bool d_3]),(.agg [.int .i64 inx_0,.int .i64 inx_1,.int .i64 inx_2,.int .i64 inx_3,.int .i64 inx_4]),.int .i64 inx_5] [.one .tv,.one (.int .i64),.one (.int .i64)] e (fun (v2:TV) (n3 n4:Int) c=>Ad PR Cl [v1,v2] [.one .bool] c (fun (b3:Bool) a=>BIf b3 (BId (n1=n3) (BId (n2=n4) (Ad PR Cb [] [.one .bool] a (fun (b4:Bool) f=>K b4 f)) (K false a)) (K false a)) (K false a))))))):Ad PR Bs [parts,(.agg [.int .u8 d_0,.int .u8 d_1,.bool d_2,.bool d_3]),(.agg [.int .i64 inx_0,.int .i64 inx_1,.int .i64 inx_2,.int .i64 inx_3,.int .i64 inx_4,.int .i64 inx_5])] [.one .bool] st K:=
 Ai (cfg:=⟨[4,5],[],[]⟩) (h:= .none) mixed (fun _ _=>Tryz.call3 _ _) Tryz.func3 (by kernel_rfl) (by kernel_rfl) h
theorem In (parts:TV) (st:St) (K:Bool->St->Prop) (h:∃(I1:Int->Int->TV->St->Prop) (M1:Int->Int->TV->St->Nat),(I1 0 0 parts st)/\∀d b a c,I1 d b a c->(need (isSl a) (BId (b<(lenS a:Int)) (BId (b<61) (((0<=b/\b<(lenZ 1 a:Int))/\Ah (Ac c [] (.t (ixT 1 a b.toNat)) 0) (fun (x1:TV)=>Ak .str x1 (fun (s1:B8)=>(I1 ((i64.wrap (d+(s1.length:Int)))) ((i64.wrap (b+(1:Int)))) a c/\M1 ((i64.wrap (d+(s1.length:Int)))) ((i64.wrap (b+(1:Int)))) a c<M1 d b a c))))) (need (isSl a) (BId ((lenS a:Int)<=(60:Int)) (K ((decide (d<=1500))) c) (K false c)))) (need (isSl a) (BId ((lenS a:Int)<=(60:Int)) (K ((decide (d<=1500))) c) (K false c)))))):Ad PR Dj [parts] [.one .bool] st K:=
 Ai (cfg:=⟨[],[],[]⟩) (h:=(.seq .none (.seq .none (.seq (.seq .none (.block (.loop ⟨[(3,.int .i64),(4,.int .i64),(0,.tv)],[],[],[]⟩ .none))) .none)))) mixed (fun _ _=>Tryz.call15 _ _) Tryz.func15 (by kernel_rfl) (by kernel_rfl) h
theorem Im (st:St) (K:Bool->St->Prop) (h:Ad PR EE [] [.agg [.int .u8,.int .u8,.bool,.bool]] st (fun (n1 n2:Int) (b1 b2:Bool) f=>Ad PR EF [] [.agg [.int .i64,.int .i64,.int .i64,.int .i64,.int .i64]] f (fun (n3 n4 n5 n6 n7:Int) k=>Ad PR CJ [(.agg [.int .u8 n1,.int .u8 n2,.bool b1,.bool b2]),(.agg [.int .i64 n3,.int .i64 n4,.int .i64 n5,.int .i64 n6,.int .i64 n7]),.int .i64 10] [.one .tv,.one (.int .i64)] k (fun (v1:TV) (n8:Int) b=>BId (n8≠0) (K false b) (Ad PR AP [v1,.str Nu] [.one .tv,.one (.int .i64)] b (fun (v2:TV) (n9:Int) d=>Ad PR BH [v1] [.one .tv] d (fun (v3:TV) m=>Ad PR AP [v1,.str P8] [.one .tv,.one (.int .i64)] m (fun (v4:TV) (g:Int) r=>Ad PR AP [v1,.str SZ] [.one .tv,.one (.int .i64)] r (fun (v5:TV) (n:Int) j=>Ad PR Bv [v1] [.one .tv,.one (.int .i64)] j (fun (v6:TV) (o:Int) i=>Ad PR Bg [(.list 1 .full 2 [.str str5,.str str6]),(.agg [.int .u8 n1,.int .u8 n2,.bool b1,.bool b2]),(.agg [.int .i64 n3,.int .i64 n4,.int .i64 n5,.int .i64 n6,.int .i64 n7]),.int .i64 3] [.one .tv,.one (.int .i64),.one (.int .i64)] i (fun (v7:TV) (l e:Int) c=>Ad PR Bg [(.list 1 .full 1 [.str str7]),(.agg [.int .u8 n1,.int .u8 n2,.bool b1,.bool b2]),(.agg [.int .i64 n3,.int .i64 n4,.int .i64 n5,.int .i64 n6,.int .i64 n7]),.int .i64 3] [.one .tv,.one (.int .i64),.one (.int .i64)] c (fun (v8:TV) (q p:Int) a=>BId (n9≠0) (K false a) (BId (g≠0) (K false a) (BId (n≠0) (K false a) (BId (o≠0) (K false a) (need (isSl v2) (BId ((lenS v2:Int)≠(1:Int)) (K false a) (need (isSl v4) (BId ((lenS v4:Int)≠(3:Int)) (K false a) (need (isSl v5) (BId ((lenS v5:Int)≠(0:Int)) (K false a) (need (isSl v6) (BId ((lenS v6:Int)≠(4:Int)) (K false a) (need (isSl v3) (BId ((lenS v3:Int)≠(2:Int)) (K false a) (((0<=(1:Int)/\(1:Int)<(lenZ 1 v3:Int))/\Ah (Ac a [] (.t (ixT 1 v3 (Int.toNat (1:Int)))) 0) (fun (x1:TV)=>Ak .str x1 (fun (s1:B8)=>BId (s1≠str8) (K false a) (BId (l=2) (BId (e=28) (BId (q=1) (K ((decide (p=3))) a) (K false a)) (K false a)) (K false a))))))))))))))))))))))))))))))):Ad PR Cb [] [.one .bool] st K:=
 Ai (cfg:=⟨[1,2],[],[]⟩) (h:= .none) mixed (fun _ _=>Tryz.call16 _ _) Tryz.func16 (by kernel_rfl) (by kernel_rfl) h
theorem H6 (parts:TV) (d_0:Int) (d_1:Int) (d_2:Bool) (d_3:Bool) (l_0:Int) (l_1:Int) (l_2:Int) (l_3:Int) (l_4:Int) (size:Int) (st:St) (K:TV->Int->Int->St->Prop) (h:Ad PR CJ [(.agg [.int .u8 d_0,.int .u8 d_1,.bool d_2,.bool d_3]),(.agg [.int .i64 l_0,.int .i64 l_1,.int .i64 l_2,.int .i64 l_3,.int .i64 l_4]),.int .i64 size] [.one .tv,.one (.int .i64)] st (fun (v1:TV) (n1:Int) j=>BId (n1≠0) (K .nilSlice 0 n1 j) (need (isSl parts) (∃(I1:TV->Int->TV->TV->Int->St->Prop) (M1:TV->Int->TV->TV->Int->St->Nat),(I1 .nilSlice 0 v1 parts ((lenS parts:Int)) j)/\∀c b a d f e,I1 c b a d f e->(BId (b<f) (((0<=b/\b<(lenZ 1 d:Int))/\Ah (Ac e [] (.t (ixT 1 d b.toNat)) 0) (fun (x1:TV)=>Ak .str x1 (fun (s1:B8)=>Ad PR AP [a,.str s1] [.one .tv,.one (.int .i64)] e (fun (v2:TV) (n2:Int) k=>Ah (BJ k 15 v2) (fun (q1:Nat×List TV)=>need (List.all q1.2 Aq) (AG 118 15 192 c q1.1 q1.2 k (fun (v3:TV) i=>(I1 v3 ((i64.wrap (b+(1:Int)))) a d f i/\M1 v3 ((i64.wrap (b+(1:Int)))) a d f i<M1 c b a d f e))))))))) (Ad PR Bv [a] [.one .tv,.one (.int .i64)] e (fun (v4:TV) (n3:Int) g=>BId (n3≠0) (need (isPtr a) (need (isPtr a) (Ah (Ac g [] (.t (Af a 27)) 0) (fun (x2:TV)=>Ak (.int .i64) x2 (fun (n4:Int)=>K .nilSlice n4 n3 g))))) (Ah (BJ g 15 v4) (fun (q2:Nat×List TV)=>need (List.all q2.2 Aq) (AG 118 15 192 c q2.1 q2.2 g (fun (v5:TV) l=>K v5 0 0 l))))))))))):Ad PR Bg [parts,(.agg [.int .u8 d_0,.int .u8 d_1,.bool d_2,.bool d_3]),(.agg [.int .i64 l_0,.int .i64 l_1,.int .i64 l_2,.int .i64 l_3,.int .i64 l_4]),.int .i64 size] [.one .tv,.one (.int .i64),.one (.int .i64)] st K:=
 Ai (cfg:=⟨[5,6],[],[]⟩) (h:=(.seq .none (.seq .none (.seq .none (.seq .none (.seq (.seq .none (.block (.loop ⟨[(13,.tv),(31,.int .i64),(11,.tv),(29,.tv),(30,.int .i64)],[],[],[]⟩ .none))) .none)))))) mixed (fun _ _=>Tryz.call17 _ _) Tryz.func17 (by kernel_rfl) (by kernel_rfl) h
theorem Hj (parts:TV) (d_0:Int) (d_1:Int) (d_2:Bool) (d_3:Bool) (l_0:Int) (l_1:Int) (l_2:Int) (l_3:Int) (l_4:Int) (window:Int) (st:St) (K:TV->Int->Int->St->Prop) (h:Ad PR DL [(.agg [.int .u8 d_0,.int .u8 d_1,.bool d_2,.bool d_3]),(.agg [.int .i64 l_0,.int .i64 l_1,.int .i64 l_2,.int .i64 l_3,.int .i64 l_4]),.int .i64 window] [.one (.int .i64)] st (fun (n1:Int) e=>BId (n1≠0) (K .nilSlice 0 n1 e) (Ad PR Du [parts] [.one .str] e (fun (s1:B8) j=>Ad PR CK [.str s1,(.agg [.int .i64 l_0,.int .i64 l_1,.int .i64 l_2,.int .i64 l_3,.int .i64 l_4])] [.one (.int .i64),.one (.int .i64)] j (fun (n2 n3:Int) f=>BId (n3≠0) (K .nilSlice n2 n3 f) (Ad PR Dv [.str s1,(.agg [.int .u8 d_0,.int .u8 d_1,.bool d_2,.bool d_3]),(.agg [.int .i64 l_0,.int .i64 l_1,.int .i64 l_2,.int .i64 l_3,.int .i64 l_4])] [sV,.one (.int .i64),.one (.int .i64)] f (fun (n4:Int) (b1 b2:Bool) (s2:B8) (n5 n6 n7 n8 n9:Int) (s3:B8) (v1 v2 v3:TV) (d b:Int) g=>need (List.all (cV n4 b1 b2 s2 n5 n6 n7 n8 n9 s3 v1 v2 v3) Aq) (Ad PR BP [.str s1,(.agg [.int .u8 d_0,.int .u8 d_1,.bool d_2,.bool d_3]),.int .i64 window] [.one (.int .i64)] g (fun (c:Int) a=>BId ((0:Int)<=c) (BId (b=0) (K .nilSlice c 28 a) (BId (c<=d) (K .nilSlice c 28 a) (BId (b≠0) (K .nilSlice d b a) (Ad PR BB [(.agg (cV n4 b1 b2 s2 n5 n6 n7 n8 n9 s3 v1 v2 v3))] [.one .tv] a (fun (v4:TV) k=>K v4 0 0 k))))) (BId (b≠0) (K .nilSlice d b a) (Ad PR BB [(.agg (cV n4 b1 b2 s2 n5 n6 n7 n8 n9 s3 v1 v2 v3))] [.one .tv] a (fun (v5:TV) i=>K v5 0 0 i)))))))))))):Ad PR CM [parts,(.agg [.int .u8 d_0,.int .u8 d_1,.bool d_2,.bool d_3]),(.agg [.int .i64 l_0,.int .i64 l_1,.int .i64 l_2,.int .i64 l_3,.int .i64 l_4]),.int .i64 window] [.one .tv,.one (.int .i64),.one (.int .i64)] st K:=
 Ai (cfg:=⟨[5,6,15],[],[]⟩) (h:= .none) mixed (fun _ _=>Tryz.call18 _ _) Tryz.func18 (by kernel_rfl) (by kernel_rfl) h
theorem ID (a:TV) (b:TV) (st:St) (K:Bool->St->Prop) (h:need (isSl a) (need (isSl b) (BId ((lenS a:Int)≠(lenS b:Int)) (K false st) (∃(I1:Int->TV->TV->St->Prop) (M1:Int->TV->TV->St->Nat),(I1 0 a b st)/\∀c d f e,I1 c d f e->(need (isSl d) (BId (c<(lenS d:Int)) (((0<=c/\c<(lenZ 15 d:Int))/\need (isPtr (ixT 15 d c.toNat)) (Ah (Ac e [] (.t (Af (ixT 15 d c.toNat) 0)) 0) (fun (x1:TV)=>Ak (.int .i64) x1 (fun (n1:Int)=>((0<=c/\c<(lenZ 15 f:Int))/\need (isPtr (ixT 15 f c.toNat)) (Ah (Ac e [] (.t (Af (ixT 15 f c.toNat) 0)) 0) (fun (x2:TV)=>Ak (.int .i64) x2 (fun (n2:Int)=>BId (n1≠n2) ((Ac e [] (.t (Af (ixT 15 f c.toNat) 0)) 0=some (.int .i64 n2)/\(Ac e [] (.t (Af (ixT 15 d c.toNat) 0)) 0=some (.int .i64 n1)/\K false e))) (((0<=c/\c<(lenZ 15 d:Int))/\need (isPtr (ixT 15 d c.toNat)) (Ah (Ac e [] (.t (Af (ixT 15 d c.toNat) 1)) 0) (fun (x3:TV)=>Ak .str x3 (fun (s1:B8)=>((0<=c/\c<(lenZ 15 f:Int))/\need (isPtr (ixT 15 f c.toNat)) (Ah (Ac e [] (.t (Af (ixT 15 f c.toNat) 1)) 0) (fun (x4:TV)=>Ak .str x4 (fun (s2:B8)=>BId (s1≠s2) ((Ac e [] (.t (Af (ixT 15 f c.toNat) 1)) 0=some (.str s2)/\(Ac e [] (.t (Af (ixT 15 d c.toNat) 1)) 0=some (.str s1)/\(Ac e [] (.t (Af (ixT 15 f c.toNat) 0)) 0=some (.int .i64 n2)/\(Ac e [] (.t (Af (ixT 15 d c.toNat) 0)) 0=some (.int .i64 n1)/\K false e))))) (((0<=c/\c<(lenZ 15 d:Int))/\need (isPtr (ixT 15 d c.toNat)) (Ah ((Av e [] (.t (Af (ixT 15 d c.toNat) 2)) 0 13).map TV.agg) (fun (x5:TV)=>DF [.int .i64,.bool,.bool,.str,.int .i64,.int .i64,.int .i64,.int .i64,.int .i64,.str,.tv,.tv,.tv] x5 (fun (n3:Int) (b1 b2:Bool) (s3:B8) (n4 n5 n6 n7 n8:Int) (s4:B8) (v1 v2 v3:TV)=>((0<=c/\c<(lenZ 15 f:Int))/\need (isPtr (ixT 15 f c.toNat)) (Ah ((Av e [] (.t (Af (ixT 15 f c.toNat) 2)) 0 13).map TV.agg) (fun (x6:TV)=>DF [.int .i64,.bool,.bool,.str,.int .i64,.int .i64,.int .i64,.int .i64,.int .i64,.str,.tv,.tv,.tv] x6 (fun (n9:Int) (b3 b4:Bool) (s5:B8) (j l m k i:Int) (s6:B8) (v4 v5 v6:TV)=>Ad PR BI [(.agg (cV n3 b1 b2 s3 n4 n5 n6 n7 n8 s4 v1 v2 v3)),(.agg (cV n9 b3 b4 s5 j l m k i s6 v4 v5 v6))] [.one .bool] e (fun (b5:Bool) g=>(Ac g [] (.t (Af (ixT 15 f c.toNat) 1)) 0=some (.str s2)/\(Ac g [] (.t (Af (ixT 15 d c.toNat) 1)) 0=some (.str s1)/\(Ac g [] (.t (Af (ixT 15 f c.toNat) 0)) 0=some (.int .i64 n2)/\(Ac g [] (.t (Af (ixT 15 d c.toNat) 0)) 0=some (.int .i64 n1)/\BIf (!b5) (K false g) ((I1 ((i64.wrap (c+(1:Int)))) d f g/\M1 ((i64.wrap (c+(1:Int)))) d f g<M1 c d f e)))))))))))))))))))))))))))))))))) (K true e))))))):Ad PR Cl [a,b] [.one .bool] st K:=
 Ai (cfg:=⟨[],[],[21,26,33,38,46,51]⟩) (h:=(.seq .none (.seq .none (.seq (.seq .none (.block (.loop ⟨[(5,.int .i64),(0,.tv),(1,.tv)],[],[],[]⟩ .none))) .none)))) mixed (fun _ _=>Tryz.call19 _ _) Tryz.func19 (by kernel_rfl) (by kernel_rfl) h
theorem J8 (d_0:Int) (d_1:Int) (d_2:Bool) (d_3:Bool) (l_0:Int) (l_1:Int) (l_2:Int) (l_3:Int) (l_4:Int) (size:Int) (st:St) (K:TV->Int->St->Prop) (h:Ad PR JT [.int .i64 size] [.one .tv,.one (.int .i64)] st (fun (v1:TV) (n1:Int) c=>BId (n1≠0) (K .nilPtr 1 c) (Ad PR F8 [(.agg [.int .u8 d_0,.int .u8 d_1,.bool d_2,.bool d_3])] [.one .bool] c (fun (b1:Bool) b=>BIf (!b1) (K .nilPtr 1 b) (Ad PR F7 [(.agg [.int .i64 l_0,.int .i64 l_1,.int .i64 l_2,.int .i64 l_3,.int .i64 l_4])] [.one .bool] b (fun (b2:Bool) a=>BIf (!b2) (K .nilPtr 1 a) (need (List.all [v1,(.map a.nb)] Aq) (K ((.box (a.push (.map []) none).nb 0)) 0 ((a.push (.map []) none).push (.cells [v1,.int .u8 d_0,.int .u8 d_1,.bool d_2,.bool d_3,.int .i64 l_0,.int .i64 l_1,.int .i64 l_2,.int .i64 l_3,.int .i64 l_4,.int .i64 0,.bool false,.bool false,.int .i64 0,.int .i64 0,.int .i64 0,.nilSlice,(.map a.nb),.bool false,.int .i64 1,.int .i64 0,.int .i64 0,.int .i64 0,.int .i64 0,(.int .i64 (-1:Int)),(.str []),.nilSlice,.int .i64 0,.int .i64 0,.bool false]) (some 113)))))))))):Ad PR CJ [(.agg [.int .u8 d_0,.int .u8 d_1,.bool d_2,.bool d_3]),(.agg [.int .i64 l_0,.int .i64 l_1,.int .i64 l_2,.int .i64 l_3,.int .i64 l_4]),.int .i64 size] [.one .tv,.one (.int .i64)] st K:=
 Ai (cfg:=⟨[3,4],[],[]⟩) (h:= .none) mixed (fun _ _=>Tryz.call20 _ _) Tryz.func20 (by kernel_rfl) (by kernel_rfl) h
theorem Jw (d_0:Int) (d_1:Int) (d_2:Bool) (d_3:Bool) (l_0:Int) (l_1:Int) (l_2:Int) (l_3:Int) (l_4:Int) (window:Int) (st:St) (K:Int->St->Prop) (h:Ad PR B6 [(.agg [.int .u8 d_0,.int .u8 d_1,.bool d_2,.bool d_3])] [.one .bool] st (fun (b1:Bool) b=>BIf (!b1) (K 1 b) (Ad PR B9 [(.agg [.int .i64 l_0,.int .i64 l_1,.int .i64 l_2,.int .i64 l_3,.int .i64 l_4])] [.one .bool] b (fun (b2:Bool) a=>BIf (!b2) (K 1 a) (BId (window<1) (K 1 a) (BId ((65536:Int)<window) (K 1 a) (K 0 a))))))):Ad PR DL [(.agg [.int .u8 d_0,.int .u8 d_1,.bool d_2,.bool d_3]),(.agg [.int .i64 l_0,.int .i64 l_1,.int .i64 l_2,.int .i64 l_3,.int .i64 l_4]),.int .i64 window] [.one (.int .i64)] st K:=
 Ai (cfg:=⟨[3,4],[],[]⟩) (h:= .none) mixed (fun _ _=>Tryz.call21 _ _) Tryz.func21 (by kernel_rfl) (by kernel_rfl) h
theorem FV (r:Nat) (s:B8) (st:St) (K:TV->Int->St->Prop) (h:Ah (Ac st [] (.t (.box r 0)) 0) (fun (v1:TV)=>need (Qr v1) (BIf (L3 v1) (K .nilSlice 29 st) (Ah (Ac st [] (.t (.box r 29)) 0) (fun (x2:TV)=>Ak .bool x2 (fun (b1:Bool)=>BIf b1 (K .nilSlice 29 st) (Ad PR Bp [(.box r 0)] [] st (fun (f:St)=>Ad PR Bo [(.box r 0),.str s,.bool false] [] f (fun (j:St)=>∃(I1:Int->TV->B8->St->Prop) (M1:Int->TV->B8->St->Nat),(I1 0 ((.box r 0)) s j)/\∀d a b c,I1 d a b c->(BId (d<(b.length:Int)) (need (isPtr a) (need (isPtr a) (Ah (Ac c [] (.t (Af a 28)) 0) (fun (x3:TV)=>Ak (.int .i64) x3 (fun (n1:Int)=>BId (n1=0) (((0<=d/\d<(b.length:Int))/\need (isPtr a) (need (isPtr a) (Ah (Ac c [] (.t (Af a 23)) 0) (fun (x4:TV)=>Ak (.int .i64) x4 (fun (n2:Int)=>Ad PR B0 [a,(.int .u8 ((List.getD b d.toNat 0).toNat:Int)),(.int .i64 (i64.wrap (n2+d)))] [] c (fun (e:St)=>(Ac e [] (.t (Af a 23)) 0=some (.int .i64 n2)/\(I1 ((i64.wrap (d+(1:Int)))) a b e/\M1 ((i64.wrap (d+(1:Int)))) a b e<M1 d a b c))))))))) (need (isPtr a) (need (isPtr a) (Ah (Ac c [] (.t (Af a 23)) 0) (fun (x5:TV)=>Ak (.int .i64) x5 (fun (n3:Int)=>need (isPtr a) (need (isPtr a) (stB c (Af a 23) [(.int .i64 (i64.wrap (n3+(b.length:Int))))] (fun k=>Ad PR Ay [a] [.one .tv] k (fun (v2:TV) l=>K v2 0 l)))))))))))))) (need (isPtr a) (need (isPtr a) (Ah (Ac c [] (.t (Af a 23)) 0) (fun (x6:TV)=>Ak (.int .i64) x6 (fun (n4:Int)=>need (isPtr a) (need (isPtr a) (stB c (Af a 23) [(.int .i64 (i64.wrap (n4+(b.length:Int))))] (fun g=>Ad PR Ay [a] [.one .tv] g (fun (v3:TV) i=>K v3 0 i))))))))))))))))))):Ad PR AP [(.box r 0),.str s] [.one .tv,.one (.int .i64)] st K:=
 Ai (cfg:=⟨[],[],[47]⟩) (h:=(.seq .none (.seq .none (.seq .none (.seq .none (.seq (.seq .none (.block (.loop ⟨[(6,.int .i64),(0,.tv),(1,.str)],[],[],[]⟩ .none))) .none)))))) mixed (fun _ _=>Tryz.call24 _ _) Tryz.func24 (by kernel_rfl) (by kernel_rfl) h
theorem EV (r:Nat) (st:St) (K:TV->St->Prop) (h:Ah (Ac st [] (.t (.box r 18)) 0) (fun (x1:TV)=>Ak .bool x1 (fun (b1:Bool)=>BIf (!b1) (K .nilSlice st) (Ah (Ac st [] (.t (.box r 3)) 0) (fun (x2:TV)=>Ak .bool x2 (fun (b2:Bool)=>BIf (!b2) (K .nilSlice st) (Ah (Ac st [] (.t (.box r 16)) 0) (fun (v1:TV)=>Ah (BJ st 1 v1) (fun (q1:Nat×List TV)=>need (List.all q1.2 Aq) (AG 9 1 16 (.list 1 .full 0 []) q1.1 q1.2 st (fun (v2:TV) a=>K v2 a))))))))))):Ad PR BH [(.box r 0)] [.one .tv] st K:=
 Ai (cfg:=⟨[],[],[]⟩) (h:= .none) mixed (fun _ _=>Tryz.call29 _ _) Tryz.func29 (by kernel_rfl) (by kernel_rfl) h
theorem Gl (r:Nat) (st:St) (K:TV->Int->St->Prop) (h:Ah (Ac st [] (.t (.box r 0)) 0) (fun (v1:TV)=>need (Qr v1) (BIf (L3 v1) (K .nilSlice 29 st) (Ah (Ac st [] (.t (.box r 29)) 0) (fun (x2:TV)=>Ak .bool x2 (fun (b1:Bool)=>BIf b1 (K .nilSlice 29 st) (Ad PR Bp [(.box r 0)] [] st (fun (b5:St)=>Ad PR Bo [(.box r 0),(.str []),.bool true] [] b5 (fun (m:St)=>∃(C1:TV->St->Prop),(Ah (Ac m [] (.t (.box r 28)) 0) (fun (x3:TV)=>Ak (.int .i64) x3 (fun (n1:Int)=>BId (n1=0) (Ad PR B1 [(.box r 0)] [] m (fun (b7:St)=>C1 ((.box r 0)) b7)) (C1 ((.box r 0)) m))))/\∀a b,C1 a b->(need (isPtr a) (need (isPtr a) (Ah (Ac b [] (.t (Af a 23)) 0) (fun (x4:TV)=>Ak (.int .i64) x4 (fun (n2:Int)=>need (isPtr a) (need (isPtr a) (need (isPtr (Af a 5)) (Ah (Ac b [] (.t (Af (Af a 5) 2)) 0) (fun (x5:TV)=>Ak (.int .i64) x5 (fun (n3:Int)=>BId (n3<n2) (need (isPtr a) (need (isPtr a) (stB b (Af a 27) [.int .i64 0] (fun b8=>need (isPtr a) (need (isPtr a) (stB b8 (Af a 28) [.int .i64 10] (fun c0=>Ad PR Ay [a] [.one .tv] c0 (fun (v2:TV) l=>need (isPtr a) (need (isPtr a) (Ah (Ac l [] (.t (Af a 0)) 0) (fun (v3:TV)=>need (isPtr a) (need (isPtr a) (Ah (Ac l [] (.t (Af a 0)) 0) (fun (v4:TV)=>Ad PR AW [v4] [.one (.int .i64)] l (fun (n4:Int) o=>(Ac o [] (.t (Af a 0)) 0=some v3/\Ad PR AQ [v3,.int .i64 n4] [.one .str,.one (.int .i64)] o (fun (s1:B8) (n5:Int) p=>(Ac p [] (.t (Af a 0)) 0=some v4/\need (isPtr a) (need (isPtr a) (stB p (Af a 29) [.bool true] (fun a0=>need (isPtr a) (need (isPtr a) (stB a0 (Af a 18) [.bool true] (fun c=>need (isPtr a) (need (isPtr a) (Ah (Ac c [] (.t (Af a 28)) 0) (fun (x8:TV)=>Ak (.int .i64) x8 (fun (n6:Int)=>BId (n6≠0) (need (isPtr a) (need (isPtr a) (Ah (Ac c [] (.t (Af a 28)) 0) (fun (x9:TV)=>Ak (.int .i64) x9 (fun (n7:Int)=>K .nilSlice n7 c))))) (AG 118 15 192 v2 1 [.int .i64 3,(.str []),.int .i64 0,.bool false,.bool false,(.str []),.int .i64 0,.int .i64 0,.int .i64 0,.int .i64 0,.int .i64 0,(.str []),.nilSlice,.nilSlice,.nilSlice] c (fun (v5:TV) a1=>K v5 0 a1)))))))))))))))))))))))))))))) (need (isPtr a) (need (isPtr a) (Ah (Ac b [] (.t (Af a 24)) 0) (fun (a2:TV)=>Ak (.int .i64) a2 (fun (n8:Int)=>BId ((0:Int)<=n8) (need (isPtr a) (need (isPtr a) (Ah (Ac b [] (.t (Af a 24)) 0) (fun (b6:TV)=>Ak (.int .i64) b6 (fun (n9:Int)=>need (isPtr a) (need (isPtr a) (stB b (Af a 27) [.int .i64 n9] (fun y=>need (isPtr a) (need (isPtr a) (stB y (Af a 28) [.int .i64 5] (fun z=>Ad PR Ay [a] [.one .tv] z (fun (v6:TV) f=>need (isPtr a) (need (isPtr a) (Ah (Ac f [] (.t (Af a 0)) 0) (fun (v7:TV)=>need (isPtr a) (need (isPtr a) (Ah (Ac f [] (.t (Af a 0)) 0) (fun (v8:TV)=>Ad PR AW [v8] [.one (.int .i64)] f (fun (b3:Int) j=>(Ac j [] (.t (Af a 0)) 0=some v7/\Ad PR AQ [v7,.int .i64 b3] [.one .str,.one (.int .i64)] j (fun (s2:B8) (c1:Int) i=>(Ac i [] (.t (Af a 0)) 0=some v8/\need (isPtr a) (need (isPtr a) (stB i (Af a 29) [.bool true] (fun x=>need (isPtr a) (need (isPtr a) (stB x (Af a 18) [.bool true] (fun e=>need (isPtr a) (need (isPtr a) (Ah (Ac e [] (.t (Af a 28)) 0) (fun (b0:TV)=>Ak (.int .i64) b0 (fun (b9:Int)=>BId (b9≠0) (need (isPtr a) (need (isPtr a) (Ah (Ac e [] (.t (Af a 28)) 0) (fun (a3:TV)=>Ak (.int .i64) a3 (fun (a8:Int)=>K .nilSlice a8 e))))) (AG 118 15 192 v6 1 [.int .i64 3,(.str []),.int .i64 0,.bool false,.bool false,(.str []),.int .i64 0,.int .i64 0,.int .i64 0,.int .i64 0,.int .i64 0,(.str []),.nilSlice,.nilSlice,.nilSlice] e (fun (v9:TV) w=>K v9 0 w)))))))))))))))))))))))))))))))))) (Ad PR Ay [a] [.one .tv] b (fun (b2:TV) g=>need (isPtr a) (need (isPtr a) (Ah (Ac g [] (.t (Af a 0)) 0) (fun (q:TV)=>need (isPtr a) (need (isPtr a) (Ah (Ac g [] (.t (Af a 0)) 0) (fun (s:TV)=>Ad PR AW [s] [.one (.int .i64)] g (fun (a4:Int) k=>(Ac k [] (.t (Af a 0)) 0=some q/\Ad PR AQ [q,.int .i64 a4] [.one .str,.one (.int .i64)] k (fun (s3:B8) (c2:Int) n=>(Ac n [] (.t (Af a 0)) 0=some s/\need (isPtr a) (need (isPtr a) (stB n (Af a 29) [.bool true] (fun v=>need (isPtr a) (need (isPtr a) (stB v (Af a 18) [.bool true] (fun d=>need (isPtr a) (need (isPtr a) (Ah (Ac d [] (.t (Af a 28)) 0) (fun (a5:TV)=>Ak (.int .i64) a5 (fun (a7:Int)=>BId (a7≠0) (need (isPtr a) (need (isPtr a) (Ah (Ac d [] (.t (Af a 28)) 0) (fun (b4:TV)=>Ak (.int .i64) b4 (fun (a6:Int)=>K .nilSlice a6 d))))) (AG 118 15 192 b2 1 [.int .i64 3,(.str []),.int .i64 0,.bool false,.bool false,(.str []),.int .i64 0,.int .i64 0,.int .i64 0,.int .i64 0,.int .i64 0,(.str []),.nilSlice,.nilSlice,.nilSlice] d (fun (a9:TV) u=>K a9 0 u)))))))))))))))))))))))))))))))))))))))))))))))):Ad PR Bv [(.box r 0)] [.one .tv,.one (.int .i64)] st K:=
 Ai (cfg:=⟨[],[],[69,73]⟩) (h:=(.seq .none (.seq .none (.seq .none (.seq .none (.cut ⟨[(0,.tv)],[],[],[]⟩ .none .none)))))) mixed (fun _ _=>Tryz.call31 _ _) Tryz.func31 (by kernel_rfl) (by kernel_rfl) h
theorem IE (a_0:Int) (a_1:Bool) (a_2:Bool) (a_3:B8) (a_4:Int) (a_5:Int) (a_6:Int) (a_7:Int) (a_8:Int) (a_9:B8) (a_10:TV) (a_11:TV) (a_12:TV) (b_0:Int) (b_1:Bool) (b_2:Bool) (b_3:B8) (b_4:Int) (b_5:Int) (b_6:Int) (b_7:Int) (b_8:Int) (b_9:B8) (b_10:TV) (b_11:TV) (b_12:TV) (st:St) (K:Bool->St->Prop) (h:BId (a_0≠b_0) (K false st) (BIf (!(a_1==b_1)) (K false st) (BIf (!((a_2==b_2)&&(decide (a_3=b_3)&&(decide (a_4=b_4)&&true)))) (K false st) (BIf (!(decide (a_5=b_5)&&(decide (a_6=b_6)&&(decide (a_7=b_7)&&(decide (a_8=b_8)&&true))))) (K false st) (BId (a_9≠b_9) (K false st) (Ah ((toBytes st a_10).map TV.str) (fun (x1:TV)=>Ak .str x1 (fun (s1:B8)=>Ah ((toBytes st b_10).map TV.str) (fun (x2:TV)=>Ak .str x2 (fun (s2:B8)=>BId (s1≠s2) (K false st) (need (isSl a_11) (need (isSl b_11) (BId ((lenS a_11:Int)≠(lenS b_11:Int)) (K false st) (need (isSl a_12) (need (isSl b_12) (BId ((lenS a_12:Int)≠(lenS b_12:Int)) (K false st) (∃(I1:Int->V13 (V13 (St->Prop))) (M1:Int->V13 (V13 (St->Nat))),(I1 0 a_0 a_1 a_2 a_3 a_4 a_5 a_6 a_7 a_8 a_9 a_10 a_11 a_12 b_0 b_1 b_2 b_3 b_4 b_5 b_6 b_7 b_8 b_9 b_10 b_11 b_12 st)/\∀d n1 b1 b2 s3 n2 n3 n4 n5 n6 s4 v1 v2 v3 n7 b3 b4 s5 n8 n9 k g j s6 v4 v5 v6 f,I1 d n1 b1 b2 s3 n2 n3 n4 n5 n6 s4 v1 v2 v3 n7 b3 b4 s5 n8 n9 k g j s6 v4 v5 v6 f->(need (isSl v2) (BId (d<(lenS v2:Int)) (((0<=d/\d<(lenZ 13 v2:Int))/\Ah ((Av f [] (.t (ixT 13 v2 d.toNat)) 0 13).map TV.agg) (fun (x3:TV)=>DF [.int .i64,.bool,.bool,.str,.int .i64,.int .i64,.int .i64,.int .i64,.int .i64,.str,.tv,.tv,.tv] x3 (fun (f8:Int) (b5 b6:Bool) (s7:B8) (e2 g4 c4 d5 g1:Int) (s8:B8) (v7 v8 v9:TV)=>((0<=d/\d<(lenZ 13 v5:Int))/\Ah ((Av f [] (.t (ixT 13 v5 d.toNat)) 0 13).map TV.agg) (fun (x4:TV)=>DF [.int .i64,.bool,.bool,.str,.int .i64,.int .i64,.int .i64,.int .i64,.int .i64,.str,.tv,.tv,.tv] x4 (fun (e8:Int) (b7 b8:Bool) (s9:B8) (d9 f3 d7 c6 f5:Int) (e5:B8) (c9 f9 d3:TV)=>Ad PR BI [(.agg (cV f8 b5 b6 s7 e2 g4 c4 d5 g1 s8 v7 v8 v9)),(.agg (cV e8 b7 b8 s9 d9 f3 d7 c6 f5 e5 c9 f9 d3))] [.one .bool] f (fun (b9:Bool) b0=>BIf (!b9) (K false b0) ((I1 ((i64.wrap (d+(1:Int)))) n1 b1 b2 s3 n2 n3 n4 n5 n6 s4 v1 v2 v3 n7 b3 b4 s5 n8 n9 k g j s6 v4 v5 v6 b0/\M1 ((i64.wrap (d+(1:Int)))) n1 b1 b2 s3 n2 n3 n4 n5 n6 s4 v1 v2 v3 n7 b3 b4 s5 n8 n9 k g j s6 v4 v5 v6 b0<M1 d n1 b1 b2 s3 n2 n3 n4 n5 n6 s4 v1 v2 v3 n7 b3 b4 s5 n8 n9 k g j s6 v4 v5 v6 f)))))))))) (∃(I2:Int->V13 (V13 (St->Prop))) (M2:Int->V13 (V13 (St->Nat))),(I2 0 n1 b1 b2 s3 n2 n3 n4 n5 n6 s4 v1 v2 v3 n7 b3 b4 s5 n8 n9 k g j s6 v4 v5 v6 f)/\∀a a3 a5 v y a8 o m a6 a2 r u s b l q p a9 z n a7 x a1 w a4 a0 c e,I2 a a3 a5 v y a8 o m a6 a2 r u s b l q p a9 z n a7 x a1 w a4 a0 c e->(need (isSl b) (BId (a<(lenS b:Int)) (((0<=a/\a<(lenZ 14 b:Int))/\need (isPtr (ixT 14 b a.toNat)) (Ah (Ac e [] (.t (Af (ixT 14 b a.toNat) 0)) 0) (fun (x5:TV)=>Ak .str x5 (fun (c0:B8)=>((0<=a/\a<(lenZ 14 c:Int))/\need (isPtr (ixT 14 c a.toNat)) (Ah (Ac e [] (.t (Af (ixT 14 c a.toNat) 0)) 0) (fun (x6:TV)=>Ak .str x6 (fun (c1:B8)=>BId (c0≠c1) ((Ac e [] (.t (Af (ixT 14 c a.toNat) 0)) 0=some (.str c1)/\(Ac e [] (.t (Af (ixT 14 b a.toNat) 0)) 0=some (.str c0)/\K false e))) (((0<=a/\a<(lenZ 14 b:Int))/\need (isPtr (ixT 14 b a.toNat)) (Ah ((Av e [] (.t (Af (ixT 14 b a.toNat) 1)) 0 13).map TV.agg) (fun (x7:TV)=>DF [.int .i64,.bool,.bool,.str,.int .i64,.int .i64,.int .i64,.int .i64,.int .i64,.str,.tv,.tv,.tv] x7 (fun (e9:Int) (e3 g3:Bool) (f6:B8) (f4 e1 d6 d4 c8:Int) (d2:B8) (e4 f7 g0:TV)=>((0<=a/\a<(lenZ 14 c:Int))/\need (isPtr (ixT 14 c a.toNat)) (Ah ((Av e [] (.t (Af (ixT 14 c a.toNat) 1)) 0 13).map TV.agg) (fun (x8:TV)=>DF [.int .i64,.bool,.bool,.str,.int .i64,.int .i64,.int .i64,.int .i64,.int .i64,.str,.tv,.tv,.tv] x8 (fun (c7:Int) (d0 e6:Bool) (c3:B8) (f0 f1 c5 d1 f2:Int) (g2:B8) (e0 d8 c2:TV)=>Ad PR BI [(.agg (cV e9 e3 g3 f6 f4 e1 d6 d4 c8 d2 e4 f7 g0)),(.agg (cV c7 d0 e6 c3 f0 f1 c5 d1 f2 g2 e0 d8 c2))] [.one .bool] e (fun (e7:Bool) i=>(Ac i [] (.t (Af (ixT 14 c a.toNat) 0)) 0=some (.str c1)/\(Ac i [] (.t (Af (ixT 14 b a.toNat) 0)) 0=some (.str c0)/\BIf (!e7) (K false i) ((I2 ((i64.wrap (a+(1:Int)))) a3 a5 v y a8 o m a6 a2 r u s b l q p a9 z n a7 x a1 w a4 a0 c i/\M2 ((i64.wrap (a+(1:Int)))) a3 a5 v y a8 o m a6 a2 r u s b l q p a9 z n a7 x a1 w a4 a0 c i<M2 a a3 a5 v y a8 o m a6 a2 r u s b l q p a9 z n a7 x a1 w a4 a0 c e))))))))))))))))))))))) (K true e))))))))))))))))))))))):Ad PR BI [(.agg (cV a_0 a_1 a_2 a_3 a_4 a_5 a_6 a_7 a_8 a_9 a_10 a_11 a_12)),(.agg (cV b_0 b_1 b_2 b_3 b_4 b_5 b_6 b_7 b_8 b_9 b_10 b_11 b_12))] [.one .bool] st K:=
 Ai (cfg:=⟨[2,3],[],[78,83,98,104,112,118]⟩) (h:=(.seq .none (.seq .none (.seq (.seq .none (.block (.loop ⟨[(5,.int .i64)],[(2,0,0),(3,1,0)],[(0,13),(1,13)],[(0,0,.int .i64),(0,1,.bool),(0,2,.bool),(0,3,.str),(0,4,.int .i64),(0,5,.int .i64),(0,6,.int .i64),(0,7,.int .i64),(0,8,.int .i64),(0,9,.str),(0,10,.tv),(0,11,.tv),(0,12,.tv),(1,0,.int .i64),(1,1,.bool),(1,2,.bool),(1,3,.str),(1,4,.int .i64),(1,5,.int .i64),(1,6,.int .i64),(1,7,.int .i64),(1,8,.int .i64),(1,9,.str),(1,10,.tv),(1,11,.tv),(1,12,.tv)]⟩ .none))) (.seq (.seq .none (.block (.loop ⟨[(6,.int .i64)],[(2,0,0),(3,1,0)],[(0,13),(1,13)],[(0,0,.int .i64),(0,1,.bool),(0,2,.bool),(0,3,.str),(0,4,.int .i64),(0,5,.int .i64),(0,6,.int .i64),(0,7,.int .i64),(0,8,.int .i64),(0,9,.str),(0,10,.tv),(0,11,.tv),(0,12,.tv),(1,0,.int .i64),(1,1,.bool),(1,2,.bool),(1,3,.str),(1,4,.int .i64),(1,5,.int .i64),(1,6,.int .i64),(1,7,.int .i64),(1,8,.int .i64),(1,9,.str),(1,10,.tv),(1,11,.tv),(1,12,.tv)]⟩ .none))) .none))))) mixed (fun _ _=>Tryz.call36 _ _) Tryz.func36 (by kernel_rfl) (by kernel_rfl) h
theorem P2 (s:B8) (quoted:Bool) (d_0:Int) (d_1:Int) (d_2:Bool) (d_3:Bool) (st:St) (K:V13 (St->Prop)) (h:BIf (!d_3) (Ad PR CX [.str s] [sV] st (fun (n1:Int) (b1 b2:Bool) (s1:B8) (n2 n3 n4 n5 n6:Int) (s2:B8) (v1 v2 v3:TV) k8=>need (List.all (cV n1 b1 b2 s1 n2 n3 n4 n5 n6 s2 v1 v2 v3) Aq) (K n1 b1 b2 s1 n2 n3 n4 n5 n6 s2 v1 v2 v3 k8))) (BIf quoted (Ad PR CX [.str s] [sV] st (fun (n7:Int) (b3 b4:Bool) (s3:B8) (n8 n9 i1 o g0:Int) (s4:B8) (v4 v5 v6:TV) k9=>need (List.all (cV n7 b3 b4 s3 n8 n9 i1 o g0 s4 v4 v5 v6) Aq) (K n7 b3 b4 s3 n8 n9 i1 o g0 s4 v4 v5 v6 k9))) (BId (s=([]:B8)) (Ad PR JU [] [sV] st (fun (h3:Int) (b5 b6:Bool) (s5:B8) (d8 j6 i a9 i0:Int) (s6:B8) (v7 v8 v9:TV) k4=>need (List.all (cV h3 b5 b6 s5 d8 j6 i a9 i0 s6 v7 v8 v9) Aq) (K h3 b5 b6 s5 d8 j6 i a9 i0 s6 v7 v8 v9 k4))) (BId (s=Mk) (BId (s=Mk) (Ad PR GL [(.bool (decide (s=Mk)))] [sV] st (fun (f2:Int) (b7 b8:Bool) (s7:B8) (d1 g3 c3 n g5:Int) (s8:B8) (r h6 a3:TV) l2=>need (List.all (cV f2 b7 b8 s7 d1 g3 c3 n g5 s8 r h6 a3) Aq) (K f2 b7 b8 s7 d1 g3 c3 n g5 s8 r h6 a3 l2))) (Ad PR CD [.str s] [.agg [.bool,.str,.int .i64],.one (.int .i64)] st (fun (b9:Bool) (s9:B8) (l5 m1:Int) j4=>BId (m1=0) (Ad PR FC [(.agg [.bool b9,.str s9,.int .i64 l5])] [sV] j4 (fun (a0:Int) (h4 c5:Bool) (e5:B8) (m i4 f5 k e8:Int) (e9:B8) (c4 c2 h2:TV) k6=>need (List.all (cV a0 h4 c5 e5 m i4 f5 k e8 e9 c4 c2 h2) Aq) (K a0 h4 c5 e5 m i4 f5 k e8 e9 c4 c2 h2 k6))) (Ad PR CT [.str s] [.agg [.int .i64,.int .i64,.int .i64,.int .i64],.one (.int .i64)] j4 (fun (k2 l9 l0 l3 l4:Int) a1=>BId (l4=0) (Ad PR ET [(.agg [.int .i64 k2,.int .i64 l9,.int .i64 l0,.int .i64 l3])] [sV] a1 (fun (g4:Int) (a5 a2:Bool) (a6:B8) (d6 c0 a8 q p:Int) (j2:B8) (h1 f1 g7:TV) l6=>need (List.all (cV g4 a5 a2 a6 d6 c0 a8 q p j2 h1 f1 g7) Aq) (K g4 a5 a2 a6 d6 c0 a8 q p j2 h1 f1 g7 l6))) (Ad PR CX [.str s] [sV] a1 (fun (f4:Int) (d9 j5:Bool) (c7:B8) (f6 j x f8 b0:Int) (e0:B8) (e4 g9 h9:TV) l8=>need (List.all (cV f4 d9 j5 c7 f6 j x f8 b0 e0 e4 g9 h9) Aq) (K f4 d9 j5 c7 f6 j x f8 b0 e0 e4 g9 h9 l8)))))))) (BId (s=str13) (Ad PR GL [(.bool (decide (s=Mk)))] [sV] st (fun (j1:Int) (v e7:Bool) (j7:B8) (a7 e j3 h5 a4:Int) (h0:B8) (d5 c9 c:TV) k0=>need (List.all (cV j1 v e7 j7 a7 e j3 h5 a4 h0 d5 c9 c) Aq) (K j1 v e7 j7 a7 e j3 h5 a4 h0 d5 c9 c k0))) (Ad PR CD [.str s] [.agg [.bool,.str,.int .i64],.one (.int .i64)] st (fun (l1:Bool) (k5:B8) (m2 m4:Int) b=>BId (m4=0) (Ad PR FC [(.agg [.bool l1,.str k5,.int .i64 m2])] [sV] b (fun (g1:Int) (g8 g:Bool) (d:B8) (w g6 t c8 y:Int) (i2:B8) (d2 j0 e6:TV) k1=>need (List.all (cV g1 g8 g d w g6 t c8 y i2 d2 j0 e6) Aq) (K g1 g8 g d w g6 t c8 y i2 d2 j0 e6 k1))) (Ad PR CT [.str s] [.agg [.int .i64,.int .i64,.int .i64,.int .i64],.one (.int .i64)] b (fun (l7 k7 m0 k3 m3:Int) a=>BId (m3=0) (Ad PR ET [(.agg [.int .i64 l7,.int .i64 k7,.int .i64 m0,.int .i64 k3])] [sV] a (fun (d7:Int) (c6 e3:Bool) (f:B8) (i9 f7 f0 i5 d4:Int) (h7:B8) (i3 e2 i8:TV) j9=>need (List.all (cV d7 c6 e3 f i9 f7 f0 i5 d4 h7 i3 e2 i8) Aq) (K d7 c6 e3 f i9 f7 f0 i5 d4 h7 i3 e2 i8 j9))) (Ad PR CX [.str s] [sV] a (fun (d3:Int) (c1 z:Bool) (f9:B8) (u f3 i7 g2 l:Int) (e1:B8) (h8 d0 i6:TV) j8=>need (List.all (cV d3 c1 z f9 u f3 i7 g2 l e1 h8 d0 i6) Aq) (K d3 c1 z f9 u f3 i7 g2 l e1 h8 d0 i6 j8)))))))))))):Ad PR AE [.str s,.bool quoted,(.agg [.int .u8 d_0,.int .u8 d_1,.bool d_2,.bool d_3])] [sV] st K:=
 Ai (cfg:=⟨[5,6,7,9],[],[]⟩) (h:= .none) mixed (fun _ _=>Tryz.call37 _ _) Tryz.func37 (by kernel_rfl) (by kernel_rfl) h
theorem Iz (s:B8) (quoted:Bool) (d_0:Int) (d_1:Int) (d_2:Bool) (d_3:Bool) (st:St) (K:V13 (St->Prop)) (h:BIf quoted (K 4 false false [] 0 0 0 0 0 s .nilSlice .nilSlice .nilSlice st) (BIf (!d_3) (K 4 false false [] 0 0 0 0 0 s .nilSlice .nilSlice .nilSlice st) (∃(C1:B8->V13 (V13 (St->Prop))),(BId (s=([]:B8)) (K 0 false false [] 0 0 0 0 0 [] .nilSlice .nilSlice .nilSlice st) (BId (s=Mk) (BId (s=Mk) (K 1 ((decide (s=Mk))) false [] 0 0 0 0 0 [] .nilSlice .nilSlice .nilSlice st) (C1 s 0 false false [] 0 0 0 0 0 [] .nilSlice .nilSlice .nilSlice 4 false false [] 0 0 0 0 0 s .nilSlice .nilSlice .nilSlice st)) (BId (s=str13) (K 1 ((decide (s=Mk))) false [] 0 0 0 0 0 [] .nilSlice .nilSlice .nilSlice st) (C1 s 0 false false [] 0 0 0 0 0 [] .nilSlice .nilSlice .nilSlice 4 false false [] 0 0 0 0 0 s .nilSlice .nilSlice .nilSlice st))))/\∀d n1 b1 b2 s1 n2 n3 n4 n5 n6 s2 v1 v2 v3 n7 b3 b4 s3 n8 n9 a b c s4 v4 v5 v6 f,C1 d n1 b1 b2 s1 n2 n3 n4 n5 n6 s2 v1 v2 v3 n7 b3 b4 s3 n8 n9 a b c s4 v4 v5 v6 f->(Ad PR Cr [.str d] [.one .bool,.one .bool] f (fun (b5 b6:Bool) g=>BIf b5 (Ad PR Df [.str d] [.agg [.bool,.str,.int .i64],.one (.int .i64)] g (fun (b7:Bool) (s5:B8) (m j:Int) i=>BId (j=0) (K 2 false b7 s5 m 0 0 0 0 [] .nilSlice .nilSlice .nilSlice i) (need (List.all (cV n7 b3 b4 s3 n8 n9 a b c s4 v4 v5 v6) Aq) (K n7 b3 b4 s3 n8 n9 a b c s4 v4 v5 v6 i)))) (Ad PR Dd [.str d] [.agg [.int .i64,.int .i64,.int .i64,.int .i64],.one (.int .i64)] g (fun (p o n k l:Int) e=>BId (l=0) (K 3 false false [] 0 p o n k [] .nilSlice .nilSlice .nilSlice e) (need (List.all (cV n7 b3 b4 s3 n8 n9 a b c s4 v4 v5 v6) Aq) (K n7 b3 b4 s3 n8 n9 a b c s4 v4 v5 v6 e))))))))):Ad PR Cj [.str s,.bool quoted,(.agg [.int .u8 d_0,.int .u8 d_1,.bool d_2,.bool d_3])] [sV] st K:=
 Ai (cfg:=⟨[5,6,7,10,12],[],[]⟩) (h:=(.seq .none (.seq .none (.seq .none (.cut ⟨[(0,.str)],[(6,1,0),(7,2,0)],[(1,13),(2,13)],[(1,0,.int .i64),(1,1,.bool),(1,2,.bool),(1,3,.str),(1,4,.int .i64),(1,5,.int .i64),(1,6,.int .i64),(1,7,.int .i64),(1,8,.int .i64),(1,9,.str),(1,10,.tv),(1,11,.tv),(1,12,.tv),(2,0,.int .i64),(2,1,.bool),(2,2,.bool),(2,3,.str),(2,4,.int .i64),(2,5,.int .i64),(2,6,.int .i64),(2,7,.int .i64),(2,8,.int .i64),(2,9,.str),(2,10,.tv),(2,11,.tv),(2,12,.tv)]⟩ .none .none))))) mixed (fun _ _=>Tryz.call38 _ _) Tryz.func38 (by kernel_rfl) (by kernel_rfl) h
theorem Iy (src:B8) (d_0:Int) (d_1:Int) (d_2:Bool) (d_3:Bool) (l_0:Int) (l_1:Int) (l_2:Int) (l_3:Int) (l_4:Int) (st:St) (K:V13 (Int->Int->St->Prop)) (h:Ad PR Dc [.str src,(.agg [.int .u8 d_0,.int .u8 d_1,.bool d_2,.bool d_3]),(.agg [.int .i64 l_0,.int .i64 l_1,.int .i64 l_2,.int .i64 l_3,.int .i64 l_4])] [.agg [.int .i64,.str,.str,.tv,.str],.one (.int .i64),.one (.int .i64)] st (fun (n1:Int) (s1 s2:B8) (v1:TV) (s3:B8) (n2 n3:Int) a=>need (List.all [.int .i64 n1,.str s1,.str s2,v1,.str s3] Aq) (BId (n3≠0) (K 0 false false [] 0 0 0 0 0 [] .nilSlice .nilSlice .nilSlice n2 n3 a) (Ad PR D5 [(.agg [.int .i64 n1,.str s1,.str s2,v1,.str s3]),(.agg [.int .u8 d_0,.int .u8 d_1,.bool d_2,.bool d_3])] [sV] a (fun (n4:Int) (b1 b2:Bool) (s4:B8) (n5 n6 n7 n8 n9:Int) (s5:B8) (v2 v3 v4:TV) b=>need (List.all (cV n4 b1 b2 s4 n5 n6 n7 n8 n9 s5 v2 v3 v4) Aq) (K n4 b1 b2 s4 n5 n6 n7 n8 n9 s5 v2 v3 v4 0 0 b)))))):Ad PR Dv [.str src,(.agg [.int .u8 d_0,.int .u8 d_1,.bool d_2,.bool d_3]),(.agg [.int .i64 l_0,.int .i64 l_1,.int .i64 l_2,.int .i64 l_3,.int .i64 l_4])] [sV,.one (.int .i64),.one (.int .i64)] st K:=
 Ai (cfg:=⟨[4,5,6,9],[],[]⟩) (h:= .none) mixed (fun _ _=>Tryz.call40 _ _) Tryz.func40 (by kernel_rfl) (by kernel_rfl) h
theorem Ix (parts:TV) (st:St) (K:B8->St->Prop) (h:∃(I1:B8->Int->TV->St->Prop) (M1:B8->Int->TV->St->Nat),(I1 [] 0 parts st)/\∀c b a d,I1 c b a d->(need (isSl a) (BId (b<(lenS a:Int)) (((0<=b/\b<(lenZ 1 a:Int))/\Ah (Ac d [] (.t (ixT 1 a b.toNat)) 0) (fun (x1:TV)=>Ak .str x1 (fun (s1:B8)=>(c.length+s1.length<=9223372036854775807/\(I1 ((c++s1)) ((i64.wrap (b+(1:Int)))) a d/\M1 ((c++s1)) ((i64.wrap (b+(1:Int)))) a d<M1 c b a d)))))) (K c d)))):Ad PR Du [parts] [.one .str] st K:=
 Ai (cfg:=⟨[],[],[]⟩) (h:=(.seq .none (.seq .none (.seq (.seq .none (.block (.loop ⟨[(3,.str),(4,.int .i64),(0,.tv)],[],[],[]⟩ .none))) .none)))) mixed (fun _ _=>Tryz.call64 _ _) Tryz.func64 (by kernel_rfl) (by kernel_rfl) h
theorem Hg (src:B8) (l_0:Int) (l_1:Int) (l_2:Int) (l_3:Int) (l_4:Int) (st:St) (K:Int->Int->St->Prop) (h:BId (l_2<(src.length:Int)) (K 0 10 st) (Ad PR Cv [.str src] [.one (.int .i64)] st (fun (n1:Int) a=>BId (n1<(src.length:Int)) (K n1 5 a) (K 0 0 a)))):Ad PR CK [.str src,(.agg [.int .i64 l_0,.int .i64 l_1,.int .i64 l_2,.int .i64 l_3,.int .i64 l_4])] [.one (.int .i64),.one (.int .i64)] st K:=
 Ai (cfg:=⟨[3],[],[]⟩) (h:= .none) mixed (fun _ _=>Tryz.call65 _ _) Tryz.func65 (by kernel_rfl) (by kernel_rfl) h
theorem Hh (src:B8) (d_0:Int) (d_1:Int) (d_2:Bool) (d_3:Bool) (window:Int) (st:St) (K:Int->St->Prop) (h:∃(I1:Int->B8->Int->Int->Int->Bool->Bool->St->Prop) (M1:Int->B8->Int->Int->Int->Bool->Bool->St->Nat),(I1 0 src window d_0 d_1 d_2 d_3 st)/\∀b a c n1 n2 b1 b2 e,I1 b a c n1 n2 b1 b2 e->(BId (b<(a.length:Int)) (Ad PR CL [.str a,(.agg [.int .u8 n1,.int .u8 n2,.bool b1,.bool b2]),.int .i64 b] [.one (.int .i64)] e (fun (n3:Int) d=>BId (c<n3) (K b d) (BId ((i64.wrap (b+n3))=(a.length:Int)) (K (-1) d) (((0<=(i64.wrap (b+n3))/\(i64.wrap (b+n3))<(a.length:Int))/\BId (((List.getD a (Int.toNat (i64.wrap (b+n3))) 0).toNat:Int)=n1) (BId ((i64.wrap ((i64.wrap (b+n3))+(1:Int)))=(a.length:Int)) (K (-1) d) ((I1 ((i64.wrap ((i64.wrap (b+n3))+(1:Int)))) a c n1 n2 b1 b2 d/\M1 ((i64.wrap ((i64.wrap (b+n3))+(1:Int)))) a c n1 n2 b1 b2 d<M1 b a c n1 n2 b1 b2 e))) (((0<=(i64.wrap (b+n3))/\(i64.wrap (b+n3))<(a.length:Int))/\BId (((List.getD a (Int.toNat (i64.wrap (b+n3))) 0).toNat:Int)=(10:Int)) ((I1 ((i64.wrap ((i64.wrap (b+n3))+(1:Int)))) a c n1 n2 b1 b2 d/\M1 ((i64.wrap ((i64.wrap (b+n3))+(1:Int)))) a c n1 n2 b1 b2 d<M1 b a c n1 n2 b1 b2 e)) (((0<=(i64.wrap (b+n3))/\(i64.wrap (b+n3))<(a.length:Int))/\BId (((List.getD a (Int.toNat (i64.wrap (b+n3))) 0).toNat:Int)=(13:Int)) (BId ((i64.wrap ((i64.wrap (b+n3))+(1:Int)))<(a.length:Int)) (((0<=(i64.wrap ((i64.wrap (b+n3))+(1:Int)))/\(i64.wrap ((i64.wrap (b+n3))+(1:Int)))<(a.length:Int))/\BId (((List.getD a (Int.toNat (i64.wrap ((i64.wrap (b+n3))+(1:Int)))) 0).toNat:Int)=(10:Int)) ((I1 ((i64.wrap ((i64.wrap (b+n3))+(2:Int)))) a c n1 n2 b1 b2 d/\M1 ((i64.wrap ((i64.wrap (b+n3))+(2:Int)))) a c n1 n2 b1 b2 d<M1 b a c n1 n2 b1 b2 e)) (K (-1) d))) (K (-1) d)) (K (-1) d)))))))))) (K (-1) e))):Ad PR BP [.str src,(.agg [.int .u8 d_0,.int .u8 d_1,.bool d_2,.bool d_3]),.int .i64 window] [.one (.int .i64)] st K:=
 Ai (cfg:=⟨[4],[],[]⟩) (h:=(.seq .none (.seq .none (.seq (.block (.loop ⟨[(7,.int .i64),(0,.str),(2,.int .i64)],[(4,0,0)],[(0,4)],[(0,0,.int .u8),(0,1,.int .u8),(0,2,.bool),(0,3,.bool)]⟩ .none)) .none)))) mixed (fun _ _=>Tryz.call66 _ _) Tryz.func66 (by kernel_rfl) (by kernel_rfl) h
theorem Ka (v_0:Int) (v_1:Bool) (v_2:Bool) (v_3:B8) (v_4:Int) (v_5:Int) (v_6:Int) (v_7:Int) (v_8:Int) (v_9:B8) (v_10:TV) (v_11:TV) (v_12:TV) (st:St) (K:TV->St->Prop) (h:BId (v_0<6) (K ((.list 15 .full 1 [.int .i64 1,(.str []),.int .i64 v_0,.bool v_1,.bool v_2,.str v_3,.int .i64 v_4,.int .i64 v_5,.int .i64 v_6,.int .i64 v_7,.int .i64 v_8,.str v_9,v_10,v_11,v_12])) st) (∃(I1:TV->Int->V13 (St->Prop)) (M1:TV->Int->V13 (St->Nat)),(I1 ((.list 15 .full 1 [(.int .i64 (i64.wrap ((i64.wrap (v_0*(2:Int)))-(10:Int)))),(.str []),.int .i64 0,.bool false,.bool false,(.str []),.int .i64 0,.int .i64 0,.int .i64 0,.int .i64 0,.int .i64 0,(.str []),.nilSlice,.nilSlice,.nilSlice])) 0 v_0 v_1 v_2 v_3 v_4 v_5 v_6 v_7 v_8 v_9 v_10 v_11 v_12 st)/\∀e c n1 b1 b2 s1 n2 n3 n4 n5 n6 s2 v1 v2 v3 i,I1 e c n1 b1 b2 s1 n2 n3 n4 n5 n6 s2 v1 v2 v3 i->(need (isSl v2) (BId (c<(lenS v2:Int)) (((0<=c/\c<(lenZ 13 v2:Int))/\Ah ((Av i [] (.t (ixT 13 v2 c.toNat)) 0 13).map TV.agg) (fun (x1:TV)=>DF [.int .i64,.bool,.bool,.str,.int .i64,.int .i64,.int .i64,.int .i64,.int .i64,.str,.tv,.tv,.tv] x1 (fun (n7:Int) (b3 b4:Bool) (s3:B8) (n8 n9 a7 a4 b0:Int) (s4:B8) (v4 v5 v6:TV)=>Ad PR BB [(.agg (cV n7 b3 b4 s3 n8 n9 a7 a4 b0 s4 v4 v5 v6))] [.one .tv] i (fun (v7:TV) r=>Ah (BJ r 15 v7) (fun (q1:Nat×List TV)=>need (List.all q1.2 Aq) (AG 118 15 192 e q1.1 q1.2 r (fun (v8:TV) s=>(I1 v8 ((i64.wrap (c+(1:Int)))) n1 b1 b2 s1 n2 n3 n4 n5 n6 s2 v1 v2 v3 s/\M1 v8 ((i64.wrap (c+(1:Int)))) n1 b1 b2 s1 n2 n3 n4 n5 n6 s2 v1 v2 v3 s<M1 e c n1 b1 b2 s1 n2 n3 n4 n5 n6 s2 v1 v2 v3 i))))))))) (∃(I2:TV->Int->V13 (St->Prop)) (M2:TV->Int->V13 (St->Nat)),(I2 e 0 n1 b1 b2 s1 n2 n3 n4 n5 n6 s2 v1 v2 v3 i)/\∀d a f b5 b6 s5 j o l k n s6 v9 m b g,I2 d a f b5 b6 s5 j o l k n s6 v9 m b g->(need (isSl b) (BId (a<(lenS b:Int)) (((0<=a/\a<(lenZ 14 b:Int))/\need (isPtr (ixT 14 b a.toNat)) (Ah (Ac g [] (.t (Af (ixT 14 b a.toNat) 0)) 0) (fun (x2:TV)=>Ak .str x2 (fun (s7:B8)=>AG 118 15 192 d 1 [.int .i64 6,.str s7,.int .i64 0,.bool false,.bool false,(.str []),.int .i64 0,.int .i64 0,.int .i64 0,.int .i64 0,.int .i64 0,(.str []),.nilSlice,.nilSlice,.nilSlice] g (fun (b9:TV) u=>((0<=a/\a<(lenZ 14 b:Int))/\need (isPtr (ixT 14 b a.toNat)) (Ah ((Av u [] (.t (Af (ixT 14 b a.toNat) 1)) 0 13).map TV.agg) (fun (x3:TV)=>DF [.int .i64,.bool,.bool,.str,.int .i64,.int .i64,.int .i64,.int .i64,.int .i64,.str,.tv,.tv,.tv] x3 (fun (a8:Int) (b7 b8:Bool) (s8:B8) (a9 w a5 a3 x:Int) (s9:B8) (a6 a0 a2:TV)=>Ad PR BB [(.agg (cV a8 b7 b8 s8 a9 w a5 a3 x s9 a6 a0 a2))] [.one .tv] u (fun (a1:TV) v=>Ah (BJ v 15 a1) (fun (q2:Nat×List TV)=>need (List.all q2.2 Aq) (AG 118 15 192 b9 q2.1 q2.2 v (fun (p:TV) q=>(I2 p ((i64.wrap (a+(1:Int)))) f b5 b6 s5 j o l k n s6 v9 m b q/\M2 p ((i64.wrap (a+(1:Int)))) f b5 b6 s5 j o l k n s6 v9 m b q<M2 d a f b5 b6 s5 j o l k n s6 v9 m b g))))))))))))))) (AG 118 15 192 d 1 [(.int .i64 (i64.wrap ((i64.wrap (f*(2:Int)))-(9:Int)))),(.str []),.int .i64 0,.bool false,.bool false,(.str []),.int .i64 0,.int .i64 0,.int .i64 0,.int .i64 0,.int .i64 0,(.str []),.nilSlice,.nilSlice,.nilSlice] g (fun (z:TV) y=>K z y))))))))):Ad PR BB [(.agg (cV v_0 v_1 v_2 v_3 v_4 v_5 v_6 v_7 v_8 v_9 v_10 v_11 v_12))] [.one .tv] st K:=
 Ai (cfg:=⟨[1],[],[]⟩) (h:=(.seq .none (.seq .none (.seq .none (.seq (.seq .none (.block (.loop ⟨[(3,.tv),(4,.int .i64)],[(1,0,0)],[(0,13)],[(0,0,.int .i64),(0,1,.bool),(0,2,.bool),(0,3,.str),(0,4,.int .i64),(0,5,.int .i64),(0,6,.int .i64),(0,7,.int .i64),(0,8,.int .i64),(0,9,.str),(0,10,.tv),(0,11,.tv),(0,12,.tv)]⟩ .none))) (.seq (.seq .none (.block (.loop ⟨[(3,.tv),(5,.int .i64)],[(1,0,0)],[(0,13)],[(0,0,.int .i64),(0,1,.bool),(0,2,.bool),(0,3,.str),(0,4,.int .i64),(0,5,.int .i64),(0,6,.int .i64),(0,7,.int .i64),(0,8,.int .i64),(0,9,.str),(0,10,.tv),(0,11,.tv),(0,12,.tv)]⟩ .none))) .none)))))) mixed (fun _ _=>Tryz.call67 _ _) Tryz.func67 (by kernel_rfl) (by kernel_rfl) h
theorem OG (size:Int) (st:St) (K:TV->Int->St->Prop) (h:BId (size<1) (K .nilPtr 1 st) (BId ((65536:Int)<size) (K .nilPtr 1 st) (K ((.box st.nb 0)) 0 (st.push (.cells [.int .i64 size,.nilSlice,.int .i64 0,.bool false]) (some 194))))):Ad PR JT [.int .i64 size] [.one .tv,.one (.int .i64)] st K:=
 Ai (cfg:=⟨[],[],[]⟩) (h:= .none) mixed (fun _ _=>Tryz.call68 _ _) Tryz.func68 (by kernel_rfl) (by kernel_rfl) h
theorem Fq (r:Nat) (st:St) (K:St->Prop) (h:Ah (Ac st [] (.t (.box r 11)) 0) (fun (x1:TV)=>Ak .bool x1 (fun (b1:Bool)=>BIf (!b1) (stB st (.box r 11) [.bool true] (fun a=>Ah (Ac a [] (.t (.box r 26)) 0) (fun (v1:TV)=>AG 118 15 192 v1 1 [.int .i64 2,(.str []),.int .i64 0,.bool false,.bool false,(.str []),.int .i64 0,.int .i64 0,.int .i64 0,.int .i64 0,.int .i64 0,(.str []),.nilSlice,.nilSlice,.nilSlice] a (fun (v2:TV) b=>need (List.all [v2] Aq) (stB b (.box r 26) [v2] (fun c=>K c)))))) (K st)))):Ad PR Bp [(.box r 0)] [] st K:=
 Ai (cfg:=⟨[],[],[]⟩) (h:= .none) mixed (fun _ _=>Tryz.call74 _ _) Tryz.func74 (by kernel_rfl) (by kernel_rfl) h
theorem Fp (r:Nat) (s:B8) (last:Bool) (st:St) (K:St->Prop) (h:Ah (Ac st [] (.t (.box r 24)) 0) (fun (x1:TV)=>Ak (.int .i64) x1 (fun (n1:Int)=>BId ((0:Int)<=n1) (K st) (Ah (Ac st [] (.t (.box r 23)) 0) (fun (x2:TV)=>Ak (.int .i64) x2 (fun (n2:Int)=>Ah (Ac st [] (.t (.box r 25)) 0) (fun (x3:TV)=>Ak .str x3 (fun (s1:B8)=>Ah (Ac st [] (.t (.box r 25)) 0) (fun (x4:TV)=>Ak .str x4 (fun (s2:B8)=>(s2.length+s.length<=9223372036854775807/\∃(I1:Int->TV->B8->Bool->Int->St->Prop) (M1:Int->TV->B8->Bool->Int->St->Nat),(I1 0 ((.box r 0)) ((s2++s)) last ((i64.wrap (n2-(s1.length:Int)))) st)/\∀b a e c d i,I1 b a e c d i->(BId (b<(e.length:Int)) (Ad PR GN [.str e,.int .i64 b] [.one (.int .i64),.one (.int .i64)] i (fun (n3 n4:Int) j=>BId (n4=0) (((0<=b/\b<=(e.length:Int))/\need (isPtr a) (need (isPtr a) (stB j (Af a 25) [(.str (List.drop b.toNat e))] (fun g=>need (isPtr a) (need (isPtr a) (Ah (Ac g [] (.t (Af a 25)) 0) (fun (x5:TV)=>Ak .str x5 (fun (s3:B8)=>BId (s3≠([]:B8)) (BIf c (need (isPtr a) (need (isPtr a) (stB g (Af a 24) [(.int .i64 (i64.wrap (d+b)))] (fun u=>need (isPtr a) (need (isPtr a) (stB u (Af a 25) [(.str [])] (fun w=>K w))))))) (need (isPtr a) (need (isPtr a) (Ah (Ac g [] (.t (Af a 25)) 0) (fun (x6:TV)=>Ak .str x6 (fun (s4:B8)=>Ad PR Bx [.str s4] [.one .bool] g (fun (b1:Bool) l=>BIf (!b1) (need (isPtr a) (need (isPtr a) (stB l (Af a 24) [(.int .i64 (i64.wrap (d+b)))] (fun v=>need (isPtr a) (need (isPtr a) (stB v (Af a 25) [(.str [])] (fun q=>K q))))))) (K l)))))))) (K g)))))))))) ((I1 ((i64.wrap (b+n4))) a e c d j/\M1 ((i64.wrap (b+n4))) a e c d j<M1 b a e c d i)))) (((0<=b/\b<=(e.length:Int))/\need (isPtr a) (need (isPtr a) (stB i (Af a 25) [(.str (List.drop b.toNat e))] (fun f=>need (isPtr a) (need (isPtr a) (Ah (Ac f [] (.t (Af a 25)) 0) (fun (x7:TV)=>Ak .str x7 (fun (s5:B8)=>BId (s5≠([]:B8)) (BIf c (need (isPtr a) (need (isPtr a) (stB f (Af a 24) [(.int .i64 (i64.wrap (d+b)))] (fun p=>need (isPtr a) (need (isPtr a) (stB p (Af a 25) [(.str [])] (fun m=>K m))))))) (need (isPtr a) (need (isPtr a) (Ah (Ac f [] (.t (Af a 25)) 0) (fun (x8:TV)=>Ak .str x8 (fun (s6:B8)=>Ad PR Bx [.str s6] [.one .bool] f (fun (b2:Bool) k=>BIf (!b2) (need (isPtr a) (need (isPtr a) (stB k (Af a 24) [(.int .i64 (i64.wrap (d+b)))] (fun n=>need (isPtr a) (need (isPtr a) (stB n (Af a 25) [(.str [])] (fun o=>K o))))))) (K k)))))))) (K f)))))))))))))))))))))):Ad PR Bo [(.box r 0),.str s,.bool last] [] st K:=
 Ai (cfg:=⟨[],[],[]⟩) (h:=(.seq .none (.seq .none (.seq .none (.seq .none (.seq (.block (.loop ⟨[(7,.int .i64),(0,.tv),(1,.str),(2,.bool),(6,.int .i64)],[],[],[]⟩ .none)) .none)))))) mixed (fun _ _=>Tryz.call75 _ _) Tryz.func75 (by kernel_rfl) (by kernel_rfl) h
theorem FQ (r:Nat) (c:Int) (atx:Int) (st:St) (K:St->Prop) (h:Ah (Ac st [] (.t (.box r 10)) 0) (fun (x1:TV)=>Ak (.int .i64) x1 (fun (n1:Int)=>BId (n1=0) (Ad PR AZ [(.box r 0),.int .i64 atx] [] st (fun (a:St)=>Ah (Ac a [] (.t (.box r 2)) 0) (fun (x2:TV)=>Ak (.int .u8) x2 (fun (n2:Int)=>BId (c=n2) (stB a (.box r 10) [.int .i64 2] (fun l=>Ad PR AF [(.box r 0),.int .u8 c] [] l (fun (m:St)=>K m))) (stB a (.box r 10) [.int .i64 1] (fun i=>Ad PR Bf [(.box r 0),.int .u8 c,.int .i64 atx] [] i (fun (n:St)=>K n))))))) (BId (n1=1) (Ad PR Bf [(.box r 0),.int .u8 c,.int .i64 atx] [] st (fun (p:St)=>K p)) (BId (n1=2) (Ah (Ac st [] (.t (.box r 2)) 0) (fun (x3:TV)=>Ak (.int .u8) x3 (fun (n3:Int)=>BId (c=n3) (stB st (.box r 10) [.int .i64 3] (fun j=>Ad PR AF [(.box r 0),.int .u8 c] [] j (fun (k:St)=>K k))) (Ad PR AF [(.box r 0),.int .u8 c] [] st (fun (o:St)=>K o))))) (BId (n1=3) (Ah (Ac st [] (.t (.box r 2)) 0) (fun (x4:TV)=>Ak (.int .u8) x4 (fun (n4:Int)=>BId (c=n4) (stB st (.box r 10) [.int .i64 2] (fun f=>Ad PR AF [(.box r 0),.int .u8 c] [] f (fun (d:St)=>K d))) (Ad PR AO [(.box r 0),.int .u8 c,.int .i64 atx] [] st (fun (g:St)=>K g))))) (BId (n1=4) (BId (c≠10) (Ah (Ac st [] (.t (.box r 21)) 0) (fun (x5:TV)=>Ak (.int .i64) x5 (fun (n5:Int)=>Ad PR Ag [(.box r 0),.int .i64 n5,.int .i64 3] [] st (fun (b:St)=>K b)))) (Ah (Ac st [] (.t (.box r 21)) 0) (fun (x6:TV)=>Ak (.int .i64) x6 (fun (n6:Int)=>Ad PR Au [(.box r 0),.int .i64 n6] [] st (fun (e:St)=>K e))))) (K st)))))))):Ad PR B0 [(.box r 0),.int .u8 c,.int .i64 atx] [] st K:=
 Ai (cfg:=⟨[],[],[]⟩) (h:= .none) mixed (fun _ _=>Tryz.call76 _ _) Tryz.func76 (by kernel_rfl) (by kernel_rfl) h
theorem E9 (r:Nat) (st:St) (K:TV->St->Prop) (h:Ah (Ac st [] (.t (.box r 26)) 0) (fun (v1:TV)=>stB st (.box r 26) [.nilSlice] (fun a=>K v1 a))):Ad PR Ay [(.box r 0)] [.one .tv] st K:=
 Ai (cfg:=⟨[],[],[]⟩) (h:= .none) mixed (fun _ _=>Tryz.call77 _ _) Tryz.func77 (by kernel_rfl) (by kernel_rfl) h
theorem Iu (w:Nat) (st:St) (K:Int->St->Prop) (h:Ah (Ac st [] (.t (.box w 1)) 0) (fun (v1:TV)=>need (isSl v1) (K ((lenS v1:Int)) st))):Ad PR AW [(.box w 0)] [.one (.int .i64)] st K:=
 Ai (cfg:=⟨[],[],[]⟩) (h:= .none) mixed (fun _ _=>Tryz.call78 _ _) Tryz.func78 (by kernel_rfl) (by kernel_rfl) h
theorem Hi (src:B8) (d_0:Int) (d_1:Int) (d_2:Bool) (d_3:Bool) (atx:Int) (st:St) (K:Int->St->Prop) (h:BId (atx<(src.length:Int)) (((0<=atx/\atx<(src.length:Int))/\BId (((List.getD src atx.toNat 0).toNat:Int)=d_1) (∃(I1:Int->B8->Int->Int->Int->Bool->Bool->St->Prop) (M1:Int->B8->Int->Int->Int->Bool->Bool->St->Nat),(I1 ((i64.wrap (atx+(1:Int)))) src atx d_0 d_1 d_2 d_3 st)/\∀f a g n1 n2 b1 b2 k,I1 f a g n1 n2 b1 b2 k->(BId (f<(a.length:Int)) (((0<=f/\f<(a.length:Int))/\BId (((List.getD a f.toNat 0).toNat:Int)≠n2) ((I1 ((i64.wrap (f+(1:Int)))) a g n1 n2 b1 b2 k/\M1 ((i64.wrap (f+(1:Int)))) a g n1 n2 b1 b2 k<M1 f a g n1 n2 b1 b2 k)) (BId ((i64.wrap (f+(1:Int)))<(a.length:Int)) (((0<=(i64.wrap (f+(1:Int)))/\(i64.wrap (f+(1:Int)))<(a.length:Int))/\BId (((List.getD a (Int.toNat (i64.wrap (f+(1:Int)))) 0).toNat:Int)=n2) ((I1 ((i64.wrap (f+(2:Int)))) a g n1 n2 b1 b2 k/\M1 ((i64.wrap (f+(2:Int)))) a g n1 n2 b1 b2 k<M1 f a g n1 n2 b1 b2 k)) (K ((i64.wrap ((i64.wrap (f+(1:Int)))-g))) k))) (K ((i64.wrap ((i64.wrap (f+(1:Int)))-g))) k)))) (K ((i64.wrap ((a.length:Int)-g))) k))) (∃(I2:Int->B8->Int->Int->Int->Bool->Bool->St->Prop) (M2:Int->B8->Int->Int->Int->Bool->Bool->St->Nat),(I2 atx src atx d_0 d_1 d_2 d_3 st)/\∀d b j n3 n4 b3 b4 l,I2 d b j n3 n4 b3 b4 l->(BId (d<(b.length:Int)) (((0<=d/\d<(b.length:Int))/\BId (((List.getD b d.toNat 0).toNat:Int)≠n3) (((0<=d/\d<(b.length:Int))/\BId (((List.getD b d.toNat 0).toNat:Int)≠n4) (((0<=d/\d<(b.length:Int))/\BId (((List.getD b d.toNat 0).toNat:Int)≠(10:Int)) (((0<=d/\d<(b.length:Int))/\BId (((List.getD b d.toNat 0).toNat:Int)≠(13:Int)) ((I2 ((i64.wrap (d+(1:Int)))) b j n3 n4 b3 b4 l/\M2 ((i64.wrap (d+(1:Int)))) b j n3 n4 b3 b4 l<M2 d b j n3 n4 b3 b4 l)) (K ((i64.wrap (d-j))) l))) (K ((i64.wrap (d-j))) l))) (K ((i64.wrap (d-j))) l))) (K ((i64.wrap (d-j))) l))) (K ((i64.wrap (d-j))) l))))) (∃(I3:Int->B8->Int->Int->Int->Bool->Bool->St->Prop) (M3:Int->B8->Int->Int->Int->Bool->Bool->St->Nat),(I3 atx src atx d_0 d_1 d_2 d_3 st)/\∀e c i n5 n6 b5 b6 m,I3 e c i n5 n6 b5 b6 m->(BId (e<(c.length:Int)) (((0<=e/\e<(c.length:Int))/\BId (((List.getD c e.toNat 0).toNat:Int)≠n5) (((0<=e/\e<(c.length:Int))/\BId (((List.getD c e.toNat 0).toNat:Int)≠n6) (((0<=e/\e<(c.length:Int))/\BId (((List.getD c e.toNat 0).toNat:Int)≠(10:Int)) (((0<=e/\e<(c.length:Int))/\BId (((List.getD c e.toNat 0).toNat:Int)≠(13:Int)) ((I3 ((i64.wrap (e+(1:Int)))) c i n5 n6 b5 b6 m/\M3 ((i64.wrap (e+(1:Int)))) c i n5 n6 b5 b6 m<M3 e c i n5 n6 b5 b6 m)) (K ((i64.wrap (e-i))) m))) (K ((i64.wrap (e-i))) m))) (K ((i64.wrap (e-i))) m))) (K ((i64.wrap (e-i))) m))) (K ((i64.wrap (e-i))) m)))):Ad PR CL [.str src,(.agg [.int .u8 d_0,.int .u8 d_1,.bool d_2,.bool d_3]),.int .i64 atx] [.one (.int .i64)] st K:=
 Ai (cfg:=⟨[4],[],[]⟩) (h:=(.seq .none (.seq (.seq .none (.cond (.seq .none (.seq (.block (.loop ⟨[(7,.int .i64),(0,.str),(2,.int .i64)],[(4,0,0)],[(0,4)],[(0,0,.int .u8),(0,1,.int .u8),(0,2,.bool),(0,3,.bool)]⟩ .none)) .none)) .none)) (.seq .none (.seq (.block (.loop ⟨[(8,.int .i64),(0,.str),(2,.int .i64)],[(4,0,0)],[(0,4)],[(0,0,.int .u8),(0,1,.int .u8),(0,2,.bool),(0,3,.bool)]⟩ .none)) .none))))) mixed (fun _ _=>Tryz.call81 _ _) Tryz.func81 (by kernel_rfl) (by kernel_rfl) h
theorem FR (r:Nat) (st:St) (K:St->Prop) (h:Ah (Ac st [] (.t (.box r 10)) 0) (fun (x1:TV)=>Ak (.int .i64) x1 (fun (n1:Int)=>BId (n1=2) (BId (n1=2) (Ah (Ac st [] (.t (.box r 22)) 0) (fun (x2:TV)=>Ak (.int .i64) x2 (fun (n2:Int)=>BId (n2≠0) (Ah (Ac st [] (.t (.box r 20)) 0) (fun (x3:TV)=>Ak (.int .i64) x3 (fun (n3:Int)=>Ah (Ac st [] (.t (.box r 22)) 0) (fun (x4:TV)=>Ak (.int .i64) x4 (fun (n4:Int)=>Ad PR Ag [(.box r 0),.int .i64 n3,.int .i64 n4] [] st (fun (f:St)=>Ah (Ac f [] (.t (.box r 23)) 0) (fun (x5:TV)=>Ak (.int .i64) x5 (fun (n5:Int)=>Ad PR Ag [(.box r 0),.int .i64 n5,.int .i64 4] [] f (fun (b5:St)=>K b5))))))))) (Ah (Ac st [] (.t (.box r 23)) 0) (fun (x6:TV)=>Ak (.int .i64) x6 (fun (n6:Int)=>Ad PR Ag [(.box r 0),.int .i64 n6,.int .i64 4] [] st (fun (b6:St)=>K b6))))))) (BId (n1=0) (Ah (Ac st [] (.t (.box r 12)) 0) (fun (x7:TV)=>Ak .bool x7 (fun (b1:Bool)=>BIf (!b1) (K st) (Ah (Ac st [] (.t (.box r 23)) 0) (fun (x8:TV)=>Ak (.int .i64) x8 (fun (n7:Int)=>Ad PR AZ [(.box r 0),.int .i64 n7] [] st (fun (a5:St)=>Ad PR Ax [(.box r 0)] [] a5 (fun (i:St)=>Ah (Ac i [] (.t (.box r 23)) 0) (fun (x9:TV)=>Ak (.int .i64) x9 (fun (n8:Int)=>Ad PR Au [(.box r 0),.int .i64 n8] [] i (fun (c0:St)=>K c0))))))))))) (BId (n1=1) (BId (n1=1) (Ad PR Ax [(.box r 0)] [] st (fun (g:St)=>Ah (Ac g [] (.t (.box r 23)) 0) (fun (u:TV)=>Ak (.int .i64) u (fun (n9:Int)=>Ad PR Au [(.box r 0),.int .i64 n9] [] g (fun (v:St)=>K v))))) (K st)) (BId (n1=3) (Ad PR Ax [(.box r 0)] [] st (fun (e:St)=>Ah (Ac e [] (.t (.box r 23)) 0) (fun (b4:TV)=>Ak (.int .i64) b4 (fun (a8:Int)=>Ad PR Au [(.box r 0),.int .i64 a8] [] e (fun (o:St)=>K o))))) (K st))))) (BId (n1=4) (Ah (Ac st [] (.t (.box r 22)) 0) (fun (a6:TV)=>Ak (.int .i64) a6 (fun (a3:Int)=>BId (a3≠0) (Ah (Ac st [] (.t (.box r 20)) 0) (fun (b7:TV)=>Ak (.int .i64) b7 (fun (b8:Int)=>Ah (Ac st [] (.t (.box r 22)) 0) (fun (a4:TV)=>Ak (.int .i64) a4 (fun (a1:Int)=>Ad PR Ag [(.box r 0),.int .i64 b8,.int .i64 a1] [] st (fun (b:St)=>Ah (Ac b [] (.t (.box r 23)) 0) (fun (w:TV)=>Ak (.int .i64) w (fun (s:Int)=>Ad PR Ag [(.box r 0),.int .i64 s,.int .i64 4] [] b (fun (p:St)=>K p))))))))) (Ah (Ac st [] (.t (.box r 23)) 0) (fun (b3:TV)=>Ak (.int .i64) b3 (fun (b9:Int)=>Ad PR Ag [(.box r 0),.int .i64 b9,.int .i64 4] [] st (fun (m:St)=>K m))))))) (BId (n1=0) (Ah (Ac st [] (.t (.box r 12)) 0) (fun (a2:TV)=>Ak .bool a2 (fun (b2:Bool)=>BIf (!b2) (K st) (Ah (Ac st [] (.t (.box r 23)) 0) (fun (q:TV)=>Ak (.int .i64) q (fun (a0:Int)=>Ad PR AZ [(.box r 0),.int .i64 a0] [] st (fun (n:St)=>Ad PR Ax [(.box r 0)] [] n (fun (a:St)=>Ah (Ac a [] (.t (.box r 23)) 0) (fun (b0:TV)=>Ak (.int .i64) b0 (fun (y:Int)=>Ad PR Au [(.box r 0),.int .i64 y] [] a (fun (j:St)=>K j))))))))))) (BId (n1=1) (BId (n1=1) (Ad PR Ax [(.box r 0)] [] st (fun (c:St)=>Ah (Ac c [] (.t (.box r 23)) 0) (fun (z:TV)=>Ak (.int .i64) z (fun (a7:Int)=>Ad PR Au [(.box r 0),.int .i64 a7] [] c (fun (l:St)=>K l))))) (K st)) (BId (n1=3) (Ad PR Ax [(.box r 0)] [] st (fun (d:St)=>Ah (Ac d [] (.t (.box r 23)) 0) (fun (x:TV)=>Ak (.int .i64) x (fun (a9:Int)=>Ad PR Au [(.box r 0),.int .i64 a9] [] d (fun (k:St)=>K k))))) (K st)))))))):Ad PR B1 [(.box r 0)] [] st K:=
 Ai (cfg:=⟨[],[],[23,27]⟩) (h:= .none) mixed (fun _ _=>Tryz.call82 _ _) Tryz.func82 (by kernel_rfl) (by kernel_rfl) h
theorem HZ (w:Nat) (n:Int) (st:St) (K:B8->Int->St->Prop) (h:BId (n<0) (K [] 2 st) (Ah (Ac st [] (.t (.box w 1)) 0) (fun (v1:TV)=>need (isSl v1) (BId ((lenS v1:Int)<n) (K [] 2 st) (Ah (Ac st [] (.t (.box w 1)) 0) (fun (v2:TV)=>((HX 1 v2=true/\0<=n/\n<=(lenS v2:Int)/\n=n)/\Ah ((toBytes st (slT 1 .full v2 0 n.toNat)).map TV.str) (fun (x3:TV)=>Ak .str x3 (fun (s1:B8)=>Ah (Ac st [] (.t (.box w 1)) 0) (fun (v3:TV)=>((HX 1 v3=true/\0<=n/\n<=(lenS v3:Int))/\Ah (BJ st 1 (slT 1 .non v3 n.toNat (lenS v3))) (fun (q1:Nat×List TV)=>need (List.all q1.2 Aq) (AG 5 1 1 (.list 1 .full 0 []) q1.1 q1.2 st (fun (v4:TV) c=>need (List.all [v4] Aq) (stB c (.box w 1) [v4] (fun a=>Ah (Ac a [] (.t (.box w 2)) 0) (fun (x5:TV)=>Ak (.int .i64) x5 (fun (n1:Int)=>stB a (.box w 2) [(.int .i64 (i64.wrap (n1+n)))] (fun b=>K s1 0 b))))))))))))))))))):Ad PR AQ [(.box w 0),.int .i64 n] [.one .str,.one (.int .i64)] st K:=
 Ai (cfg:=⟨[],[],[]⟩) (h:= .none) mixed (fun _ _=>Tryz.call83 _ _) Tryz.func83 (by kernel_rfl) (by kernel_rfl) h
theorem GE (s:B8) (st:St) (K:V13 (St->Prop)) (h:K 4 false false [] 0 0 0 0 0 s .nilSlice .nilSlice .nilSlice st):Ad PR CX [.str s] [sV] st K:=
 Ai (cfg:=⟨[2],[],[]⟩) (h:= .none) mixed (fun _ _=>Tryz.call93 _ _) Tryz.func93 (by kernel_rfl) (by kernel_rfl) h
theorem OI (st:St) (K:V13 (St->Prop)) (h:K 0 false false [] 0 0 0 0 0 [] .nilSlice .nilSlice .nilSlice st):Ad PR JU [] [sV] st K:=
 Ai (cfg:=⟨[0],[],[]⟩) (h:= .none) mixed (fun _ _=>Tryz.call94 _ _) Tryz.func94 (by kernel_rfl) (by kernel_rfl) h
theorem JI (b:Bool) (st:St) (K:V13 (St->Prop)) (h:K 1 b false [] 0 0 0 0 0 [] .nilSlice .nilSlice .nilSlice st):Ad PR GL [.bool b] [sV] st K:=
 Ai (cfg:=⟨[2],[],[]⟩) (h:= .none) mixed (fun _ _=>Tryz.call95 _ _) Tryz.func95 (by kernel_rfl) (by kernel_rfl) h
theorem Lx (s:B8) (st:St) (K:Bool->B8->Int->Int->St->Prop) (h:Ad PR Ba [.str s,.str UC] [.one .bool] st (fun (b1:Bool) a2=>∃(C1:B8->Bool->Bool->B8->Int->St->Prop),(BIf b1 (((0<=(1:Int)/\(1:Int)<=(s.length:Int))/\C1 ((List.drop (Int.toNat (1:Int)) s)) b1 false [] 0 a2)) (C1 s b1 false [] 0 a2))/\∀l m b2 s1 n1 a3,C1 l m b2 s1 n1 a3->(Ad PR Dt [.str l] [.one (.int .i64)] a3 (fun (n2:Int) v=>∃(C2:B8->Bool->Int->Bool->B8->Int->St->Prop),(BId (n2=0) (K false [] 0 3 v) (BId ((1:Int)<n2) (((0<=(0:Int)/\(0:Int)<(l.length:Int))/\BId (((List.getD l (Int.toNat (0:Int)) 0).toNat:Int)=(48:Int)) (K false [] 0 3 v) (C2 l m n2 b2 s1 n1 v))) (C2 l m n2 b2 s1 n1 v)))/\∀b n a b3 s2 n3 a1,C2 b n a b3 s2 n3 a1->(((0<=a/\a<=(b.length:Int))/\((0<=a/\a<=(b.length:Int))/\∃(C3:B8->B8->Int->Bool->Bool->B8->Int->St->Prop),(Ad PR Ba [(.str (List.drop a.toNat b)),.str str16] [.one .bool] a1 (fun (b4:Bool) a4=>BIf b4 (((0<=(1:Int)/\(1:Int)<=(((List.drop a.toNat b)).length:Int))/\Ad PR Dt [(.str (List.drop (Int.toNat (1:Int)) (List.drop a.toNat b)))] [.one (.int .i64)] a4 (fun (n4:Int) a5=>BId (n4=0) (K false [] 0 3 a5) (((0<=(1:Int)/\(1:Int)<=(i64.wrap (n4+(1:Int)))/\(i64.wrap (n4+(1:Int)))<=(((List.drop a.toNat b)).length:Int))/\(((List.take a.toNat b)).length+((List.drop (Int.toNat (1:Int)) (List.take (Int.toNat (i64.wrap (n4+(1:Int)))) (List.drop a.toNat b)))).length<=9223372036854775807/\((0<=(i64.wrap (n4+(1:Int)))/\(i64.wrap (n4+(1:Int)))<=(((List.drop a.toNat b)).length:Int))/\C3 ((List.drop (Int.toNat (i64.wrap (n4+(1:Int)))) (List.drop a.toNat b))) (((List.take a.toNat b)++(List.drop (Int.toNat (1:Int)) (List.take (Int.toNat (i64.wrap (n4+(1:Int)))) (List.drop a.toNat b))))) ((i64.wrap (0-n4))) n b3 s2 n3 a5))))))) (C3 ((List.drop a.toNat b)) ((List.take a.toNat b)) 0 n b3 s2 n3 a4)))/\∀d i j k b5 s3 n5 q,C3 d i j k b5 s3 n5 q->(BId (d≠([]:B8)) (∃(C4:B8->Bool->B8->Int->Bool->B8->Int->St->Prop),(((0<=(0:Int)/\(0:Int)<(d.length:Int))/\BId (((List.getD d (Int.toNat (0:Int)) 0).toNat:Int)≠(101:Int)) (((0<=(0:Int)/\(0:Int)<(d.length:Int))/\BId (((List.getD d (Int.toNat (0:Int)) 0).toNat:Int)≠(69:Int)) (K false [] 0 3 q) (C4 d k i j b5 s3 n5 q))) (C4 d k i j b5 s3 n5 q)))/\∀c e g f b6 s4 n6 z,C4 c e g f b6 s4 n6 z->(((0<=(1:Int)/\(1:Int)<=(c.length:Int))/\Ad PR Ba [(.str (List.drop (Int.toNat (1:Int)) c)),.str UC] [.one .bool] z (fun (b7:Bool) a0=>∃(C5:B8->Bool->B8->Int->Bool->Bool->B8->Int->St->Prop),(BIf b7 (((0<=(1:Int)/\(1:Int)<=(((List.drop (Int.toNat (1:Int)) c)).length:Int))/\C5 ((List.drop (Int.toNat (1:Int)) (List.drop (Int.toNat (1:Int)) c))) e g f b7 b6 s4 n6 a0)) (Ad PR Ba [(.str (List.drop (Int.toNat (1:Int)) c)),.str str20] [.one .bool] a0 (fun (b8:Bool) x=>BIf b8 (((0<=(1:Int)/\(1:Int)<=(((List.drop (Int.toNat (1:Int)) c)).length:Int))/\C5 ((List.drop (Int.toNat (1:Int)) (List.drop (Int.toNat (1:Int)) c))) e g f b7 b6 s4 n6 x)) (C5 ((List.drop (Int.toNat (1:Int)) c)) e g f b7 b6 s4 n6 x))))/\∀p t u w o b9 s5 n7 r,C5 p t u w o b9 s5 n7 r->(BId (p=([]:B8)) (K false [] 0 3 r) (Ad PR Dt [.str p] [.one (.int .i64)] r (fun (n8:Int) y=>BId (n8≠(p.length:Int)) (K false [] 0 3 y) (Ad PR DK [.str p,.str Wu] [.one .str] y (fun (s6:B8) a8=>Ad PR EO [.int .i64 w,.bool o,.str s6] [.one (.int .i64)] a8 (fun (n9:Int) a9=>Ad PR CU [.bool t,.str u,.int .i64 n9] [.agg [.bool,.str,.int .i64],.one (.int .i64)] a9 (fun (c0:Bool) (s7:B8) (c3 c1:Int) a6=>K c0 s7 c3 c1 a6))))))))))) (Ad PR CU [.bool k,.str i,.int .i64 j] [.agg [.bool,.str,.int .i64],.one (.int .i64)] q (fun (c2:Bool) (s8:B8) (c4 b0:Int) a7=>K c2 s8 c4 b0 a7)))))))))):Ad PR CD [.str s] [.agg [.bool,.str,.int .i64],.one (.int .i64)] st K:=
 Ai (cfg:=⟨[2],[],[]⟩) (h:=(.seq .none (.seq .none (.cut ⟨[(0,.str),(4,.bool)],[(2,0,0)],[(0,3)],[(0,0,.bool),(0,1,.str),(0,2,.int .i64)]⟩ .none (.seq .none (.cut ⟨[(0,.str),(4,.bool),(5,.int .i64)],[(2,0,0)],[(0,3)],[(0,0,.bool),(0,1,.str),(0,2,.int .i64)]⟩ .none (.seq .none (.seq .none (.seq .none (.cut ⟨[(0,.str),(6,.str),(7,.int .i64),(4,.bool)],[(2,0,0)],[(0,3)],[(0,0,.bool),(0,1,.str),(0,2,.int .i64)]⟩ .none (.seq (.seq .none (.cond (.cut ⟨[(0,.str),(4,.bool),(6,.str),(7,.int .i64)],[(2,0,0)],[(0,3)],[(0,0,.bool),(0,1,.str),(0,2,.int .i64)]⟩ .none (.seq .none (.seq .none (.cut ⟨[(0,.str),(4,.bool),(6,.str),(7,.int .i64),(8,.bool)],[(2,0,0)],[(0,3)],[(0,0,.bool),(0,1,.str),(0,2,.int .i64)]⟩ .none .none)))) .none)) .none))))))))))) mixed (fun _ _=>Tryz.call96 _ _) Tryz.func96 (by kernel_rfl) (by kernel_rfl) h
theorem P0 (d_0:Bool) (d_1:B8) (d_2:Int) (st:St) (K:V13 (St->Prop)) (h:K 2 false d_0 d_1 d_2 0 0 0 0 [] .nilSlice .nilSlice .nilSlice st):Ad PR FC [(.agg [.bool d_0,.str d_1,.int .i64 d_2])] [sV] st K:=
 Ai (cfg:=⟨[1,2],[],[]⟩) (h:= .none) mixed (fun _ _=>Tryz.call97 _ _) Tryz.func97 (by kernel_rfl) (by kernel_rfl) h
theorem MI (s:B8) (st:St) (K:Int->Int->Int->Int->Int->St->Prop) (h:Ad PR Db [(.box st.nb 0),(.box (st.push (.cells [.str s,.bool false]) (some 220)).nb 0)] [.one (.int .i64)] ((st.push (.cells [.str s,.bool false]) (some 220)).push (.cells [.int .i64 0,.int .i64 0,.int .i64 0,.int .i64 0,.int .i64 0,.int .i64 0,.int .i64 0,.int .u8 0,.int .i64 0,.int .i64 0]) (some 222)) (fun (n1:Int) a=>Ah (Ac a [] (.t (.box st.nb 1)) 0) (fun (x1:TV)=>Ak .bool x1 (fun (b1:Bool)=>BIf b1 (K 0 0 0 0 3 a) (Ah (Ac a [] (.t (.box st.nb 0)) 0) (fun (x2:TV)=>Ak .str x2 (fun (s1:B8)=>BId (s1≠([]:B8)) (K 0 0 0 0 3 a) (BId (n1≠2) (Ah (Ac a [] (.t (.box (st.push (.cells [.str s,.bool false]) (some 220)).nb 0)) 0) (fun (x3:TV)=>Ak (.int .i64) x3 (fun (n2:Int)=>Ah (Ac a [] (.t (.box (st.push (.cells [.str s,.bool false]) (some 220)).nb 1)) 0) (fun (x4:TV)=>Ak (.int .i64) x4 (fun (n3:Int)=>Ah (Ac a [] (.t (.box (st.push (.cells [.str s,.bool false]) (some 220)).nb 2)) 0) (fun (x5:TV)=>Ak (.int .i64) x5 (fun (n4:Int)=>Ad PR Ff [.int .i64 n2,.int .i64 n3,.int .i64 n4] [.one (.int .i64),.one (.int .i64)] a (fun (n5 n6:Int) b=>BId (n6≠0) (K 0 0 0 0 2 b) (Ah (Ac b [] (.t (.box (st.push (.cells [.str s,.bool false]) (some 220)).nb 3)) 0) (fun (x6:TV)=>Ak (.int .i64) x6 (fun (n7:Int)=>BId ((23:Int)<n7) (K 0 0 0 0 2 b) (Ah (Ac b [] (.t (.box (st.push (.cells [.str s,.bool false]) (some 220)).nb 4)) 0) (fun (x7:TV)=>Ak (.int .i64) x7 (fun (n8:Int)=>BId ((59:Int)<n8) (K 0 0 0 0 2 b) (Ah (Ac b [] (.t (.box (st.push (.cells [.str s,.bool false]) (some 220)).nb 5)) 0) (fun (x8:TV)=>Ak (.int .i64) x8 (fun (n9:Int)=>BId ((59:Int)<n9) (K 0 0 0 0 2 b) (Ah (Ac b [] (.t (.box (st.push (.cells [.str s,.bool false]) (some 220)).nb 8)) 0) (fun (x9:TV)=>Ak (.int .i64) x9 (fun (a7:Int)=>BId ((23:Int)<a7) (K 0 0 0 0 2 b) (Ah (Ac b [] (.t (.box (st.push (.cells [.str s,.bool false]) (some 220)).nb 9)) 0) (fun (u:TV)=>Ak (.int .i64) u (fun (a2:Int)=>BId ((59:Int)<a2) (K 0 0 0 0 2 b) (Ah (Ac b [] (.t (.box (st.push (.cells [.str s,.bool false]) (some 220)).nb 3)) 0) (fun (b6:TV)=>Ak (.int .i64) b6 (fun (m:Int)=>Ah (Ac b [] (.t (.box (st.push (.cells [.str s,.bool false]) (some 220)).nb 4)) 0) (fun (a5:TV)=>Ak (.int .i64) a5 (fun (i:Int)=>Ah (Ac b [] (.t (.box (st.push (.cells [.str s,.bool false]) (some 220)).nb 5)) 0) (fun (b7:TV)=>Ak (.int .i64) b7 (fun (c:Int)=>Ah (Ac b [] (.t (.box (st.push (.cells [.str s,.bool false]) (some 220)).nb 6)) 0) (fun (a4:TV)=>Ak (.int .i64) a4 (fun (o:Int)=>Ah (Ac b [] (.t (.box (st.push (.cells [.str s,.bool false]) (some 220)).nb 8)) 0) (fun (r:TV)=>Ak (.int .i64) r (fun (f:Int)=>Ah (Ac b [] (.t (.box (st.push (.cells [.str s,.bool false]) (some 220)).nb 9)) 0) (fun (b5:TV)=>Ak (.int .i64) b5 (fun (e:Int)=>Ah (Ac b [] (.t (.box (st.push (.cells [.str s,.bool false]) (some 220)).nb 7)) 0) (fun (a1:TV)=>Ak (.int .u8) a1 (fun (a6:Int)=>BId (a6=45) (K n1 n5 ((i64.wrap ((i64.wrap ((i64.wrap ((i64.wrap ((i64.wrap ((i64.wrap (m*(60:Int)))+i))*(60:Int)))+c))*(1000000000:Int)))+o))) ((i64.wrap (0-(i64.wrap ((i64.wrap (f*(60:Int)))+e))))) 0 b) (K n1 n5 ((i64.wrap ((i64.wrap ((i64.wrap ((i64.wrap ((i64.wrap ((i64.wrap (m*(60:Int)))+i))*(60:Int)))+c))*(1000000000:Int)))+o))) ((i64.wrap ((i64.wrap (f*(60:Int)))+e))) 0 b))))))))))))))))))))))))))))))))))))))) (Ah (Ac a [] (.t (.box (st.push (.cells [.str s,.bool false]) (some 220)).nb 3)) 0) (fun (v:TV)=>Ak (.int .i64) v (fun (a8:Int)=>BId ((23:Int)<a8) (K 0 0 0 0 2 a) (Ah (Ac a [] (.t (.box (st.push (.cells [.str s,.bool false]) (some 220)).nb 4)) 0) (fun (b4:TV)=>Ak (.int .i64) b4 (fun (b3:Int)=>BId ((59:Int)<b3) (K 0 0 0 0 2 a) (Ah (Ac a [] (.t (.box (st.push (.cells [.str s,.bool false]) (some 220)).nb 5)) 0) (fun (y:TV)=>Ak (.int .i64) y (fun (p:Int)=>BId ((59:Int)<p) (K 0 0 0 0 2 a) (Ah (Ac a [] (.t (.box (st.push (.cells [.str s,.bool false]) (some 220)).nb 8)) 0) (fun (w:TV)=>Ak (.int .i64) w (fun (a3:Int)=>BId ((23:Int)<a3) (K 0 0 0 0 2 a) (Ah (Ac a [] (.t (.box (st.push (.cells [.str s,.bool false]) (some 220)).nb 9)) 0) (fun (b0:TV)=>Ak (.int .i64) b0 (fun (a0:Int)=>BId ((59:Int)<a0) (K 0 0 0 0 2 a) (Ah (Ac a [] (.t (.box (st.push (.cells [.str s,.bool false]) (some 220)).nb 3)) 0) (fun (b8:TV)=>Ak (.int .i64) b8 (fun (d:Int)=>Ah (Ac a [] (.t (.box (st.push (.cells [.str s,.bool false]) (some 220)).nb 4)) 0) (fun (z:TV)=>Ak (.int .i64) z (fun (n:Int)=>Ah (Ac a [] (.t (.box (st.push (.cells [.str s,.bool false]) (some 220)).nb 5)) 0) (fun (x:TV)=>Ak (.int .i64) x (fun (k:Int)=>Ah (Ac a [] (.t (.box (st.push (.cells [.str s,.bool false]) (some 220)).nb 6)) 0) (fun (a9:TV)=>Ak (.int .i64) a9 (fun (l:Int)=>Ah (Ac a [] (.t (.box (st.push (.cells [.str s,.bool false]) (some 220)).nb 8)) 0) (fun (c0:TV)=>Ak (.int .i64) c0 (fun (g:Int)=>Ah (Ac a [] (.t (.box (st.push (.cells [.str s,.bool false]) (some 220)).nb 9)) 0) (fun (b9:TV)=>Ak (.int .i64) b9 (fun (j:Int)=>Ah (Ac a [] (.t (.box (st.push (.cells [.str s,.bool false]) (some 220)).nb 7)) 0) (fun (q:TV)=>Ak (.int .u8) q (fun (b2:Int)=>BId (b2=45) (K n1 0 ((i64.wrap ((i64.wrap ((i64.wrap ((i64.wrap ((i64.wrap ((i64.wrap (d*(60:Int)))+n))*(60:Int)))+k))*(1000000000:Int)))+l))) ((i64.wrap (0-(i64.wrap ((i64.wrap (g*(60:Int)))+j))))) 0 a) (K n1 0 ((i64.wrap ((i64.wrap ((i64.wrap ((i64.wrap ((i64.wrap ((i64.wrap (d*(60:Int)))+n))*(60:Int)))+k))*(1000000000:Int)))+l))) ((i64.wrap ((i64.wrap (g*(60:Int)))+j))) 0 a))))))))))))))))))))))))))))))))))))))):Ad PR CT [.str s] [.agg [.int .i64,.int .i64,.int .i64,.int .i64],.one (.int .i64)] st K:=
 Ai (cfg:=⟨[2,7],[],[]⟩) (h:= .none) mixed (fun _ _=>Tryz.call98 _ _) Tryz.func98 (by kernel_rfl) (by kernel_rfl) h
theorem OH (t_0:Int) (t_1:Int) (t_2:Int) (t_3:Int) (st:St) (K:V13 (St->Prop)) (h:K 3 false false [] 0 t_0 t_1 t_2 t_3 [] .nilSlice .nilSlice .nilSlice st):Ad PR ET [(.agg [.int .i64 t_0,.int .i64 t_1,.int .i64 t_2,.int .i64 t_3])] [sV] st K:=
 Ai (cfg:=⟨[1,2],[],[]⟩) (h:= .none) mixed (fun _ _=>Tryz.call99 _ _) Tryz.func99 (by kernel_rfl) (by kernel_rfl) h
theorem GH (s:B8) (st:St) (K:Bool->Bool->St->Prop) (h:∃(C1:Int->B8->St->Prop),(BId ((0:Int)<(s.length:Int)) (((0<=(0:Int)/\(0:Int)<(s.length:Int))/\BId (((List.getD s (Int.toNat (0:Int)) 0).toNat:Int)=(45:Int)) (C1 ((i64.wrap ((0:Int)+(1:Int)))) s st) (C1 0 s st))) (C1 0 s st))/\∀f g o,C1 f g o->(BId (f=(g.length:Int)) (K false true o) (Ad PR AD [.str g,.int .i64 f] [.one (.int .i64)] o (fun (n1:Int) j=>∃(C2:B8->Int->St->Prop),(BId (n1=f) (K false false j) (((0<=f/\f<(g.length:Int))/\BId (((List.getD g f.toNat 0).toNat:Int)=(48:Int)) (BId ((i64.wrap (f+(1:Int)))<n1) (K false false j) (C2 g n1 j)) (C2 g n1 j))))/\∀d e k,C2 d e k->(∃(C3:Int->B8->St->Prop),(BId (e<(d.length:Int)) (((0<=e/\e<(d.length:Int))/\BId (((List.getD d e.toNat 0).toNat:Int)=(46:Int)) (Ad PR AD [.str d,(.int .i64 (i64.wrap (e+(1:Int))))] [.one (.int .i64)] k (fun (n2:Int) t=>BId (n2=(i64.wrap (e+(1:Int)))) (K false ((decide (n2=(d.length:Int)))) t) (C3 n2 d t))) (C3 e d k))) (C3 e d k))/\∀b a c,C3 b a c->(BId (b<(a.length:Int)) (((0<=b/\b<(a.length:Int))/\BId (((List.getD a b.toNat 0).toNat:Int)=(101:Int)) (BId ((i64.wrap (b+(1:Int)))<(a.length:Int)) (((0<=(i64.wrap (b+(1:Int)))/\(i64.wrap (b+(1:Int)))<(a.length:Int))/\BId (((List.getD a (Int.toNat (i64.wrap (b+(1:Int)))) 0).toNat:Int)=(43:Int)) (Ad PR AD [.str a,(.int .i64 (i64.wrap ((i64.wrap (b+(1:Int)))+(1:Int))))] [.one (.int .i64)] c (fun (n3:Int) v=>BId (n3=(i64.wrap ((i64.wrap (b+(1:Int)))+(1:Int)))) (K false ((decide (n3=(a.length:Int)))) v) (K ((decide (n3=(a.length:Int)))) ((decide (n3=(a.length:Int)))) v))) (((0<=(i64.wrap (b+(1:Int)))/\(i64.wrap (b+(1:Int)))<(a.length:Int))/\BId (((List.getD a (Int.toNat (i64.wrap (b+(1:Int)))) 0).toNat:Int)=(45:Int)) (Ad PR AD [.str a,(.int .i64 (i64.wrap ((i64.wrap (b+(1:Int)))+(1:Int))))] [.one (.int .i64)] c (fun (n4:Int) u=>BId (n4=(i64.wrap ((i64.wrap (b+(1:Int)))+(1:Int)))) (K false ((decide (n4=(a.length:Int)))) u) (K ((decide (n4=(a.length:Int)))) ((decide (n4=(a.length:Int)))) u))) (Ad PR AD [.str a,(.int .i64 (i64.wrap (b+(1:Int))))] [.one (.int .i64)] c (fun (n5:Int) q=>BId (n5=(i64.wrap (b+(1:Int)))) (K false ((decide (n5=(a.length:Int)))) q) (K ((decide (n5=(a.length:Int)))) ((decide (n5=(a.length:Int)))) q))))))) (Ad PR AD [.str a,(.int .i64 (i64.wrap (b+(1:Int))))] [.one (.int .i64)] c (fun (n6:Int) r=>BId (n6=(i64.wrap (b+(1:Int)))) (K false ((decide (n6=(a.length:Int)))) r) (K ((decide (n6=(a.length:Int)))) ((decide (n6=(a.length:Int)))) r)))) (((0<=b/\b<(a.length:Int))/\BId (((List.getD a b.toNat 0).toNat:Int)=(69:Int)) (BId ((i64.wrap (b+(1:Int)))<(a.length:Int)) (((0<=(i64.wrap (b+(1:Int)))/\(i64.wrap (b+(1:Int)))<(a.length:Int))/\BId (((List.getD a (Int.toNat (i64.wrap (b+(1:Int)))) 0).toNat:Int)=(43:Int)) (Ad PR AD [.str a,(.int .i64 (i64.wrap ((i64.wrap (b+(1:Int)))+(1:Int))))] [.one (.int .i64)] c (fun (n7:Int) n=>BId (n7=(i64.wrap ((i64.wrap (b+(1:Int)))+(1:Int)))) (K false ((decide (n7=(a.length:Int)))) n) (K ((decide (n7=(a.length:Int)))) ((decide (n7=(a.length:Int)))) n))) (((0<=(i64.wrap (b+(1:Int)))/\(i64.wrap (b+(1:Int)))<(a.length:Int))/\BId (((List.getD a (Int.toNat (i64.wrap (b+(1:Int)))) 0).toNat:Int)=(45:Int)) (Ad PR AD [.str a,(.int .i64 (i64.wrap ((i64.wrap (b+(1:Int)))+(1:Int))))] [.one (.int .i64)] c (fun (n8:Int) l=>BId (n8=(i64.wrap ((i64.wrap (b+(1:Int)))+(1:Int)))) (K false ((decide (n8=(a.length:Int)))) l) (K ((decide (n8=(a.length:Int)))) ((decide (n8=(a.length:Int)))) l))) (Ad PR AD [.str a,(.int .i64 (i64.wrap (b+(1:Int))))] [.one (.int .i64)] c (fun (n9:Int) p=>BId (n9=(i64.wrap (b+(1:Int)))) (K false ((decide (n9=(a.length:Int)))) p) (K ((decide (n9=(a.length:Int)))) ((decide (n9=(a.length:Int)))) p))))))) (Ad PR AD [.str a,(.int .i64 (i64.wrap (b+(1:Int))))] [.one (.int .i64)] c (fun (i:Int) m=>BId (i=(i64.wrap (b+(1:Int)))) (K false ((decide (i=(a.length:Int)))) m) (K ((decide (i=(a.length:Int)))) ((decide (i=(a.length:Int)))) m)))) (K ((decide (b=(a.length:Int)))) ((decide (b=(a.length:Int)))) c))))) (K ((decide (b=(a.length:Int)))) ((decide (b=(a.length:Int)))) c))))))):Ad PR Cr [.str s] [.one .bool,.one .bool] st K:=
 Ai (cfg:=⟨[],[],[]⟩) (h:=(.seq .none (.seq .none (.cut ⟨[(4,.int .i64),(0,.str)],[],[],[]⟩ .none (.seq .none (.seq .none (.cut ⟨[(0,.str),(5,.int .i64)],[],[],[]⟩ .none (.seq .none (.cut ⟨[(4,.int .i64),(0,.str)],[],[],[]⟩ .none .none))))))))) mixed (fun _ _=>Tryz.call100 _ _) Tryz.func100 (by kernel_rfl) (by kernel_rfl) h
theorem Ih (s:B8) (st:St) (K:Bool->B8->Int->Int->St->Prop) (h:∃(C1:Int->B8->Bool->B8->Int->St->Prop),(BId ((0:Int)<(s.length:Int)) (((0<=(0:Int)/\(0:Int)<(s.length:Int))/\BId (((List.getD s (Int.toNat (0:Int)) 0).toNat:Int)=(45:Int)) (C1 1 s false [] 0 st) (C1 0 s false [] 0 st))) (C1 0 s false [] 0 st))/\∀f a0 b1 s1 n1 d8,C1 f a0 b1 s1 n1 d8->(Ad PR BN [.str a0,.int .i64 f] [.one (.int .i64)] d8 (fun (n2:Int) c5=>∃(C2:B8->Int->Bool->Int->Bool->B8->Int->St->Prop),(BId (n2=f) (K false [] 0 3 c5) (((0<=f/\f<(a0.length:Int))/\BId (((List.getD a0 f.toNat 0).toNat:Int)=(48:Int)) (BId ((i64.wrap (f+(1:Int)))<n2) (K false [] 0 3 c5) (C2 a0 f ((decide (f=1))) n2 b1 s1 n1 c5)) (C2 a0 f ((decide (f=1))) n2 b1 s1 n1 c5))))/\∀p a9 a4 i b2 s2 n3 d0,C2 p a9 a4 i b2 s2 n3 d0->(((0<=a9/\a9<=i/\i<=(p.length:Int))/\∃(C3:Int->B8->Int->B8->Bool->Bool->B8->Int->St->Prop),(∃(C4:Bool->B8->Bool->Int->B8->Int->Bool->B8->Int->St->Prop),(BId (i<(p.length:Int)) (((0<=i/\i<(p.length:Int))/\C4 ((decide (((List.getD p i.toNat 0).toNat:Int)=(46:Int)))) p a4 i ((List.drop a9.toNat (List.take i.toNat p))) 0 b2 s2 n3 d0)) (C4 false p a4 i ((List.drop a9.toNat (List.take i.toNat p))) 0 b2 s2 n3 d0))/\∀d1 z a7 n b c4 b3 s3 n4 c8,C4 d1 z a7 n b c4 b3 s3 n4 c8->(BIf d1 (Ad PR BN [.str z,(.int .i64 (i64.wrap (n+(1:Int))))] [.one (.int .i64)] c8 (fun (n5:Int) d4=>BId (n5=(i64.wrap (n+(1:Int)))) (K false [] 0 3 d4) (((0<=(i64.wrap (n+(1:Int)))/\(i64.wrap (n+(1:Int)))<=n5/\n5<=(z.length:Int))/\(b.length+((List.drop (Int.toNat (i64.wrap (n+(1:Int)))) (List.take n5.toNat z))).length<=9223372036854775807/\C3 n5 ((b++(List.drop (Int.toNat (i64.wrap (n+(1:Int)))) (List.take n5.toNat z)))) ((i64.wrap ((i64.wrap (n+(1:Int)))-n5))) z a7 b3 s3 n4 d4))))) (C3 n b c4 z a7 b3 s3 n4 c8)))/\∀g d u m w b4 s4 n6 c6,C3 g d u m w b4 s4 n6 c6->(∃(C5:Int->Int->B8->Bool->B8->Bool->B8->Int->St->Prop),(∃(C6:Bool->B8->Bool->Int->B8->Int->Bool->B8->Int->St->Prop),(BId (g<(m.length:Int)) (((0<=g/\g<(m.length:Int))/\BId (((List.getD m g.toNat 0).toNat:Int)=(101:Int)) (C6 true m w g d u b4 s4 n6 c6) (((0<=g/\g<(m.length:Int))/\C6 ((decide (((List.getD m g.toNat 0).toNat:Int)=(69:Int)))) m w g d u b4 s4 n6 c6)))) (C6 false m w g d u b4 s4 n6 c6))/\∀d3 x t r c v b5 s5 n7 c3,C6 d3 x t r c v b5 s5 n7 c3->(BIf d3 (∃(C7:Bool->B8->Bool->Int->B8->Int->Bool->B8->Int->St->Prop),(BId ((i64.wrap (r+(1:Int)))<(x.length:Int)) (((0<=(i64.wrap (r+(1:Int)))/\(i64.wrap (r+(1:Int)))<(x.length:Int))/\C7 ((decide (((List.getD x (Int.toNat (i64.wrap (r+(1:Int)))) 0).toNat:Int)=(45:Int)))) x t ((i64.wrap (r+(1:Int)))) c v b5 s5 n7 c3)) (C7 false x t ((i64.wrap (r+(1:Int)))) c v b5 s5 n7 c3))/\∀j k o e a q b6 s6 n8 a8,C7 j k o e a q b6 s6 n8 a8->(∃(C8:Int->B8->Bool->B8->Int->Bool->Bool->B8->Int->St->Prop),(BId (e<(k.length:Int)) (((0<=e/\e<(k.length:Int))/\BId (((List.getD k e.toNat 0).toNat:Int)=(45:Int)) (C8 ((i64.wrap (e+(1:Int)))) k o a q j b6 s6 n8 a8) (((0<=e/\e<(k.length:Int))/\BId (((List.getD k e.toNat 0).toNat:Int)=(43:Int)) (C8 ((i64.wrap (e+(1:Int)))) k o a q j b6 s6 n8 a8) (C8 e k o a q j b6 s6 n8 a8))))) (C8 e k o a q j b6 s6 n8 a8))/\∀a1 a3 a5 l a6 b0 b7 s7 n9 d6,C8 a1 a3 a5 l a6 b0 b7 s7 n9 d6->(Ad PR BN [.str a3,.int .i64 a1] [.one (.int .i64)] d6 (fun (a2:Int) c9=>BId (a2=a1) (K false [] 0 3 c9) (((0<=a1/\a1<=a2/\a2<=(a3.length:Int))/\Ad PR De [(.str (List.drop a1.toNat (List.take a2.toNat a3)))] [.one (.int .i64)] c9 (fun (d5:Int) c7=>BIf b0 (C5 a2 ((i64.wrap (a6+(i64.wrap (0-d5))))) a3 a5 l b7 s7 n9 c7) (C5 a2 ((i64.wrap (a6+d5))) a3 a5 l b7 s7 n9 c7)))))))) (C5 r v x t c b5 s5 n7 c3)))/\∀d2 c2 d7 c1 y b8 s8 e2 c0,C5 d2 c2 d7 c1 y b8 s8 e2 c0->(BId (d2<(d7.length:Int)) (K false [] 0 3 c0) (Ad PR CQ [.bool c1,.str y,.int .i64 c2] [.agg [.bool,.str,.int .i64],.one (.int .i64)] c0 (fun (b9:Bool) (s9:B8) (e1 e0:Int) d9=>K b9 s9 e1 e0 d9))))))))):Ad PR Df [.str s] [.agg [.bool,.str,.int .i64],.one (.int .i64)] st K:=
 Ai (cfg:=⟨[2],[],[]⟩) (h:=(.seq .none (.seq .none (.cut ⟨[(4,.int .i64),(0,.str)],[(2,0,0)],[(0,3)],[(0,0,.bool),(0,1,.str),(0,2,.int .i64)]⟩ .none (.seq .none (.seq .none (.cut ⟨[(0,.str),(4,.int .i64),(5,.bool),(6,.int .i64)],[(2,0,0)],[(0,3)],[(0,0,.bool),(0,1,.str),(0,2,.int .i64)]⟩ .none (.seq .none (.seq .none (.cut ⟨[(6,.int .i64),(7,.str),(8,.int .i64),(0,.str),(5,.bool)],[(2,0,0)],[(0,3)],[(0,0,.bool),(0,1,.str),(0,2,.int .i64)]⟩ (.cut ⟨[(55,.bool),(0,.str),(5,.bool),(6,.int .i64),(7,.str),(8,.int .i64)],[(2,0,0)],[(0,3)],[(0,0,.bool),(0,1,.str),(0,2,.int .i64)]⟩ .none .none) (.cut ⟨[(6,.int .i64),(8,.int .i64),(0,.str),(5,.bool),(7,.str)],[(2,0,0)],[(0,3)],[(0,0,.bool),(0,1,.str),(0,2,.int .i64)]⟩ (.cut ⟨[(92,.bool),(0,.str),(5,.bool),(6,.int .i64),(7,.str),(8,.int .i64)],[(2,0,0)],[(0,3)],[(0,0,.bool),(0,1,.str),(0,2,.int .i64)]⟩ .none (.cond (.seq .none (.cut ⟨[(10,.bool),(0,.str),(5,.bool),(6,.int .i64),(7,.str),(8,.int .i64)],[(2,0,0)],[(0,3)],[(0,0,.bool),(0,1,.str),(0,2,.int .i64)]⟩ .none (.cut ⟨[(6,.int .i64),(0,.str),(5,.bool),(7,.str),(8,.int .i64),(10,.bool)],[(2,0,0)],[(0,3)],[(0,0,.bool),(0,1,.str),(0,2,.int .i64)]⟩ .none .none))) .none)) .none))))))))))) mixed (fun _ _=>Tryz.call101 _ _) Tryz.func101 (by kernel_rfl) (by kernel_rfl) h
theorem Ie (s:B8) (st:St) (K:Int->Int->Int->Int->Int->St->Prop) (h:Ad PR Bm [.str s,.str str21] [.one .bool] st (fun (b1:Bool) k=>BIf (!b1) (Ad PR AT [.str s] [.one (.int .i64),.one .str,.one .bool,.one .bool] k (fun (n1:Int) (s1:B8) (b2 b3:Bool) i=>BIf (!b2) (K 0 0 0 0 3 i) (BId (s1≠([]:B8)) (K 0 0 0 0 3 i) (BIf (!b3) (K 0 0 0 0 2 i) (K 2 0 n1 0 0 i))))) (((0<=(4:Int)/\(4:Int)<=(s.length:Int))/\((0<=(5:Int)/\(5:Int)<=(7:Int)/\(7:Int)<=(s.length:Int))/\((0<=(8:Int)/\(8:Int)<=(10:Int)/\(10:Int)<=(s.length:Int))/\Ad PR At [(.str (List.take (Int.toNat (4:Int)) s))] [.one (.int .i64)] k (fun (n2:Int) t=>Ad PR At [(.str (List.drop (Int.toNat (5:Int)) (List.take (Int.toNat (7:Int)) s)))] [.one (.int .i64)] t (fun (n3:Int) q=>Ad PR At [(.str (List.drop (Int.toNat (8:Int)) (List.take (Int.toNat (10:Int)) s)))] [.one (.int .i64)] q (fun (n4:Int) u=>Ad PR DM [.int .i64 n2,.int .i64 n3,.int .i64 n4] [.one (.int .i64),.one (.int .i64)] u (fun (n5 n6:Int) e=>((0<=(10:Int)/\(10:Int)<=(s.length:Int))/\BId ((List.drop (Int.toNat (10:Int)) s)=([]:B8)) (BId (n6≠0) (K 0 0 0 0 n6 e) (K 1 n5 0 0 0 e)) (((0<=(0:Int)/\(0:Int)<(((List.drop (Int.toNat (10:Int)) s)).length:Int))/\BId (((List.getD (List.drop (Int.toNat (10:Int)) s) (Int.toNat (0:Int)) 0).toNat:Int)≠(84:Int)) (((0<=(0:Int)/\(0:Int)<(((List.drop (Int.toNat (10:Int)) s)).length:Int))/\BId (((List.getD (List.drop (Int.toNat (10:Int)) s) (Int.toNat (0:Int)) 0).toNat:Int)≠(116:Int)) (((0<=(0:Int)/\(0:Int)<(((List.drop (Int.toNat (10:Int)) s)).length:Int))/\BId (((List.getD (List.drop (Int.toNat (10:Int)) s) (Int.toNat (0:Int)) 0).toNat:Int)≠(32:Int)) (K 0 0 0 0 3 e) (((0<=(1:Int)/\(1:Int)<=(((List.drop (Int.toNat (10:Int)) s)).length:Int))/\Ad PR AT [(.str (List.drop (Int.toNat (1:Int)) (List.drop (Int.toNat (10:Int)) s)))] [.one (.int .i64),.one .str,.one .bool,.one .bool] e (fun (n7:Int) (s2:B8) (b4 b5:Bool) g=>BIf (!b4) (K 0 0 0 0 3 g) (BId (s2≠([]:B8)) (Ad PR A1 [.str s2] [.one (.int .i64),.one .bool,.one .bool] g (fun (n8:Int) (b6 b7:Bool) d=>BIf (!b6) (K 0 0 0 0 3 d) (BIf b5 (BId (n6≠0) (K 0 0 0 0 2 d) (BIf (!b7) (K 0 0 0 0 2 d) (K 4 n5 n7 n8 0 d))) (BId (n6≠0) (K 0 0 0 0 2 d) (K 0 0 0 0 2 d))))) (BId (n6≠0) (K 0 0 0 0 2 g) (BIf (!b5) (K 0 0 0 0 2 g) (K 3 n5 n7 0 0 g))))))))) (((0<=(1:Int)/\(1:Int)<=(((List.drop (Int.toNat (10:Int)) s)).length:Int))/\Ad PR AT [(.str (List.drop (Int.toNat (1:Int)) (List.drop (Int.toNat (10:Int)) s)))] [.one (.int .i64),.one .str,.one .bool,.one .bool] e (fun (n9:Int) (s3:B8) (b8 b9:Bool) f=>BIf (!b8) (K 0 0 0 0 3 f) (BId (s3≠([]:B8)) (Ad PR A1 [.str s3] [.one (.int .i64),.one .bool,.one .bool] f (fun (r:Int) (o p:Bool) a=>BIf (!o) (K 0 0 0 0 3 a) (BIf b9 (BId (n6≠0) (K 0 0 0 0 2 a) (BIf (!p) (K 0 0 0 0 2 a) (K 4 n5 n9 r 0 a))) (BId (n6≠0) (K 0 0 0 0 2 a) (K 0 0 0 0 2 a))))) (BId (n6≠0) (K 0 0 0 0 2 f) (BIf (!b9) (K 0 0 0 0 2 f) (K 3 n5 n9 0 0 f))))))))) (((0<=(1:Int)/\(1:Int)<=(((List.drop (Int.toNat (10:Int)) s)).length:Int))/\Ad PR AT [(.str (List.drop (Int.toNat (1:Int)) (List.drop (Int.toNat (10:Int)) s)))] [.one (.int .i64),.one .str,.one .bool,.one .bool] e (fun (j:Int) (s4:B8) (m l:Bool) c=>BIf (!m) (K 0 0 0 0 3 c) (BId (s4≠([]:B8)) (Ad PR A1 [.str s4] [.one (.int .i64),.one .bool,.one .bool] c (fun (v:Int) (n w:Bool) b=>BIf (!n) (K 0 0 0 0 3 b) (BIf l (BId (n6≠0) (K 0 0 0 0 2 b) (BIf (!w) (K 0 0 0 0 2 b) (K 4 n5 j v 0 b))) (BId (n6≠0) (K 0 0 0 0 2 b) (K 0 0 0 0 2 b))))) (BId (n6≠0) (K 0 0 0 0 2 c) (BIf (!l) (K 0 0 0 0 2 c) (K 3 n5 j 0 0 c)))))))))))))))))))):Ad PR Dd [.str s] [.agg [.int .i64,.int .i64,.int .i64,.int .i64],.one (.int .i64)] st K:=
 Ai (cfg:=⟨[2,14],[],[]⟩) (h:= .none) mixed (fun _ _=>Tryz.call102 _ _) Tryz.func102 (by kernel_rfl) (by kernel_rfl) h
theorem J9 (n_0:Int) (n_1:B8) (n_2:B8) (n_3:TV) (n_4:B8) (d_0:Int) (d_1:Int) (d_2:Bool) (d_3:Bool) (st:St) (K:V13 (St->Prop)) (h:∃(I1:TV->Int->Int->B8->B8->TV->B8->Int->Int->Bool->Bool->V13 (V13 (St->Prop))) (M1:TV->Int->Int->B8->B8->TV->B8->Int->Int->Bool->Bool->V13 (V13 (St->Nat))),(I1 .nilSlice 0 n_0 n_1 n_2 n_3 n_4 d_0 d_1 d_2 d_3 0 false false [] 0 0 0 0 0 [] .nilSlice .nilSlice .nilSlice 6 false false [] 0 0 0 0 0 [] .nilSlice .nilSlice .nilSlice st)/\∀g e4 n1 s1 s2 v1 s3 n2 n3 b1 b2 n4 b3 b4 s4 n5 n6 n7 n8 n9 s5 v2 v3 v4 d9 b5 b6 s6 d5 d7 d8 d6 e0 s7 v5 v6 v7 g0,I1 g e4 n1 s1 s2 v1 s3 n2 n3 b1 b2 n4 b3 b4 s4 n5 n6 n7 n8 n9 s5 v2 v3 v4 d9 b5 b6 s6 d5 d7 d8 d6 e0 s7 v5 v6 v7 g0->(need (isSl v1) (BId (e4<(lenS v1:Int)) (∃(I2:TV->Int->TV->Int->Int->B8->B8->TV->B8->Int->Int->Bool->Bool->V13 (V13 (V13 (St->Prop)))) (M2:TV->Int->TV->Int->Int->B8->B8->TV->B8->Int->Int->Bool->Bool->V13 (V13 (V13 (St->Nat)))),(I2 .nilSlice 0 g e4 n1 s1 s2 v1 s3 n2 n3 b1 b2 n4 b3 b4 s4 n5 n6 n7 n8 n9 s5 v2 v3 v4 d9 b5 b6 s6 d5 d7 d8 d6 e0 s7 v5 v6 v7 6 false false [] 0 0 0 0 0 [] .nilSlice .nilSlice .nilSlice g0)/\∀e x a c i s8 s9 v8 y f d b7 b8 a0 b9 a5 z v a3 r k a4 p v9 l a6 a2 s o a9 a8 m j a7 a1 u n b0 q c1 c3 c4 c5 c7 c2 d1 c6 c9 d2 d0 d4 c8 w,I2 e x a c i s8 s9 v8 y f d b7 b8 a0 b9 a5 z v a3 r k a4 p v9 l a6 a2 s o a9 a8 m j a7 a1 u n b0 q c1 c3 c4 c5 c7 c2 d1 c6 c9 d2 d0 d4 c8 w->(((0<=c/\c<(lenZ 5 v8:Int))/\need (isPtr (ixT 5 v8 c.toNat)) (Ah (Ac w [] (.t (Af (ixT 5 v8 c.toNat) 3)) 0) (fun (q3:TV)=>need (isSl q3) (BId (x<(lenS q3:Int)) (((0<=c/\c<(lenZ 5 v8:Int))/\need (isPtr (ixT 5 v8 c.toNat)) (Ah (Ac w [] (.t (Af (ixT 5 v8 c.toNat) 3)) 0) (fun (l3:TV)=>((0<=x/\x<(lenZ 5 l3:Int))/\need (isPtr (ixT 5 l3 x.toNat)) (Ah (Ac w [] (.t (Af (ixT 5 l3 x.toNat) 3)) 0) (fun (l4:TV)=>((0<=(0:Int)/\(0:Int)<(lenZ 5 l4:Int))/\need (isPtr (ixT 5 l4 (Int.toNat (0:Int)))) (Ah (Ac w [] (.t (Af (ixT 5 l4 (Int.toNat (0:Int))) 2)) 0) (fun (x4:TV)=>Ak .str x4 (fun (k0:B8)=>Ad PR By [.str k0,(.agg [.int .u8 f,.int .u8 d,.bool b7,.bool b8])] [.one .str] w (fun (k7:B8) r2=>AG 9 1 16 e 1 [.str k7] r2 (fun (k3:TV) p3=>BId (k0≠([]:B8)) (((0<=(0:Int)/\(0:Int)<(k0.length:Int))/\Ad PR Cj [.str k7,(.bool (decide (((List.getD k0 (Int.toNat (0:Int)) 0).toNat:Int)=d))),(.agg [.int .u8 f,.int .u8 d,.bool b7,.bool b8])] [sV] p3 (fun (p4:Int) (r0 m6:Bool) (l8:B8) (q1 o6 o0 n0 m3:Int) (q6:B8) (o4 o2 l7:TV) r3=>need (List.all (cV p4 r0 m6 l8 q1 o6 o0 n0 m3 q6 o4 o2 l7) Aq) (AG 63 13 168 d4 1 (cV p4 r0 m6 l8 q1 o6 o0 n0 m3 q6 o4 o2 l7) r3 (fun (k9:TV) m9=>need (List.all [k9] Aq) ((I2 k3 ((i64.wrap (x+(1:Int)))) a c i s8 s9 v8 y f d b7 b8 a0 b9 a5 z v a3 r k a4 p v9 l a6 a2 s o a9 a8 m j a7 a1 u n b0 q c1 c3 c4 c5 c7 c2 d1 c6 c9 d2 d0 k9 c8 m9/\M2 k3 ((i64.wrap (x+(1:Int)))) a c i s8 s9 v8 y f d b7 b8 a0 b9 a5 z v a3 r k a4 p v9 l a6 a2 s o a9 a8 m j a7 a1 u n b0 q c1 c3 c4 c5 c7 c2 d1 c6 c9 d2 d0 k9 c8 m9<M2 e x a c i s8 s9 v8 y f d b7 b8 a0 b9 a5 z v a3 r k a4 p v9 l a6 a2 s o a9 a8 m j a7 a1 u n b0 q c1 c3 c4 c5 c7 c2 d1 c6 c9 d2 d0 d4 c8 w))))))) (Ad PR Cj [.str k7,.bool false,(.agg [.int .u8 f,.int .u8 d,.bool b7,.bool b8])] [sV] p3 (fun (m2:Int) (p0 p1:Bool) (l9:B8) (p6 p7 m0 m7 p8:Int) (q5:B8) (q9 o9 q7:TV) r1=>need (List.all (cV m2 p0 p1 l9 p6 p7 m0 m7 p8 q5 q9 o9 q7) Aq) (AG 63 13 168 d4 1 (cV m2 p0 p1 l9 p6 p7 m0 m7 p8 q5 q9 o9 q7) r1 (fun (l2:TV) q2=>need (List.all [l2] Aq) ((I2 k3 ((i64.wrap (x+(1:Int)))) a c i s8 s9 v8 y f d b7 b8 a0 b9 a5 z v a3 r k a4 p v9 l a6 a2 s o a9 a8 m j a7 a1 u n b0 q c1 c3 c4 c5 c7 c2 d1 c6 c9 d2 d0 l2 c8 q2/\M2 k3 ((i64.wrap (x+(1:Int)))) a c i s8 s9 v8 y f d b7 b8 a0 b9 a5 z v a3 r k a4 p v9 l a6 a2 s o a9 a8 m j a7 a1 u n b0 q c1 c3 c4 c5 c7 c2 d1 c6 c9 d2 d0 l2 c8 q2<M2 e x a c i s8 s9 v8 y f d b7 b8 a0 b9 a5 z v a3 r k a4 p v9 l a6 a2 s o a9 a8 m j a7 a1 u n b0 q c1 c3 c4 c5 c7 c2 d1 c6 c9 d2 d0 d4 c8 w))))))))))))))))))) (BIf (!b7) (need (List.all (cV c1 c3 c4 c5 c7 c2 d1 c6 c9 d2 d0 d4 c8) Aq) (AG 63 13 168 b0 1 (cV c1 c3 c4 c5 c7 c2 d1 c6 c9 d2 d0 d4 c8) w (fun (l5:TV) q4=>need (List.all [l5] Aq) ((I1 a ((i64.wrap (c+(1:Int)))) i s8 s9 v8 y f d b7 b8 a0 b9 a5 z v a3 r k a4 p v9 l a6 a2 s o a9 a8 m j a7 a1 u n l5 q q4/\M1 a ((i64.wrap (c+(1:Int)))) i s8 s9 v8 y f d b7 b8 a0 b9 a5 z v a3 r k a4 p v9 l a6 a2 s o a9 a8 m j a7 a1 u n l5 q q4<M1 g e4 n1 s1 s2 v1 s3 n2 n3 b1 b2 n4 b3 b4 s4 n5 n6 n7 n8 n9 s5 v2 v3 v4 d9 b5 b6 s6 d5 d7 d8 d6 e0 s7 v5 v6 v7 g0))))) (BId (c=0) ((I1 e ((i64.wrap (c+(1:Int)))) i s8 s9 v8 y f d b7 b8 a0 b9 a5 z v a3 r k a4 p v9 l a6 a2 s o a9 a8 m j a7 a1 u n b0 q w/\M1 e ((i64.wrap (c+(1:Int)))) i s8 s9 v8 y f d b7 b8 a0 b9 a5 z v a3 r k a4 p v9 l a6 a2 s o a9 a8 m j a7 a1 u n b0 q w<M1 g e4 n1 s1 s2 v1 s3 n2 n3 b1 b2 n4 b3 b4 s4 n5 n6 n7 n8 n9 s5 v2 v3 v4 d9 b5 b6 s6 d5 d7 d8 d6 e0 s7 v5 v6 v7 g0)) (∃(I3:Int->TV->Int->Int->B8->B8->TV->B8->Int->Int->Bool->Bool->V13 (V13 (V13 (V13 (St->Prop))))) (M3:Int->TV->Int->Int->B8->B8->TV->B8->Int->Int->Bool->Bool->V13 (V13 (V13 (V13 (St->Nat))))),(I3 0 a c i s8 s9 v8 y f d b7 b8 a0 b9 a5 z v a3 r k a4 p v9 l a6 a2 s o a9 a8 m j a7 a1 u n b0 q c1 c3 c4 c5 c7 c2 d1 c6 c9 d2 d0 d4 c8 7 false false [] 0 0 0 0 0 [] .nilSlice .nilSlice .nilSlice w)/\∀c0 b g3 f3 h1 g4 i2 e9 i8 f2 h5 e3 e2 f7 g6 h8 i9 h9 f1 i7 j0 i1 f9 i5 f4 h2 f6 f0 h4 e7 h3 e6 f8 e8 g5 i0 j1 h7 k1 j3 j8 k2 j6 k5 j4 k6 j7 j5 j9 g9 k4 i6 i3 e1 h6 h0 g8 i4 g2 g1 g7 e5 f5 j2 d3,I3 c0 b g3 f3 h1 g4 i2 e9 i8 f2 h5 e3 e2 f7 g6 h8 i9 h9 f1 i7 j0 i1 f9 i5 f4 h2 f6 f0 h4 e7 h3 e6 f8 e8 g5 i0 j1 h7 k1 j3 j8 k2 j6 k5 j4 k6 j7 j5 j9 g9 k4 i6 i3 e1 h6 h0 g8 i4 g2 g1 g7 e5 f5 j2 d3->(need (isSl b) (BId (c0<(lenS b:Int)) (((0<=c0/\c0<(lenZ 1 b:Int))/\Ah (Ac d3 [] (.t (ixT 1 b c0.toNat)) 0) (fun (x5:TV)=>Ak .str x5 (fun (o3:B8)=>((0<=c0/\c0<(lenZ 13 g9:Int))/\Ah ((Av d3 [] (.t (ixT 13 g9 c0.toNat)) 0 13).map TV.agg) (fun (x6:TV)=>DF [.int .i64,.bool,.bool,.str,.int .i64,.int .i64,.int .i64,.int .i64,.int .i64,.str,.tv,.tv,.tv] x6 (fun (m5:Int) (m4 o8:Bool) (o1:B8) (p5 q8 q0 m1 p9:Int) (o5:B8) (p2 o7 m8:TV)=>need (List.all [.str o3,.int .i64 m5,.bool m4,.bool o8,.str o1,.int .i64 p5,.int .i64 q8,.int .i64 q0,.int .i64 m1,.int .i64 p9,.str o5,p2,o7,m8] Aq) (AG 136 14 184 j2 1 [.str o3,.int .i64 m5,.bool m4,.bool o8,.str o1,.int .i64 p5,.int .i64 q8,.int .i64 q0,.int .i64 m1,.int .i64 p9,.str o5,p2,o7,m8] d3 (fun (l1:TV) k8=>need (List.all [l1] Aq) ((I3 ((i64.wrap (c0+(1:Int)))) b g3 f3 h1 g4 i2 e9 i8 f2 h5 e3 e2 f7 g6 h8 i9 h9 f1 i7 j0 i1 f9 i5 f4 h2 f6 f0 h4 e7 h3 e6 f8 e8 g5 i0 j1 h7 k1 j3 j8 k2 j6 k5 j4 k6 j7 j5 j9 g9 k4 i6 i3 e1 h6 h0 g8 i4 g2 g1 g7 e5 f5 l1 k8/\M3 ((i64.wrap (c0+(1:Int)))) b g3 f3 h1 g4 i2 e9 i8 f2 h5 e3 e2 f7 g6 h8 i9 h9 f1 i7 j0 i1 f9 i5 f4 h2 f6 f0 h4 e7 h3 e6 f8 e8 g5 i0 j1 h7 k1 j3 j8 k2 j6 k5 j4 k6 j7 j5 j9 g9 k4 i6 i3 e1 h6 h0 g8 i4 g2 g1 g7 e5 f5 l1 k8<M3 c0 b g3 f3 h1 g4 i2 e9 i8 f2 h5 e3 e2 f7 g6 h8 i9 h9 f1 i7 j0 i1 f9 i5 f4 h2 f6 f0 h4 e7 h3 e6 f8 e8 g5 i0 j1 h7 k1 j3 j8 k2 j6 k5 j4 k6 j7 j5 j9 g9 k4 i6 i3 e1 h6 h0 g8 i4 g2 g1 g7 e5 f5 j2 d3))))))))))) (need (List.all (cV i6 i3 e1 h6 h0 g8 i4 g2 g1 g7 e5 f5 j2) Aq) (AG 63 13 168 j1 1 (cV i6 i3 e1 h6 h0 g8 i4 g2 g1 g7 e5 f5 j2) d3 (fun (l6:TV) l0=>need (List.all [l6] Aq) ((I1 b ((i64.wrap (g3+(1:Int)))) f3 h1 g4 i2 e9 i8 f2 h5 e3 e2 f7 g6 h8 i9 h9 f1 i7 j0 i1 f9 i5 f4 h2 f6 f0 h4 e7 h3 e6 f8 e8 g5 i0 l6 h7 l0/\M1 b ((i64.wrap (g3+(1:Int)))) f3 h1 g4 i2 e9 i8 f2 h5 e3 e2 f7 g6 h8 i9 h9 f1 i7 j0 i1 f9 i5 f4 h2 f6 f0 h4 e7 h3 e6 f8 e8 g5 i0 l6 h7 l0<M1 g e4 n1 s1 s2 v1 s3 n2 n3 b1 b2 n4 b3 b4 s4 n5 n6 n7 n8 n9 s5 v2 v3 v4 d9 b5 b6 s6 d5 d7 d8 d6 e0 s7 v5 v6 v7 g0)))))))))))))))) (need (List.all (cV d9 b5 b6 s6 d5 d7 d8 d6 e0 s7 v5 v6 v7) Aq) (K d9 b5 b6 s6 d5 d7 d8 d6 e0 s7 v5 v6 v7 g0))))):Ad PR D5 [(.agg [.int .i64 n_0,.str n_1,.str n_2,n_3,.str n_4]),(.agg [.int .u8 d_0,.int .u8 d_1,.bool d_2,.bool d_3])] [sV] st K:=
 Ai (cfg:=⟨[2,3,4,5,8,13],[],[]⟩) (h:=(.seq .none (.seq .none (.seq .none (.seq (.seq .none (.block (.loop ⟨[(6,.tv),(7,.int .i64)],[(2,0,0),(3,1,0),(4,2,0),(5,3,0)],[(0,5),(1,4),(2,13),(3,13)],[(0,0,.int .i64),(0,1,.str),(0,2,.str),(0,3,.tv),(0,4,.str),(1,0,.int .u8),(1,1,.int .u8),(1,2,.bool),(1,3,.bool),(2,0,.int .i64),(2,1,.bool),(2,2,.bool),(2,3,.str),(2,4,.int .i64),(2,5,.int .i64),(2,6,.int .i64),(2,7,.int .i64),(2,8,.int .i64),(2,9,.str),(2,10,.tv),(2,11,.tv),(2,12,.tv),(3,0,.int .i64),(3,1,.bool),(3,2,.bool),(3,3,.str),(3,4,.int .i64),(3,5,.int .i64),(3,6,.int .i64),(3,7,.int .i64),(3,8,.int .i64),(3,9,.str),(3,10,.tv),(3,11,.tv),(3,12,.tv)]⟩ (.seq .none (.seq (.block (.seq .none (.seq .none (.seq (.seq .none (.block (.loop ⟨[(9,.tv),(10,.int .i64),(6,.tv),(7,.int .i64)],[(2,0,0),(3,1,0),(4,2,0),(5,3,0),(8,4,0)],[(0,5),(1,4),(2,13),(3,13),(4,13)],[(0,0,.int .i64),(0,1,.str),(0,2,.str),(0,3,.tv),(0,4,.str),(1,0,.int .u8),(1,1,.int .u8),(1,2,.bool),(1,3,.bool),(2,0,.int .i64),(2,1,.bool),(2,2,.bool),(2,3,.str),(2,4,.int .i64),(2,5,.int .i64),(2,6,.int .i64),(2,7,.int .i64),(2,8,.int .i64),(2,9,.str),(2,10,.tv),(2,11,.tv),(2,12,.tv),(3,0,.int .i64),(3,1,.bool),(3,2,.bool),(3,3,.str),(3,4,.int .i64),(3,5,.int .i64),(3,6,.int .i64),(3,7,.int .i64),(3,8,.int .i64),(3,9,.str),(3,10,.tv),(3,11,.tv),(3,12,.tv),(4,0,.int .i64),(4,1,.bool),(4,2,.bool),(4,3,.str),(4,4,.int .i64),(4,5,.int .i64),(4,6,.int .i64),(4,7,.int .i64),(4,8,.int .i64),(4,9,.str),(4,10,.tv),(4,11,.tv),(4,12,.tv)]⟩ .none))) (.seq .none (.seq .none (.seq .none (.seq (.seq .none (.block (.loop ⟨[(14,.int .i64),(6,.tv),(7,.int .i64)],[(2,0,0),(3,1,0),(4,2,0),(5,3,0),(8,4,0),(13,5,0)],[(0,5),(1,4),(2,13),(3,13),(4,13),(5,13)],[(0,0,.int .i64),(0,1,.str),(0,2,.str),(0,3,.tv),(0,4,.str),(1,0,.int .u8),(1,1,.int .u8),(1,2,.bool),(1,3,.bool),(2,0,.int .i64),(2,1,.bool),(2,2,.bool),(2,3,.str),(2,4,.int .i64),(2,5,.int .i64),(2,6,.int .i64),(2,7,.int .i64),(2,8,.int .i64),(2,9,.str),(2,10,.tv),(2,11,.tv),(2,12,.tv),(3,0,.int .i64),(3,1,.bool),(3,2,.bool),(3,3,.str),(3,4,.int .i64),(3,5,.int .i64),(3,6,.int .i64),(3,7,.int .i64),(3,8,.int .i64),(3,9,.str),(3,10,.tv),(3,11,.tv),(3,12,.tv),(4,0,.int .i64),(4,1,.bool),(4,2,.bool),(4,3,.str),(4,4,.int .i64),(4,5,.int .i64),(4,6,.int .i64),(4,7,.int .i64),(4,8,.int .i64),(4,9,.str),(4,10,.tv),(4,11,.tv),(4,12,.tv),(5,0,.int .i64),(5,1,.bool),(5,2,.bool),(5,3,.str),(5,4,.int .i64),(5,5,.int .i64),(5,6,.int .i64),(5,7,.int .i64),(5,8,.int .i64),(5,9,.str),(5,10,.tv),(5,11,.tv),(5,12,.tv)]⟩ .none))) .none)))))))) .none))))) .none))))) mixed (fun _ _=>Tryz.call103 _ _) Tryz.func103 (by kernel_rfl) (by kernel_rfl) h
theorem Jz (s:B8) (st:St) (K:Int->St->Prop) (h:Ad PR B2 [.str s] [.one .tv,.one .bool] st (fun (v1:TV) (b1:Bool) a=>need (isSl v1) (((0<=(i64.wrap ((lenS v1:Int)-(1:Int)))/\(i64.wrap ((lenS v1:Int)-(1:Int)))<(lenZ 1 v1:Int))/\Ah (Ac a [] (.t (ixT 1 v1 (Int.toNat (i64.wrap ((lenS v1:Int)-(1:Int)))))) 0) (fun (x1:TV)=>Ak (.int .i64) x1 (fun (n1:Int)=>K n1 a)))))):Ad PR Cv [.str s] [.one (.int .i64)] st K:=
 Ai (cfg:=⟨[],[],[]⟩) (h:= .none) mixed (fun _ _=>Tryz.call127 _ _) Tryz.func127 (by kernel_rfl) (by kernel_rfl) h
end Go.TVF
