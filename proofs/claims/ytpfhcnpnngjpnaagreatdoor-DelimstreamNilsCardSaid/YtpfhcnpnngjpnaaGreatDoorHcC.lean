/- What the laws below rest on: a framework for Go programs, and contracts of the functions that they reach. -/
import Derived.Test.YtpfhcnpnngjpnaaGreatDoorHcB
import Derived.Deep.Slices
import Derived.WideShapes
import Derived.ChangeArms
import Derived.OpenShut
import Derived.Test.YtpfhcnpnngjpnaaGreatDoorProg
import Derived.KernelRfl
import Derived.Lib.DecodeN
set_option maxRecDepth 20000
set_option linter.unusedVariables false
set_option linter.unusedSimpArgs false
section
namespace Go.TVF
open Go.IntKind(i64 u8)
open Go.RowKit (Below)
theorem NA {P:Program} {Q:Exit->Act->World->Prop} {a:Act} {w:World} {c:Code} (I:Nat->Act->World->Prop) (h₀:∃m,I m a w)
  (round:∀m a w,I m a w->c.wp P (Exit.then (fun a' w'=>∃m',m'<m/\I m' a' w') Q) a w):(Code.loop c).wp P Q a w:=by
 intro b k cs
 have key:∀m a w,I m a w->∃e a' w',Q e a' w'/\Arrives P (lone (b.at a (.code c:: .inLoop c::k)) cs w) b k cs e a' w':=by
  intro m
  induction m using Nat.strongRecOn with
  | _ m ih=>
   intro a w hI
   obtain⟨e,a₁,w₁,hq,harr⟩:=round m a w hI b (.inLoop c::k) cs
   cases e with
   | normal=>
    obtain⟨m',hlt,hI₁⟩:=hq
    obtain⟨e₂,a₂,w₂,hq₂,harr₂⟩:=ih m' hlt a₁ w₁ hI₁
    exact⟨e₂,a₂,w₂,hq₂,.of_steps (Steps.trans harr (.one step_inLoop)) harr₂⟩
   | exit id=>exact⟨_,a₁,w₁,hq,.pass (x:= .inLoop c) rfl (fun _ _=> .inl (by simp)) harr⟩
   | goto l=>exact⟨_,a₁,w₁,hq,.pass (x:= .inLoop c) rfl (fun _ _=> .inl (by simp)) harr⟩
   | ret=>exact⟨_,a₁,w₁,hq,.pass (x:= .inLoop c) rfl (fun _ _=> .inl (by simp)) harr⟩
   | panic ch=>exact⟨_,a₁,w₁,hq,.pass (x:= .inLoop c) rfl (fun _ _=> .inl (by simp)) harr⟩
   | outgrown=>exact⟨_,a₁,w₁,hq,.pass (x:= .inLoop c) rfl (fun _ _=> .inl (by simp)) harr⟩
 obtain⟨m,hm⟩:=h₀
 obtain⟨e,a',w',hq,harr⟩:=key m a w hm
 exact⟨e,a',w',hq,.of_steps (.one step_loop) harr⟩
theorem Li:∀{cs:List CTy} {vs:List TV} {I:Fun cs (St->Prop)} {M:Fun cs (St->Nat)} {B:List TV->Nat->St->Prop} {st:St},AllC cs I M B->Hh cs vs I (fun p=>p st)->∃m,B vs m st
 | [],[],I,M,B,st,h,hd=>⟨_,h st hd⟩
 | [],_::_,I,M,B,st,h,hd=>hd.elim
 | _::_,[],I,M,B,st,h,hd=>hd.elim
 | c::cs,v::vs,I,M,B,st,h,hd=>by
  obtain⟨y,rfl,hd2⟩:=CL hd
  exact Li (B:=fun l=>B (enc c y::l)) (h y) hd2
theorem Mr:∀{cs:List CTy} {vs:List TV} {I:Fun cs (St->Prop)} {M:Fun cs (St->Nat)} {B:List TV->Nat->St->Prop} {st:St} {m:Nat},AllC cs I M B->OP cs vs I M (fun p q=>p st/\q st<m)->∃m',m'<m/\B vs m' st
 | [],[],I,M,B,st,m,h,hd=>⟨_,hd.2,h st hd.1⟩
 | [],_::_,I,M,B,st,m,h,hd=>hd.elim
 | _::_,[],I,M,B,st,m,h,hd=>hd.elim
 | c::cs,v::vs,I,M,B,st,m,h,hd=>by
  obtain⟨y,rfl,hd2⟩:=CL hd
  exact Mr (B:=fun l=>B (enc c y::l)) (h y) hd2
theorem JJ:∀{cs:List CTy} {vs:List TV} {I:Fun cs (St->Prop)} {B:List TV->St->Prop} {st:St},Tp cs I B->Hh cs vs I (fun p=>p st)->B vs st
 | [],[],I,B,st,h,hd=>h st hd
 | [],_::_,I,B,st,h,hd=>hd.elim
 | _::_,[],I,B,st,h,hd=>hd.elim
 | c::cs,v::vs,I,B,st,h,hd=>by
  obtain⟨y,rfl,hd2⟩:=CL hd
  exact JJ (B:=fun l=>B (enc c y::l)) (h y) hd2
def QPost (g:Ghost) (w:World) (a0:Act) (Q:Exit->Fr->St->Prop) (e:Exit) (a:Act) (w':World):Prop:=Hj g w a0 (Q e) a w'
section
variable {P:Program} {cfg:Cfg} {ns nl:Nat}
theorem RF (hm:P.follows .mixedOrders=true):∀(c:Code) (h:GL) (Q:Exit->Fr->St->Prop) (fr:Fr) (st:St) (g:Ghost) (w:World) (a:Act),cwp cfg P ns nl c h Q fr st->Sim g st fr.loc w->EF g w fr a.tmps->a.tmps.size=ns->
  c.wp P (QPost g w a Q) a w:=by
 intro c
 induction c with
 | skip=>intro h Q fr st g w a hc s hf hn;exact wp_skip ⟨fr,st,g,hc,s,hf,Ext.refl _ _,rfl,rfl⟩
 | region id ops draw=>
  intro h Q fr st g w a hc s hf hn
  cases draw with
  | false=>exact wp_region_list (Jo ops.toList fr st g w a hc s hf fun a' w' hp=>hp)
  | true=>exact Ng hm hc s hf fun a' w' hp=>hp
 | seq x y ihx ihy=>
  intro h Q fr st g w a hc s hf hn
  have key:∀(hx hy:GL),cwp cfg P ns nl x hx (NP (cwp cfg P ns nl y hy Q) Q) fr st->(Code.seq x y).wp P (QPost g w a Q) a w:=by
   intro hx hy hcx
   refine wp_seq (wp_mono (ihx hx _ fr st g w a hcx s hf hn) fun e a' w' hq=>?_)
   obtain⟨fr',st',g',h1,h2,h3,h4,h5⟩:=hq
   cases e with
   | normal=>
    refine wp_mono (ihy hy Q fr' st' g' w' a' h1 h2 h3 (h5.2.trans hn)) fun e a'' w'' hq2=>?_
    exact hq2.ext h4 h5
   | _=>exact⟨fr',st',g',h1,h2,h3,h4,h5⟩
  cases h with
  | cut k hx hy=>
   obtain⟨R,h1,h2⟩:=hc
   refine wp_seq (wp_mono (ihx hx _ fr st g w a h1 s hf hn) fun e a' w' hq=>?_)
   obtain⟨fr',st',g',q1,q2,q3,q4,q5⟩:=hq
   cases e with
   | normal=>
    have q1':need (k.ok nl fr') (Hh k.tys (k.vals fr') R fun p=>p st'):=q1
    rw[Ap]at q1'
    obtain⟨w1,w2⟩:=DD.weak (ns:=ns) q1'.1 q2 q3 (q5.2.trans hn)
    have hb:=JJ h2 q1'.2
    exact wp_mono (ihy hy Q _ st' g' w' a' hb w1 w2 (q5.2.trans hn)) fun e a'' w'' hq2=>hq2.ext q4 q5
   | _=>exact⟨fr',st',g',q1,q2,q3,q4,q5⟩
  | none=>exact key _ _ hc
  | seq p q=>exact key _ _ hc
  | cond p q=>exact key _ _ hc
  | block p=>exact key _ _ hc
  | loop k p=>exact key _ _ hc
 | cond c x y ihx ihy=>
  intro h Q fr st g w a hc s hf hn
  simp only[cwp]at hc
  split at hc
  ·rename_i b hb
   have hr:=MM hf c
   rw[hb]at hr
   have hr':Rel g w (.bool b) (a.eval c):=hr
   have hev:a.eval c= .bool b:=by generalize a.eval c=q at hr';cases hr';rfl
   cases b with
   | true=>exact wp_cond_true hev (ihx h.l Q fr st g w a hc s hf hn)
   | false=>exact wp_cond_false hev (ihy h.r Q fr st g w a hc s hf hn)
  ·exact hc.elim
 | block id x ih=>
  intro h Q fr st g w a hc s hf hn
  refine wp_block (wp_mono (ih h.l (Qc id Q) fr st g w a hc s hf hn) fun e a' w' hq=>?_)
  obtain⟨fr',st',g',h1,h2,h3,h4,h5⟩:=hq
  cases e with
  | exit id'=>
   simp only[Qc]at h1
   by_cases hid:id'=id
   ·subst hid
    have hbe:(id'.beq id')=true:=Nat.beq_refl id'
    simp only[hbe]at h1
    simp only[Exit.inBlock,if_true]
    exact⟨fr',st',g',h1,h2,h3,h4,h5⟩
   ·have hbe:(id'.beq id)=false:=by
     cases hq:id'.beq id with
     | false=>rfl
     | true=>exact absurd (Nat.eq_of_beq_eq_true hq) hid
    simp only[hbe]at h1
    simp only[Exit.inBlock,hid,if_false]
    exact⟨fr',st',g',h1,h2,h3,h4,h5⟩
  | _=>exact⟨fr',st',g',h1,h2,h3,h4,h5⟩
 | loop x ih=>
  intro h Q fr st g w a hc s hf hn
  cases h with
  | loop k hx=>
   obtain⟨I,M,h1,h2⟩:=hc
   rw[Ap]at h1
   refine NA (fun m a' w'=>∃vals st' g',cwp cfg P ns nl x hx (NP (fun fr st=>need (k.ok nl fr) (OP k.tys (k.vals fr) I M fun p q=>p st/\q st<m)) Q) (k.frame ns nl vals) st'/\
    Sim g' st' (k.frame ns nl vals).loc w'/\EF g' w' (k.frame ns nl vals) a'.tmps/\Ext g w g' w'/\a'.defers=a.defers/\a'.tmps.size=a.tmps.size) ?_ ?_
   ·obtain⟨m,hm⟩:=Li h2 h1.2
    obtain⟨w1,w2⟩:=DD.weak (ns:=ns) h1.1 s hf hn
    exact⟨m,_,st,g,hm,w1,w2,Ext.refl _ _,rfl,rfl⟩
   ·rintro m a' w' ⟨vals,st',g',q1,q2,q3,q4,q5⟩
    refine wp_mono (ih hx _ _ st' g' w' a' q1 q2 q3 (q5.2.trans hn)) fun e a'' w'' hq=>?_
    obtain⟨fr2,st2,g2,r1,r2,r3,r4,r5⟩:=hq
    cases e with
    | normal=>
     have r1':need (k.ok nl fr2) (OP k.tys (k.vals fr2) I M fun p q=>p st2/\q st2<m):=r1
     rw[Ap]at r1'
     obtain⟨m',hlt,hB⟩:=Mr h2 r1'.2
     obtain⟨w1,w2⟩:=DD.weak (ns:=ns) r1'.1 r2 r3 (r5.2.trans (q5.2.trans hn))
     exact⟨m',hlt,_,st2,g2,hB,w1,w2,q4.trans r4,r5.1.trans q5.1,r5.2.trans q5.2⟩
    | _=>exact⟨fr2,st2,g2,r1,r2,r3,q4.trans r4,r5.1.trans q5.1,r5.2.trans q5.2⟩
  | _=>exact hc.elim
 | exit id=>intro h Q fr st g w a hc s hf hn;exact wp_exit ⟨fr,st,g,hc,s,hf,Ext.refl _ _,rfl,rfl⟩
 | ret=>intro h Q fr st g w a hc s hf hn;exact wp_ret ⟨fr,st,g,hc,s,hf,Ext.refl _ _,rfl,rfl⟩
 | _=>intro h Q fr st g w a hc s hf hn;exact hc.elim
def IJ (P:Program) (fr:Fr) (st:St):ResultVar->Option TV
 | .tmp t=>some (IE fr t)
 | .cell a t=>match HJ P t with
  | some true=>match P.cellsOf t with
   | 0=>none
   | n=>(AA st fr.loc (fr.slots.f a) 0 n).map .agg
  | some false=>Ab st fr.loc (fr.slots.f a) 0
  | none=>none
def Gu (P:Program) (fr:Fr) (st:St):List ResultVar->Option (List TV)
 | []=>some []
 | r::rs=>match IJ P fr st r with
  | some v=>(Gu P fr st rs).map (v::·)
  | none=>none
def Pe:List TV->TV
 | [v]=>v
 | vs=> .tuple vs
def resT (P:Program) (fn:Func) (fr:Fr) (st:St):Option TV:=(Gu P fr st fn.results.toList).map Pe
def MQ (P:Program) (fr:Fr) (st:St) (r:ResultVar) (k:TV->Prop):Prop:=
 match r with
 | .tmp t=>k (IE fr t)
 | .cell a t=>match HJ P t with
  | some true=>match P.cellsOf t with
   | 0=>False
   | n=>Ai ((AA st fr.loc (fr.slots.f a) 0 n).map .agg) k
  | some false=>Ai (Ab st fr.loc (fr.slots.f a) 0) k
  | none=>False
def H4 (P:Program) (fr:Fr) (st:St):List ResultVar->(List TV->Prop)->Prop
 | [],k=>k []
 | r::rs,k=>MQ P fr st r fun v=>H4 P fr st rs fun vs=>k (v::vs)
theorem Lw {P:Program} {fr:Fr} {st:St} {r:ResultVar} {k:TV->Prop} (h:MQ P fr st r k):∃v,IJ P fr st r=some v/\k v:=by
 cases r with
 | tmp t=>exact⟨_,rfl,h⟩
 | cell a t=>
  unfold MQ at h
  unfold IJ
  simp only at h⊢
  cases ha:HJ P t with
  | none=>rw[ha]at h;exact h.elim
  | some b=>
   rw[ha]at h
   cases b with
   | true=>
    simp only at h⊢
    cases hn:P.cellsOf t with
    | zero=>rw[hn]at h;exact h.elim
    | succ n=>
     rw[hn]at h
     exact CC.1 h
   | false=>exact CC.1 h
theorem G6 {P:Program} {fr:Fr} {st:St}:∀{rs:List ResultVar} {k:List TV->Prop},H4 P fr st rs k->∃vs,Gu P fr st rs=some vs/\k vs
 | [],k,h=>⟨[],rfl,h⟩
 | r::rs,k,h=>by
  obtain⟨v,h1,h2⟩:=Lw h
  obtain⟨vs,h3,h4⟩:=G6 h2
  exact⟨v::vs,by simp[Gu,h1,h3],h4⟩
def retQ (P:Program) (fn:Func) (R:TV->St->Prop):Exit->Fr->St->Prop
 | .normal,fr,st=>H4 P fr st fn.results.toList fun vs=>R (Pe vs) st
 | .ret,fr,st=>H4 P fr st fn.results.toList fun vs=>R (Pe vs) st
 | _,_,_=>False
def FO (cfg:Cfg) (fn:Func) (args:List TV):Fr:=⟨⟨fn.ntmps,fun i=>match args[i]? with | some v=> .t v | none=> .t .undef⟩,cfg.loc.map fun _=>none⟩
theorem MP {g:Ghost} {st:St} {w:World} {fr:Fr} {tmps:Array Value} (s:Sim g st fr.loc w) (hf:EF g w fr tmps) {r:ResultVar} {v:TV} (h:IJ P fr st r=some v):
  ∃u,(match r with | .tmp t=>pure (tmps.getD t Go.undef) | .cell a t=>do loadVar t (<-asAddr (tmps.getD a Go.undef)):Sem Value).run P w= .ok u w/\Rel g w v u:=by
 cases r with
 | tmp t=>
  simp only[IJ,Option.some.injEq]at h
  subst h
  exact⟨_,rfl,(hf.2 t).tv⟩
 | cell a t=>
  simp only[IJ]at h
  have hld:∀p,Bh g w fr.loc p (tmps.getD a Go.undef)->(CY P st fr.loc t p).Is (.t v)->∃u,(do loadVar t (<-asAddr (tmps.getD a Go.undef)):Sem Value).run P w= .ok u w/\Rel g w v u:=by
   intro p hp hl
   have hl':=hl
   obtain⟨u,hu,hr⟩:=KA (P:=P) s hp hl'
   have hsa:(Instr.loadAt t (tmps.getD a Go.undef)).run P w=(do loadVar t (<-asAddr (tmps.getD a Go.undef)):Sem Value).run P w:=by
    generalize hq:tmps.getD a Go.undef=q at hp hu
    simp only[Instr.loadAt,Sem.run_bind]
    cases q with
    | pointer o=>cases o with
     | none=>simp[Instr.loadAt,Instr.sureAddr]at hu
     | some ad=>simp[Instr.sureAddr,asAddr]
    | _=>simp[Instr.loadAt,Instr.sureAddr]at hu
   exact⟨u,by rw[<-hsa];exact hu,hr⟩
  split at h
  ·rename_i ha
   split at h
   ·cases h
   ·rename_i n hn
    refine hld _ (hf.2 a) ?_
    unfold CY
    rw[ha]
    exact⟨v,by
     split
     ·rename_i h0;exact absurd h0 hn
     ·exact h,rfl⟩
  ·rename_i ha
   refine hld _ (hf.2 a) ?_
   unfold CY
   rw[ha]
   exact⟨v,h,rfl⟩
  ·cases h
theorem H3 {g:Ghost} {st:St} {w:World} {fr:Fr} {tmps:Array Value} (s:Sim g st fr.loc w) (hf:EF g w fr tmps):∀{rs:List ResultVar} {vs:List TV},Gu P fr st rs=some vs->
  ∃us:List Value,(rs.mapM (fun r=>match r with | .tmp t=>pure (tmps.getD t Go.undef) | .cell a t=>do loadVar t (<-asAddr (tmps.getD a Go.undef))):Sem (List Value)).run P w= .ok us w/\AM g w vs us
 | [],vs,h=>by simp only[Gu,Option.some.injEq]at h;subst h;exact⟨[],rfl,.nil _ _⟩
 | r::rs,vs,h=>by
  simp only[Gu]at h
  split at h
  ·rename_i v hv
   obtain⟨vs',hvs',rfl⟩:=Option.map_eq_some_iff.1 h
   obtain⟨u,hu,hr⟩:=MP s hf hv
   obtain⟨us,hus,hrs⟩:=H3 s hf hvs'
   refine⟨u::us,?_,.cons hr hrs⟩
   rw[List.mapM_cons]
   simp only[Sem.run_bind,hu,Result.andThen_ok,hus,Sem.run_pure]
  ·cases h
theorem Pp {g:Ghost} {st:St} {w:World} {fr:Fr} {tmps:Array Value} (s:Sim g st fr.loc w) (hf:EF g w fr tmps) {fn:Func} {v:TV} (h:resT P fn fr st=some v):∃u,(results fn tmps).run P w= .ok u w/\Rel g w v u:=by
 unfold resT at h
 cases hr:Gu P fr st fn.results.toList with
 | none=>rw[hr]at h;cases h
 | some vs=>
  rw[hr]at h
  obtain⟨us,hus,hrel⟩:=H3 s hf hr
  have hrun:(fn.results.mapM (fun r=>match r with | .tmp t=>pure (tmps.getD t Go.undef) | .cell a t=>do loadVar t (<-asAddr (tmps.getD a Go.undef))):Sem (Array Value)).run P w= .ok us.toArray w:=by
   rw[<-Array.toArray_toList (xs:=fn.results),List.mapM_toArray]
   simp only[Sem.run_map,hus,Result.andThen_ok]
  refine⟨if h:us.toArray.size=1 then us.toArray[0]else .tuple us.toArray,?_,?_⟩
  ·have hres:results fn tmps=(do
     let vs<-(fn.results.mapM (fun r=>match r with | .tmp t=>pure (tmps.getD t Go.undef) | .cell a t=>do loadVar t (<-asAddr (tmps.getD a Go.undef))):Sem (Array Value))
     pure (if h:vs.size=1 then vs[0]else .tuple vs)):=rfl
   rw[hres,Sem.run_bind,hrun]
   rfl
  ·cases vs with
   | nil=>
    simp only[Option.map_some,Option.some.injEq,Pe]at h;subst h
    have:us=[]:=List.eq_nil_of_length_eq_zero hrel.1.symm
    subst this
    exact Rel.tuple [] [] rfl (fun i hi=>absurd hi (Nat.not_lt_zero _))
   | cons v1 vs1=>cases vs1 with
    | nil=>
     simp only[Option.map_some,Option.some.injEq,Pe]at h;subst h
     cases us with
     | nil=>have:=hrel.1;simp at this
     | cons u1 us1=>
      have:us1=[]:=List.eq_nil_of_length_eq_zero (by have:=hrel.1;simpa using this.symm)
      subst this
      simpa using hrel.2 0 (by simp)
    | cons v2 vs2=>
     simp only[Option.map_some,Option.some.injEq,Pe]at h;subst h
     have hl:us.toArray.size≠1:=by have:=hrel.1;simp at this⊢;omega
     rw[dif_neg hl]
     exact Rel.tuple _ us hrel.1 hrel.2
theorem QY (hm:P.follows .mixedOrders=true) {f:FuncId} {fn:Func} {c:Code} (hcall:∀(vs:Array Value) (w:World),(callFunc f vs).run P w= .ok (.enter f vs) w) (hf:P.funcs[f]? =some fn) (hb:fn.body=some c)
  (cfg:Cfg) (h:GL) {args:List TV} {st:St} {R:TV->St->Prop} (hn:args.length<=fn.ntmps)
  (hc:cwp cfg P fn.ntmps cfg.loc.length c h (retQ P fn R) (FO cfg fn args) st):ED P f args st R:=by
 refine DX hcall fun g w vargs s hr=>?_
 refine calls_of_wp hf hb ?_
 have hlen:vargs.length=args.length:=hr.1.symm
 have hsize:(vargs.toArray++Array.replicate (fn.ntmps-vargs.toArray.size) Go.undef).size=fn.ntmps:=by simp;omega
 have hsim:Sim g st (FO cfg fn args).loc w:=s.weakLoc fun j x' hx'=>by
  simp only[FO,List.getElem?_map]at hx'
  cases hq:cfg.loc[j]? with
  | none=>rw[hq]at hx';cases hx'
  | some q=>rw[hq]at hx';simp at hx'
 have hfr:EF g w (FO cfg fn args) (vargs.toArray++Array.replicate (fn.ntmps-vargs.toArray.size) Go.undef):=by
  refine⟨by rw[hsize];rfl,fun i=>?_⟩
  by_cases hia:i<args.length
  ·have h1:(FO cfg fn args).slots.f i= .t args[i]:=by simp[FO,hia]
   have h2:(vargs.toArray++Array.replicate (fn.ntmps-vargs.toArray.size) Go.undef).getD i Go.undef=vargs.getD i Go.undef:=by
    have:i<vargs.length:=by omega
    have hin:i<fn.ntmps:=by omega
    simp[Array.getD,Array.getElem_append,this,hin,List.getD_eq_getElem?_getD]
    omega
   rw[h1,h2]
   exact hr.2 i hia
  ·have h1:(FO cfg fn args).slots.f i= .t .undef:=by simp[FO,hia]
   have h2:(vargs.toArray++Array.replicate (fn.ntmps-vargs.toArray.size) Go.undef).getD i Go.undef=Go.undef:=by
    have:¬i<vargs.length:=by omega
    simp[Array.getD,Array.getElem_append,this]
   rw[h1,h2]
   exact Rel.undef
 refine wp_mono (RF hm c h _ _ st g w {tmps:=vargs.toArray++Array.replicate (fn.ntmps-vargs.toArray.size) Go.undef,defers:=[]} hc hsim hfr hsize) fun e a' w' hq=>?_
 obtain⟨fr',st',g',h1,h2,h3,h4,h5,h6⟩:=hq
 have fin:H4 P fr' st' fn.results.toList (fun vs=>R (Pe vs) st')->a'.defers=[]/\∃v,(results fn a'.tmps).run P w'= .ok v w'/\∃v',Ending.returned v= .returned v'/\∃r st' g',R r st'/\Sim g' st' [] w'/\Rel g' w' r v'/\Ext g w g' w':=by
  intro ho
  obtain⟨vs,hvs,hR⟩:=G6 ho
  obtain⟨u,hu,hrel⟩:=Pp (fn:=fn) h2 h3 (by unfold resT;rw[hvs];rfl)
  exact⟨h5,u,hu,u,rfl,_,st',g',hR,h2.dropLoc (fun j x hx=>by simp at hx),hrel,h4⟩
 cases e with
 | normal=>exact fin h1
 | ret=>exact fin h1
 | _=>exact h1.elim
def St.zero:St:={nb:=0,box:=fun _=> .dead,nt:=0,live:=fun _=>false,ty:=fun _=>none,bt:=fun _=>none}
def Ghost.start (w:World):Ghost:={base:=w.heap.size,w0:=w,nb:=0,bk:=fun _=>0,lam:=fun _=>0,nt:=0,sp:=fun _=>none,S:=fun a=>a.spot=none/\∃v,w.cell? a=some v,prot:=fun _=>False}
theorem Sim.start (w:World) (hG:∀w',Below w.heap.size w w'->GlobOK w'):Sim (Ghost.start w) St.zero [] w:=by
 have hd:∀k,¬Dom St.zero [] k:=by
  intro k d
  cases k with
  | box i=>exact absurd d (Nat.not_lt_zero _)
  | loc i=>obtain⟨x,hx⟩:=d;simp at hx
 exact⟨rfl,rfl,Below.refl _ _,Nat.le_refl _,fun k d=>absurd d (hd k),fun k k' d=>absurd d (hd k),fun k d=>absurd d (hd k),fun id h=>absurd h (Nat.not_lt_zero _),
  fun id b l h hh=>(by cases hh),fun i j b l h l' h' _ hh=>(by cases hh),fun id _=>rfl,fun a ha=>⟨ha.1,ha.2,fun k d=>absurd d (hd k),fun id l h hh=>(by cases hh)⟩,fun b hb=>hb.elim,fun id b l h hh=>(by cases hh),fun id b l h T hh=>(by cases hh),fun b T hb=>absurd hb (Nat.not_lt_zero _),hG⟩
theorem P7 {f:FuncId} {args:List TV} (hcall:∀(vs:Array Value) (w:World),(callFunc f vs).run P w= .ok (.enter f vs) w) (h:ED P f args St.zero fun r _=>r= .bool true) (w:World) (hG:∀w',Below w.heap.size w w'->GlobOK w') (vargs:List Value) (hr:AM (Ghost.start w) w args vargs):
  Calls P f vargs.toArray w fun e w'=>e= .returned (.bool true)/\Below w.heap.size w w':=by
 have h1:=h.run (Ghost.start w) w vargs (Sim.start w hG) hr
 unfold Cs at h1
 rw[hcall]at h1
 refine Calls.mono h1 ?_
 rintro e w' ⟨v,rfl,r,st',g',rfl,s',hrel,e'⟩
 have hb:=s'.below
 rw[e'.base,e'.w0]at hb
 cases hrel
 exact⟨rfl,hb⟩
end
def Qb (fn:Func):Code:=match fn.body with | some c=>c | none=> .skip
def Fw (cfg:Cfg) (P:Program) (h:GL) (fn:Func) (args:List TV) (st:St) (R:TV->St->Prop):Prop:=
 cwp cfg P fn.ntmps cfg.loc.length (Qb fn) h (retQ P fn R) (FO cfg fn args) st
def fits (fn:Func) (args:List TV):Bool:=(fn.body.isSome).and (args.length.ble fn.ntmps)
theorem Am {P:Program} (hm:P.follows .mixedOrders=true) {f:FuncId} {fn:Func} (hcall:∀(vs:Array Value) (w:World),(callFunc f vs).run P w= .ok (.enter f vs) w) (hf:P.funcs[f]? =some fn)
  {cfg:Cfg} {h:GL} {args:List TV} {st:St} {R:TV->St->Prop} (hn:fits fn args=true) {V:Prop} (he:Fw cfg P h fn args st R=V) (hV:V):ED P f args st R:=by
 simp only[fits,Bool.and_eq_true]at hn
 obtain⟨c,hc⟩:=Option.isSome_iff_exists.1 hn.1
 have hb:fn.body=some (Qb fn):=by rw[Qb,hc]
 rw[<-he]at hV
 exact QY hm hcall hf hb cfg h (Nat.le_of_ble_eq_true hn.2) hV
def EK (cs:List CTy) (v:TV) (f:Fun cs Prop):Prop:=
 match v with
 | .agg l=>decL cs l f
 | _=>False
def stB (st:St) (p:TV) (xs:List TV) (k:St->Prop):Prop:=
 match p with
 | .box b off=>∃l,st.box b= .cells l/\off+xs.length<=l.length/\k (st.put b (.cells (setAll l off xs)))
 | _=>False
theorem Ad {p:Prop} [Decidable p] {x y:Prop} (h1:p->x) (h2:¬p->y):BIf (decide p) x y:=by
 by_cases h:p
 ·simp only[h,decide_true,BIf];exact h1 h
 ·simp only[h,decide_false,BIf];exact h2 h
theorem AI {b:Bool} {x y:Prop} (h1:b=true->x) (h2:b=false->y):BIf b x y:=by
 cases b
 ·exact h2 rfl
 ·exact h1 rfl
end Go.TVF
end
section
namespace Go.TVF
open Go.IntKind(i64 u8)
structure Cq (a b:St):Prop where
 nb:a.nb<=b.nb
 box:∀i,i<a.nb->b.box i=a.box i
 nt:a.nt<=b.nt
 live:∀i,i<a.nt->b.live i=a.live i
 ty:∀i,i<a.nt->b.ty i=a.ty i
 bt:∀i,i<a.nb->b.bt i=a.bt i
theorem Cq.refl (a:St):Cq a a:=⟨Nat.le_refl _,fun _ _=>rfl,Nat.le_refl _,fun _ _=>rfl,fun _ _=>rfl,fun _ _=>rfl⟩
theorem Cq.trans {a b c:St} (h:Cq a b) (k:Cq b c):Cq a c:=
 ⟨Nat.le_trans h.nb k.nb,fun i hi=>(k.box i (Nat.lt_of_lt_of_le hi h.nb)).trans (h.box i hi),Nat.le_trans h.nt k.nt,fun i hi=>(k.live i (Nat.lt_of_lt_of_le hi h.nt)).trans (h.live i hi),fun i hi=>(k.ty i (Nat.lt_of_lt_of_le hi h.nt)).trans (h.ty i hi),fun i hi=>(k.bt i (Nat.lt_of_lt_of_le hi h.nb)).trans (h.bt i hi)⟩
theorem Cq.push {a b:St} (h:Cq a b) (o:It) (T:Option Nat):Cq a (b.push o T):=
 h.trans ⟨Nat.le_succ _,fun i hi=>by simp only[St.push];rw[if_neg (by omega)],Nat.le_refl _,fun _ _=>rfl,fun _ _=>rfl,fun i hi=>by simp only[St.push];rw[if_neg (by omega)]⟩
theorem Lz (l:B8):(A5 l).length=l.length:=by simp[A5]
theorem GK:∀l:B8,CH (A5 l)=some l
 | []=>rfl
 | c::l=>by
  have:=GK l
  simp only[A5]at this
  simp[A5,CH,S9,Qf,this]
theorem LF (a b:B8):A5 a++A5 b=A5 (a++b):=by simp[A5]
def Rd (sz:Nat) (v:TV) (n:Nat) (xs:List TV):Prop:=
 (v= .nilSlice/\n=0/\xs=[])∨∃tip,v= .list sz tip n xs
theorem Rd.isSl {sz:Nat} {v:TV} {n:Nat} {xs:List TV} (h:Rd sz v n xs):TVF.isSl v=true:=by
 rcases h with⟨rfl,_⟩ | ⟨tip,rfl⟩<;>rfl
theorem Rd.lenS {sz:Nat} {v:TV} {n:Nat} {xs:List TV} (h:Rd sz v n xs):TVF.lenS v=n:=by
 rcases h with⟨rfl,rfl,_⟩ | ⟨tip,rfl⟩<;>rfl
theorem Rd.lenZ {sz:Nat} {v:TV} {n:Nat} {xs:List TV} (h:Rd sz v n xs):TVF.lenZ sz v=n:=by
 rcases h with⟨rfl,rfl,_⟩ | ⟨tip,rfl⟩
 ·rfl
 ·simp[TVF.lenZ]
theorem Rd.one {sz:Nat} {v:TV} {n:Nat} {xs:List TV} (h:Rd sz v n xs):Aw v=true:=by
 rcases h with⟨rfl,rfl,_⟩ | ⟨tip,rfl⟩<;>rfl
theorem Rd.ld {sz:Nat} {v:TV} {n:Nat} {xs:List TV} (h:Rd sz v n xs) (st:St) (i j:Nat) (hi:i*sz+j<xs.length):Ab st [] (.t (ixT sz v i)) j=some xs[i*sz+j]:=by
 rcases h with⟨rfl,rfl,rfl⟩ | ⟨tip,rfl⟩
 ·simp at hi
 ·simp[Ab,ixT,hi]
theorem src_str (st:St) (l:B8):BW st 1 (.str l)=some (l.length,A5 l):=rfl
theorem Ac {b:Bool} {k:Prop} (h:b=true) (hk:k):need b k:=Ap.2 ⟨h,hk⟩
theorem Ag {α:Type} {o:Option α} {x:α} {k:α->Prop} (h:o=some x) (hk:k x):Ai o k:=by rw[h];exact hk
theorem Ar (x:Int) (h1: -9223372036854775808<=x) (h2:x<=9223372036854775807):IntKind.wrap .i64 x=x:=by
 unfold IntKind.wrap
 simp only[IntKind.signed,IntKind.bits]
 simp
 omega
theorem My (x:Int) (h1:0<=x) (h2:x<=255):IntKind.wrap .u8 x=x:=by
 unfold IntKind.wrap
 simp only[IntKind.signed,IntKind.bits]
 simp
 omega
end Go.TVF
end
section
namespace Go.TVF
open Go.IntKind(i64 u8)
open Go.RowKit (Below)
theorem Ta {r:TV} {st':St} (h:Fg [.one .bool] r (fun (b:Bool) (_:St)=>b=true) (fun p=>p st')):r= .bool true:=by
 cases r<;>simp only[Fg,Ey,Aj]at h<;>first | exact h.elim | skip
 subst h;rfl
theorem calls_law {P:Program} {f:FuncId} {args:List TV} (hcall:∀(vs:Array Value) (w:World),(callFunc f vs).run P w= .ok (.enter f vs) w) (h:Ae P f args [.one .bool] St.zero (fun r _=>r=true)) (w:World) (hG:∀w',Below w.heap.size w w'->GlobOK w') (vargs:List Value) (hr:AM (Ghost.start w) w args vargs):
  Calls P f vargs.toArray w fun e w'=>e= .returned (.bool true)/\Below w.heap.size w w':=
 P7 hcall (ED.mono h fun r st' hd=>Ta hd) w hG vargs hr
theorem rel_string (g:Ghost) (w:World) (s:ByteArray):Rel g w (.str s.data.toList) (.string s):=by
 have:=Rel.str (g:=g) (w:=w) s.data.toList
 simpa using this
def flatIs:List CTy->List TV->Prop
 | [],xs=>xs=[]
 | .int k::cs,xs=>∃n ys,xs= .int k n::ys/\(Lit.int k n).wf=true/\flatIs cs ys
 | .str::cs,xs=>∃l ys,xs= .str l::ys/\l.length<=maxLen/\flatIs cs ys
 | .bool::cs,xs=>∃b ys,xs= .bool b::ys/\flatIs cs ys
 | .tv::_,_=>False
def Ny (P:Program):CTy->TypeId->Prop
 | .int k,t=>P.underlying t=some (.int k)
 | .bool,t=>P.underlying t=some .bool
 | .str,t=>P.underlying t=some .string
 | .tv,_=>False
def FieldsTy (P:Program):List CTy->List Field->Nat->Prop
 | [],[],_=>True
 | c::cs,f::fs,o=>f.offset=o/\P.cellsOf f.type=1/\Ny P c f.type/\FieldsTy P cs fs (o+1)
 | _,_,_=>False
section
variable {H:Type} {enc:TypeId×Value->H} {P:Program} {w:World} {base:Nat} {sp:Nat->Bool} {held:Bool}
theorem IS {c:CTy} {t:TypeId} {fuel:Nat} {cs:List Value} {x:DataW H×List MemPlace} (g:Ghost) (hc:Ny P c t) (h:DataW.trod enc P w base sp held fuel t cs=some x):
  ∃v u,cs=[u]/\Rel g w v u/\flatIs [c] [v]:=by
 cases c with
 | int k=>
  obtain⟨n,rfl,_,hw⟩:=DataW.trod_int hc h
  exact⟨_,_,rfl,.int k n,n,[],rfl,hw,rfl⟩
 | bool=>
  obtain⟨b,rfl,_⟩:=DataW.trod_bool hc h
  exact⟨_,_,rfl,.bool b,b,[],rfl,rfl⟩
 | str=>
  obtain⟨s,rfl,_,hs⟩:=DataW.trod_string hc h
  exact⟨_,_,rfl,rel_string g w s,_,[],rfl,by rw[Array.length_toList];exact hs,rfl⟩
 | tv=>exact hc.elim
theorem flatIs.cons {c:CTy} {cs:List CTy} {v:TV} {xs:List TV} (h:flatIs [c] [v]) (k:flatIs cs xs):flatIs (c::cs) (v::xs):=by
 cases c with
 | int _=>
  obtain⟨n,ys,h1,h2,_⟩:=h
  simp only[List.cons.injEq]at h1
  exact⟨n,xs,by rw[h1.1],h2,k⟩
 | bool=>
  obtain⟨b,ys,h1,_⟩:=h
  simp only[List.cons.injEq]at h1
  exact⟨b,xs,by rw[h1.1],k⟩
 | str=>
  obtain⟨l,ys,h1,h2,_⟩:=h
  simp only[List.cons.injEq]at h1
  exact⟨l,xs,by rw[h1.1],h2,k⟩
 | tv=>exact h.elim
theorem Jq {n:Nat} {vs:List Value} (g:Ghost):∀(cs:List CTy) (fs:List Field) (o:Nat) (xs:List (DataW H×List MemPlace)),FieldsTy P cs fs o->xs.length=fs.length->vs.length=o+cs.length->
  (∀(i:Nat) (f:Field),fs[i]? =some f->DataW.trod enc P w base sp held n f.type ((vs.drop f.offset).take (P.cellsOf f.type))=xs[i]?)->∃tv,AM g w tv (vs.drop o)/\flatIs cs tv
 | [],[],o,xs,_,_,hl,_=>⟨[],by rw[List.drop_of_length_le (by simp at hl;omega)];exact .nil _ _,rfl⟩
 | c::cs,f::fs,o,[],_,hx,_,_=>by simp at hx
 | c::cs,f::fs,o,x::xs,ht,hx,hl,hd=>by
  obtain⟨h1,h2,h3,h4⟩:=ht
  have hd0:=hd 0 f rfl
  rw[h1,h2]at hd0
  obtain⟨v,u,hu,hr,hf⟩:=IS g h3 hd0
  obtain⟨tv,hr',hf'⟩:=Jq (n:=n) (vs:=vs) g cs fs (o+1) xs h4 (by simpa using hx) (by simp at hl;omega) (fun i f' hi=>by simpa using hd (i+1) f' (by simpa using hi))
  refine⟨v::tv,?_,hf.cons hf'⟩
  have hlt:o<vs.length:=by simp at hl;omega
  rw[List.drop_eq_getElem_cons hlt]
  rw[List.drop_eq_getElem_cons hlt]at hu
  simp only[List.take_succ_cons,List.take_zero,List.cons.injEq]at hu
  rw[hu.1]
  exact .cons hr hr'
 | [],f::fs,o,xs,ht,_,_,_=>ht.elim
 | c::cs,[],o,xs,ht,_,_,_=>ht.elim
theorem F0 (b off i:Nat):(⟨b,off,none⟩:Addr).add i=⟨b,off+i,none⟩:=by
 unfold Addr.add;split
 ·rename_i h;subst h;rfl
 ·rfl
def Opens (enc:TypeId×Value->H) (P:Program) (w:World) (base:Nat) (sp:Nat->Bool) (held:Bool) (cs:List CTy) (e:TypeId):Prop:=
 ∀(g:Ghost) n vs x,DataW.trod enc P w base sp held n e vs=some x->∃tv,AM g w tv vs/\flatIs cs tv
theorem opens_struct {cs:List CTy} {e:TypeId} {fs:Array Field} (ht:P.underlying e=some (.struct fs)) (hf:FieldsTy P cs fs.toList 0) (hc:P.cellsOf e=cs.length):Opens enc P w base sp held cs e:=fun g n vs x hd=>by
 obtain⟨xs,m,rfl,_,hl,hx,hi⟩:=DataW.trod_struct ht hd
 have:=Jq (enc:=enc) (P:=P) (w:=w) (base:=base) (sp:=sp) (held:=held) (n:=m) (vs:=vs) g cs fs.toList 0 xs hf (by simpa using hx) (by omega) (fun i f h=>hi i f (by simpa using h))
 simpa using this
end
end Go.TVF
end
namespace Go.TVF
open Go.IntKind(i64 u8)
open Go Go.Proofs
theorem mixed:Tryz.prog.follows .mixedOrders=true:=by kernel_rfl
noncomputable def PR:Program:=Tryz.prog
abbrev V13(X:Type):=Int->Bool->Bool->B8->Int->Int->Int->Int->Int->B8->TV->TV->TV->X
abbrev sV:RTy:=.agg [.int .i64,.bool,.bool,.str,.int .i64,.int .i64,.int .i64,.int .i64,.int .i64,.str,.tv,.tv,.tv]
abbrev cV(a:Int)(b c:Bool)(d:B8)(e f g h i:Int)(j:B8)(k l m:TV):List TV:=[.int .i64 a,.bool b,.bool c,.str d,.int .i64 e,.int .i64 f,.int .i64 g,.int .i64 h,.int .i64 i,.str j,k,l,m]
abbrev BId(p:Prop)[Decidable p](a b:Prop):Prop:=BIf (decide p) a b
def Bd:Nat:=5
def B6:Nat:=16
def Bf:Nat:=17
def BV:Nat:=20
def Az:Nat:=24
def BY:Nat:=25
def Cj:Nat:=26
def AS:Nat:=29
def AT:Nat:=31
def Ax:Nat:=37
def Dh:Nat:=62
def Di:Nat:=63
def Hc:Nat:=68
def Es:Nat:=69
def Er:Nat:=70
def A7:Nat:=74
def A6:Nat:=75
def Bt:Nat:=76
def At:Nat:=77
def AN:Nat:=78
def Bu:Nat:=82
def AJ:Nat:=83
def B2:Nat:=93
def Hd:Nat:=94
def E5:Nat:=95
def BP:Nat:=96
def D3:Nat:=97
def BX:Nat:=98
def Du:Nat:=99
def Br:Nat:=128
def E7:Nat:=133
def Be:Nat:=134
def AQ:Nat:=135
def Ay:Nat:=136
def A0:Nat:=137
def AH:Nat:=138
def Af:Nat:=139
def Aq:Nat:=140
def As:Nat:=142
def Dg:Nat:=146
def AW:Nat:=156
def Ck:Nat:=157
def Dr:Nat:=158
def Cw:Nat:=159
def BZ:Nat:=160
def B5:Nat:=161
def DL:Nat:=162
def DJ:Nat:=203
def GE:Nat:=210
def E6:Nat:=211
def FQ:Nat:=212
def Al:Nat:=213
def Ao:Nat:=214
def AF:Nat:=215
def B4:Nat:=216
def CF:Nat:=235
def DI:Nat:=236
def DK:Nat:=241
def Ba:Nat:=242
def Bx:Nat:=243
def AE:Nat:=244
def Bl:Nat:=245
def Ca:Nat:=246
def CZ:Nat:=247
def DH:Nat:=267
def Df:Nat:=272
def Dy:Nat:=289
def Au:Nat:=290
def By:Nat:=291
def B9:Nat:=292
def Ds:Nat:=293
def E8:Nat:=301
def Kk:B8:=[97,44,98,10]
def MH:B8:=[49,44]
def Ph:B8:=[120]
def str5:B8:=[97,44,34,98]
def str6:B8:=[99,34]
def str7:B8:=[97,34]
def str8:B8:=[98]
def Qr:B8:=[116,114,117,101]
def str13:B8:=[102,97,108,115,101]
def R4:B8:=[48]
def Qq:B8:=[45]
def str16:B8:=[46]
def str20:B8:=[43]
def Qp:B8:=[58]
def str25:B8:=[84,116,32]
def str31:B8:=[90,122,43,45]
theorem Db (s:B8) (st:St) (K:Bool->St->Prop) (h:Ae PR Az [.nilPtr,.str s] [.one .tv,.one (.int .i64)] st (fun (v1:TV) (n1:Int) f=>Ae PR AT [.nilPtr] [.one .tv,.one (.int .i64)] f (fun (v2:TV) (n2:Int) a=>need (isSl v1) (BId ((lenS v1:Int)=(0:Int)) (BId (n1=29) (need (isSl v2) (BId ((lenS v2:Int)=(0:Int)) (BId (n2=29) (Ae PR Cj [.nilPtr] [.one (.int .i64)] a (fun (n3:Int) b=>BId (n3=0) (Ae PR AS [.nilPtr] [.one .tv] b (fun (v3:TV) d=>need (isSl v3) (BId ((lenS v3:Int)=(0:Int)) (Ae PR BY [.nilPtr] [.one (.int .i64)] d (fun (n4:Int) c=>BId (n4=0) (Ae PR B6 [] [.one .bool] c (fun (b1:Bool) e=>K b1 e)) (K false c))) (K false d)))) (K false b))) (K false a)) (K false a))) (K false a)) (K false a))))):Ae PR Bd [.str s] [.one .bool] st K:=
 Am (cfg:=⟨[],[],[]⟩) (h:= .none) mixed (fun _ _=>Tryz.call5 _ _) Tryz.func5 (by kernel_rfl) (by kernel_rfl) h
theorem Gg (st:St) (K:Bool->St->Prop) (h:Ae PR Dh [] [.agg [.int .u8,.int .u8,.bool,.bool]] st (fun (n1 n2:Int) (b1 b2:Bool) m=>Ae PR Di [] [.agg [.int .i64,.int .i64,.int .i64,.int .i64,.int .i64]] m (fun (n3 n4 n5 n6 n7:Int) i=>Ae PR BV [(.agg [.int .u8 n1,.int .u8 n2,.bool b1,.bool b2]),(.agg [.int .i64 n3,.int .i64 n4,.int .i64 n5,.int .i64 n6,.int .i64 n7]),.int .i64 10] [.one .tv,.one (.int .i64)] i (fun (v1:TV) (n8:Int) b=>BId (n8≠0) (K false b) (Ae PR Az [v1,.str Kk] [.one .tv,.one (.int .i64)] b (fun (v2:TV) (n9:Int) q=>Ae PR AS [v1] [.one .tv] q (fun (v3:TV) o=>Ae PR Az [v1,.str MH] [.one .tv,.one (.int .i64)] o (fun (v4:TV) (j:Int) k=>Ae PR Az [v1,.str Ph] [.one .tv,.one (.int .i64)] k (fun (v5:TV) (p:Int) d=>Ae PR AT [v1] [.one .tv,.one (.int .i64)] d (fun (v6:TV) (l:Int) r=>Ae PR Bf [(.list 1 .full 2 [.str str5,.str str6]),(.agg [.int .u8 n1,.int .u8 n2,.bool b1,.bool b2]),(.agg [.int .i64 n3,.int .i64 n4,.int .i64 n5,.int .i64 n6,.int .i64 n7]),.int .i64 3] [.one .tv,.one (.int .i64),.one (.int .i64)] r (fun (v7:TV) (n e:Int) c=>Ae PR Bf [(.list 1 .full 1 [.str str7]),(.agg [.int .u8 n1,.int .u8 n2,.bool b1,.bool b2]),(.agg [.int .i64 n3,.int .i64 n4,.int .i64 n5,.int .i64 n6,.int .i64 n7]),.int .i64 3] [.one .tv,.one (.int .i64),.one (.int .i64)] c (fun (v8:TV) (f g:Int) a=>BId (n9≠0) (K false a) (BId (j≠0) (K false a) (BId (p≠0) (K false a) (BId (l≠0) (K false a) (need (isSl v2) (BId ((lenS v2:Int)≠(1:Int)) (K false a) (need (isSl v4) (BId ((lenS v4:Int)≠(3:Int)) (K false a) (need (isSl v5) (BId ((lenS v5:Int)≠(0:Int)) (K false a) (need (isSl v6) (BId ((lenS v6:Int)≠(4:Int)) (K false a) (need (isSl v3) (BId ((lenS v3:Int)≠(2:Int)) (K false a) (((0<=(1:Int)/\(1:Int)<(lenZ 1 v3:Int))/\Ai (Ab a [] (.t (ixT 1 v3 (Int.toNat (1:Int)))) 0) (fun (x1:TV)=>Aj .str x1 (fun (s1:B8)=>BId (s1≠str8) (K false a) (BId (n=2) (BId (e=28) (BId (f=1) (K ((decide (g=3))) a) (K false a)) (K false a)) (K false a))))))))))))))))))))))))))))))):Ae PR B6 [] [.one .bool] st K:=
 Am (cfg:=⟨[1,2],[],[]⟩) (h:= .none) mixed (fun _ _=>Tryz.call16 _ _) Tryz.func16 (by kernel_rfl) (by kernel_rfl) h
theorem Gd (parts:TV) (d_0:Int) (d_1:Int) (d_2:Bool) (d_3:Bool) (l_0:Int) (l_1:Int) (l_2:Int) (l_3:Int) (l_4:Int) (size:Int) (st:St) (K:TV->Int->Int->St->Prop) (h:Ae PR BV [(.agg [.int .u8 d_0,.int .u8 d_1,.bool d_2,.bool d_3]),(.agg [.int .i64 l_0,.int .i64 l_1,.int .i64 l_2,.int .i64 l_3,.int .i64 l_4]),.int .i64 size] [.one .tv,.one (.int .i64)] st (fun (v1:TV) (n1:Int) j=>BId (n1≠0) (K .nilSlice 0 n1 j) (need (isSl parts) (∃(I1:TV->Int->TV->TV->Int->St->Prop) (M1:TV->Int->TV->TV->Int->St->Nat),(I1 .nilSlice 0 v1 parts ((lenS parts:Int)) j)/\∀c b a d e f,I1 c b a d e f->(BId (b<e) (((0<=b/\b<(lenZ 1 d:Int))/\Ai (Ab f [] (.t (ixT 1 d b.toNat)) 0) (fun (x1:TV)=>Aj .str x1 (fun (s1:B8)=>Ae PR Az [a,.str s1] [.one .tv,.one (.int .i64)] f (fun (v2:TV) (n2:Int) i=>Ai (BW i 15 v2) (fun (q1:Nat×List TV)=>need (List.all q1.2 Aw) (AU 118 15 192 c q1.1 q1.2 i (fun (v3:TV) k=>(I1 v3 ((i64.wrap (b+(1:Int)))) a d e k/\M1 v3 ((i64.wrap (b+(1:Int)))) a d e k<M1 c b a d e f))))))))) (Ae PR AT [a] [.one .tv,.one (.int .i64)] f (fun (v4:TV) (n3:Int) g=>BId (n3≠0) (need (Aa a) (need (Aa a) (Ai (Ab g [] (.t (Ah a 27)) 0) (fun (x2:TV)=>Aj (.int .i64) x2 (fun (n4:Int)=>K .nilSlice n4 n3 g))))) (Ai (BW g 15 v4) (fun (q2:Nat×List TV)=>need (List.all q2.2 Aw) (AU 118 15 192 c q2.1 q2.2 g (fun (v5:TV) l=>K v5 0 0 l))))))))))):Ae PR Bf [parts,(.agg [.int .u8 d_0,.int .u8 d_1,.bool d_2,.bool d_3]),(.agg [.int .i64 l_0,.int .i64 l_1,.int .i64 l_2,.int .i64 l_3,.int .i64 l_4]),.int .i64 size] [.one .tv,.one (.int .i64),.one (.int .i64)] st K:=
 Am (cfg:=⟨[5,6],[],[]⟩) (h:=(.seq .none (.seq .none (.seq .none (.seq .none (.seq (.seq .none (.block (.loop ⟨[(13,.tv),(31,.int .i64),(11,.tv),(29,.tv),(30,.int .i64)],[],[],[]⟩ .none))) .none)))))) mixed (fun _ _=>Tryz.call17 _ _) Tryz.func17 (by kernel_rfl) (by kernel_rfl) h
theorem Hm (d_0:Int) (d_1:Int) (d_2:Bool) (d_3:Bool) (l_0:Int) (l_1:Int) (l_2:Int) (l_3:Int) (l_4:Int) (size:Int) (st:St) (K:TV->Int->St->Prop) (h:Ae PR Hc [.int .i64 size] [.one .tv,.one (.int .i64)] st (fun (v1:TV) (n1:Int) c=>BId (n1≠0) (K .nilPtr 1 c) (Ae PR Es [(.agg [.int .u8 d_0,.int .u8 d_1,.bool d_2,.bool d_3])] [.one .bool] c (fun (b1:Bool) b=>BIf (!b1) (K .nilPtr 1 b) (Ae PR Er [(.agg [.int .i64 l_0,.int .i64 l_1,.int .i64 l_2,.int .i64 l_3,.int .i64 l_4])] [.one .bool] b (fun (b2:Bool) a=>BIf (!b2) (K .nilPtr 1 a) (need (List.all [v1,(.map a.nb)] Aw) (K ((.box (a.push (.map []) none).nb 0)) 0 ((a.push (.map []) none).push (.cells [v1,.int .u8 d_0,.int .u8 d_1,.bool d_2,.bool d_3,.int .i64 l_0,.int .i64 l_1,.int .i64 l_2,.int .i64 l_3,.int .i64 l_4,.int .i64 0,.bool false,.bool false,.int .i64 0,.int .i64 0,.int .i64 0,.nilSlice,(.map a.nb),.bool false,.int .i64 1,.int .i64 0,.int .i64 0,.int .i64 0,.int .i64 0,(.int .i64 (-1:Int)),(.str []),.nilSlice,.int .i64 0,.int .i64 0,.bool false]) (some 113)))))))))):Ae PR BV [(.agg [.int .u8 d_0,.int .u8 d_1,.bool d_2,.bool d_3]),(.agg [.int .i64 l_0,.int .i64 l_1,.int .i64 l_2,.int .i64 l_3,.int .i64 l_4]),.int .i64 size] [.one .tv,.one (.int .i64)] st K:=
 Am (cfg:=⟨[3,4],[],[]⟩) (h:= .none) mixed (fun _ _=>Tryz.call20 _ _) Tryz.func20 (by kernel_rfl) (by kernel_rfl) h
theorem Ek (r:Nat) (s:B8) (st:St) (K:TV->Int->St->Prop) (h:Ai (Ab st [] (.t (.box r 0)) 0) (fun (v1:TV)=>need (M5 v1) (BIf (IX v1) (K .nilSlice 29 st) (Ai (Ab st [] (.t (.box r 29)) 0) (fun (x2:TV)=>Aj .bool x2 (fun (b1:Bool)=>BIf b1 (K .nilSlice 29 st) (Ae PR A7 [(.box r 0)] [] st (fun (i:St)=>Ae PR A6 [(.box r 0),.str s,.bool false] [] i (fun (k:St)=>∃(I1:Int->TV->B8->St->Prop) (M1:Int->TV->B8->St->Nat),(I1 0 ((.box r 0)) s k)/\∀c a b d,I1 c a b d->(BId (c<(b.length:Int)) (need (Aa a) (need (Aa a) (Ai (Ab d [] (.t (Ah a 28)) 0) (fun (x3:TV)=>Aj (.int .i64) x3 (fun (n1:Int)=>BId (n1=0) (((0<=c/\c<(b.length:Int))/\need (Aa a) (need (Aa a) (Ai (Ab d [] (.t (Ah a 23)) 0) (fun (x4:TV)=>Aj (.int .i64) x4 (fun (n2:Int)=>Ae PR Bt [a,(.int .u8 ((List.getD b c.toNat 0).toNat:Int)),(.int .i64 (i64.wrap (n2+c)))] [] d (fun (e:St)=>(Ab e [] (.t (Ah a 23)) 0=some (.int .i64 n2)/\(I1 ((i64.wrap (c+(1:Int)))) a b e/\M1 ((i64.wrap (c+(1:Int)))) a b e<M1 c a b d))))))))) (need (Aa a) (need (Aa a) (Ai (Ab d [] (.t (Ah a 23)) 0) (fun (x5:TV)=>Aj (.int .i64) x5 (fun (n3:Int)=>need (Aa a) (need (Aa a) (stB d (Ah a 23) [(.int .i64 (i64.wrap (n3+(b.length:Int))))] (fun j=>Ae PR At [a] [.one .tv] j (fun (v2:TV) g=>K v2 0 g)))))))))))))) (need (Aa a) (need (Aa a) (Ai (Ab d [] (.t (Ah a 23)) 0) (fun (x6:TV)=>Aj (.int .i64) x6 (fun (n4:Int)=>need (Aa a) (need (Aa a) (stB d (Ah a 23) [(.int .i64 (i64.wrap (n4+(b.length:Int))))] (fun f=>Ae PR At [a] [.one .tv] f (fun (v3:TV) l=>K v3 0 l))))))))))))))))))):Ae PR Az [(.box r 0),.str s] [.one .tv,.one (.int .i64)] st K:=
 Am (cfg:=⟨[],[],[47]⟩) (h:=(.seq .none (.seq .none (.seq .none (.seq .none (.seq (.seq .none (.block (.loop ⟨[(6,.int .i64),(0,.tv),(1,.str)],[],[],[]⟩ .none))) .none)))))) mixed (fun _ _=>Tryz.call24 _ _) Tryz.func24 (by kernel_rfl) (by kernel_rfl) h
theorem Dw (r:Nat) (st:St) (K:TV->St->Prop) (h:Ai (Ab st [] (.t (.box r 18)) 0) (fun (x1:TV)=>Aj .bool x1 (fun (b1:Bool)=>BIf (!b1) (K .nilSlice st) (Ai (Ab st [] (.t (.box r 3)) 0) (fun (x2:TV)=>Aj .bool x2 (fun (b2:Bool)=>BIf (!b2) (K .nilSlice st) (Ai (Ab st [] (.t (.box r 16)) 0) (fun (v1:TV)=>Ai (BW st 1 v1) (fun (q1:Nat×List TV)=>need (List.all q1.2 Aw) (AU 9 1 16 (.list 1 .full 0 []) q1.1 q1.2 st (fun (v2:TV) a=>K v2 a))))))))))):Ae PR AS [(.box r 0)] [.one .tv] st K:=
 Am (cfg:=⟨[],[],[]⟩) (h:= .none) mixed (fun _ _=>Tryz.call29 _ _) Tryz.func29 (by kernel_rfl) (by kernel_rfl) h
theorem EH (r:Nat) (st:St) (K:TV->Int->St->Prop) (h:Ai (Ab st [] (.t (.box r 0)) 0) (fun (v1:TV)=>need (M5 v1) (BIf (IX v1) (K .nilSlice 29 st) (Ai (Ab st [] (.t (.box r 29)) 0) (fun (x2:TV)=>Aj .bool x2 (fun (b1:Bool)=>BIf b1 (K .nilSlice 29 st) (Ae PR A7 [(.box r 0)] [] st (fun (a6:St)=>Ae PR A6 [(.box r 0),(.str []),.bool true] [] a6 (fun (n:St)=>∃(C1:TV->St->Prop),(Ai (Ab n [] (.t (.box r 28)) 0) (fun (x3:TV)=>Aj (.int .i64) x3 (fun (n1:Int)=>BId (n1=0) (Ae PR Bu [(.box r 0)] [] n (fun (b5:St)=>C1 ((.box r 0)) b5)) (C1 ((.box r 0)) n))))/\∀a b,C1 a b->(need (Aa a) (need (Aa a) (Ai (Ab b [] (.t (Ah a 23)) 0) (fun (x4:TV)=>Aj (.int .i64) x4 (fun (n2:Int)=>need (Aa a) (need (Aa a) (need (Aa (Ah a 5)) (Ai (Ab b [] (.t (Ah (Ah a 5) 2)) 0) (fun (x5:TV)=>Aj (.int .i64) x5 (fun (n3:Int)=>BId (n3<n2) (need (Aa a) (need (Aa a) (stB b (Ah a 27) [.int .i64 0] (fun a8=>need (Aa a) (need (Aa a) (stB a8 (Ah a 28) [.int .i64 10] (fun b6=>Ae PR At [a] [.one .tv] b6 (fun (v2:TV) i=>need (Aa a) (need (Aa a) (Ai (Ab i [] (.t (Ah a 0)) 0) (fun (v3:TV)=>need (Aa a) (need (Aa a) (Ai (Ab i [] (.t (Ah a 0)) 0) (fun (v4:TV)=>Ae PR AN [v4] [.one (.int .i64)] i (fun (n4:Int) s=>(Ab s [] (.t (Ah a 0)) 0=some v3/\Ae PR AJ [v3,.int .i64 n4] [.one .str,.one (.int .i64)] s (fun (s1:B8) (n5:Int) p=>(Ab p [] (.t (Ah a 0)) 0=some v4/\need (Aa a) (need (Aa a) (stB p (Ah a 29) [.bool true] (fun v=>need (Aa a) (need (Aa a) (stB v (Ah a 18) [.bool true] (fun e=>need (Aa a) (need (Aa a) (Ai (Ab e [] (.t (Ah a 28)) 0) (fun (x8:TV)=>Aj (.int .i64) x8 (fun (n6:Int)=>BId (n6≠0) (need (Aa a) (need (Aa a) (Ai (Ab e [] (.t (Ah a 28)) 0) (fun (x9:TV)=>Aj (.int .i64) x9 (fun (n7:Int)=>K .nilSlice n7 e))))) (AU 118 15 192 v2 1 [.int .i64 3,(.str []),.int .i64 0,.bool false,.bool false,(.str []),.int .i64 0,.int .i64 0,.int .i64 0,.int .i64 0,.int .i64 0,(.str []),.nilSlice,.nilSlice,.nilSlice] e (fun (v5:TV) u=>K v5 0 u)))))))))))))))))))))))))))))) (need (Aa a) (need (Aa a) (Ai (Ab b [] (.t (Ah a 24)) 0) (fun (a9:TV)=>Aj (.int .i64) a9 (fun (n8:Int)=>BId ((0:Int)<=n8) (need (Aa a) (need (Aa a) (Ai (Ab b [] (.t (Ah a 24)) 0) (fun (a4:TV)=>Aj (.int .i64) a4 (fun (n9:Int)=>need (Aa a) (need (Aa a) (stB b (Ah a 27) [.int .i64 n9] (fun w=>need (Aa a) (need (Aa a) (stB w (Ah a 28) [.int .i64 5] (fun a0=>Ae PR At [a] [.one .tv] a0 (fun (v6:TV) g=>need (Aa a) (need (Aa a) (Ai (Ab g [] (.t (Ah a 0)) 0) (fun (v7:TV)=>need (Aa a) (need (Aa a) (Ai (Ab g [] (.t (Ah a 0)) 0) (fun (v8:TV)=>Ae PR AN [v8] [.one (.int .i64)] g (fun (b4:Int) k=>(Ab k [] (.t (Ah a 0)) 0=some v7/\Ae PR AJ [v7,.int .i64 b4] [.one .str,.one (.int .i64)] k (fun (s2:B8) (c2:Int) l=>(Ab l [] (.t (Ah a 0)) 0=some v8/\need (Aa a) (need (Aa a) (stB l (Ah a 29) [.bool true] (fun z=>need (Aa a) (need (Aa a) (stB z (Ah a 18) [.bool true] (fun c=>need (Aa a) (need (Aa a) (Ai (Ab c [] (.t (Ah a 28)) 0) (fun (a7:TV)=>Aj (.int .i64) a7 (fun (b7:Int)=>BId (b7≠0) (need (Aa a) (need (Aa a) (Ai (Ab c [] (.t (Ah a 28)) 0) (fun (b9:TV)=>Aj (.int .i64) b9 (fun (b8:Int)=>K .nilSlice b8 c))))) (AU 118 15 192 v6 1 [.int .i64 3,(.str []),.int .i64 0,.bool false,.bool false,(.str []),.int .i64 0,.int .i64 0,.int .i64 0,.int .i64 0,.int .i64 0,(.str []),.nilSlice,.nilSlice,.nilSlice] c (fun (v9:TV) x=>K v9 0 x)))))))))))))))))))))))))))))))))) (Ae PR At [a] [.one .tv] b (fun (b3:TV) f=>need (Aa a) (need (Aa a) (Ai (Ab f [] (.t (Ah a 0)) 0) (fun (o:TV)=>need (Aa a) (need (Aa a) (Ai (Ab f [] (.t (Ah a 0)) 0) (fun (q:TV)=>Ae PR AN [q] [.one (.int .i64)] f (fun (a2:Int) j=>(Ab j [] (.t (Ah a 0)) 0=some o/\Ae PR AJ [o,.int .i64 a2] [.one .str,.one (.int .i64)] j (fun (s3:B8) (c1:Int) m=>(Ab m [] (.t (Ah a 0)) 0=some q/\need (Aa a) (need (Aa a) (stB m (Ah a 29) [.bool true] (fun a1=>need (Aa a) (need (Aa a) (stB a1 (Ah a 18) [.bool true] (fun d=>need (Aa a) (need (Aa a) (Ai (Ab d [] (.t (Ah a 28)) 0) (fun (b0:TV)=>Aj (.int .i64) b0 (fun (b2:Int)=>BId (b2≠0) (need (Aa a) (need (Aa a) (Ai (Ab d [] (.t (Ah a 28)) 0) (fun (c0:TV)=>Aj (.int .i64) c0 (fun (a5:Int)=>K .nilSlice a5 d))))) (AU 118 15 192 b3 1 [.int .i64 3,(.str []),.int .i64 0,.bool false,.bool false,(.str []),.int .i64 0,.int .i64 0,.int .i64 0,.int .i64 0,.int .i64 0,(.str []),.nilSlice,.nilSlice,.nilSlice] d (fun (a3:TV) y=>K a3 0 y)))))))))))))))))))))))))))))))))))))))))))))))):Ae PR AT [(.box r 0)] [.one .tv,.one (.int .i64)] st K:=
 Am (cfg:=⟨[],[],[69,73]⟩) (h:=(.seq .none (.seq .none (.seq .none (.seq .none (.cut ⟨[(0,.tv)],[],[],[]⟩ .none .none)))))) mixed (fun _ _=>Tryz.call31 _ _) Tryz.func31 (by kernel_rfl) (by kernel_rfl) h
theorem MB (s:B8) (quoted:Bool) (d_0:Int) (d_1:Int) (d_2:Bool) (d_3:Bool) (st:St) (K:V13 (St->Prop)) (h:BIf (!d_3) (Ae PR B2 [.str s] [sV] st (fun (n1:Int) (b1 b2:Bool) (s1:B8) (n2 n3 n4 n5 n6:Int) (s2:B8) (v1 v2 v3:TV) k4=>need (List.all (cV n1 b1 b2 s1 n2 n3 n4 n5 n6 s2 v1 v2 v3) Aw) (K n1 b1 b2 s1 n2 n3 n4 n5 n6 s2 v1 v2 v3 k4))) (BIf quoted (Ae PR B2 [.str s] [sV] st (fun (n7:Int) (b3 b4:Bool) (s3:B8) (n8 n9 g5 g7 d4:Int) (s4:B8) (v4 v5 v6:TV) l2=>need (List.all (cV n7 b3 b4 s3 n8 n9 g5 g7 d4 s4 v4 v5 v6) Aw) (K n7 b3 b4 s3 n8 n9 g5 g7 d4 s4 v4 v5 v6 l2))) (BId (s=([]:B8)) (Ae PR Hd [] [sV] st (fun (g6:Int) (b5 b6:Bool) (s5:B8) (d j1 g1 f6 f0:Int) (s6:B8) (v7 v8 v9:TV) l5=>need (List.all (cV g6 b5 b6 s5 d j1 g1 f6 f0 s6 v7 v8 v9) Aw) (K g6 b5 b6 s5 d j1 g1 f6 f0 s6 v7 v8 v9 l5))) (BId (s=Qr) (BId (s=Qr) (Ae PR E5 [(.bool (decide (s=Qr)))] [sV] st (fun (f4:Int) (b7 b8:Bool) (s7:B8) (d7 a6 d0 c9 r:Int) (s8:B8) (h4 f g9:TV) k3=>need (List.all (cV f4 b7 b8 s7 d7 a6 d0 c9 r s8 h4 f g9) Aw) (K f4 b7 b8 s7 d7 a6 d0 c9 r s8 h4 f g9 k3))) (Ae PR BP [.str s] [.agg [.bool,.str,.int .i64],.one (.int .i64)] st (fun (b9:Bool) (s9:B8) (k2 m2:Int) i7=>BId (m2=0) (Ae PR D3 [(.agg [.bool b9,.str s9,.int .i64 k2])] [sV] i7 (fun (e7:Int) (j6 e0:Bool) (e5:B8) (h2 c7 e3 h5 d3:Int) (a9:B8) (c2 a1 f7:TV) l6=>need (List.all (cV e7 j6 e0 e5 h2 c7 e3 h5 d3 a9 c2 a1 f7) Aw) (K e7 j6 e0 e5 h2 c7 e3 h5 d3 a9 c2 a1 f7 l6))) (Ae PR BX [.str s] [.agg [.int .i64,.int .i64,.int .i64,.int .i64],.one (.int .i64)] i7 (fun (k5 k8 m3 k9 m4:Int) c1=>BId (m4=0) (Ae PR Du [(.agg [.int .i64 k5,.int .i64 k8,.int .i64 m3,.int .i64 k9])] [sV] c1 (fun (e9:Int) (f1 f8:Bool) (a3:B8) (o a7 j l h8:Int) (w:B8) (e c5 j2:TV) l3=>need (List.all (cV e9 f1 f8 a3 o a7 j l h8 w e c5 j2) Aw) (K e9 f1 f8 a3 o a7 j l h8 w e c5 j2 l3))) (Ae PR B2 [.str s] [sV] c1 (fun (h3:Int) (e2 e8:Bool) (h6:B8) (g2 m d5 h0 c6:Int) (c4:B8) (h9 i2 f3:TV) l9=>need (List.all (cV h3 e2 e8 h6 g2 m d5 h0 c6 c4 h9 i2 f3) Aw) (K h3 e2 e8 h6 g2 m d5 h0 c6 c4 h9 i2 f3 l9)))))))) (BId (s=str13) (Ae PR E5 [(.bool (decide (s=Qr)))] [sV] st (fun (d6:Int) (g8 f5:Bool) (d2:B8) (n b0 a8 p i3:Int) (f9:B8) (j4 y u:TV) j8=>need (List.all (cV d6 g8 f5 d2 n b0 a8 p i3 f9 j4 y u) Aw) (K d6 g8 f5 d2 n b0 a8 p i3 f9 j4 y u j8))) (Ae PR BP [.str s] [.agg [.bool,.str,.int .i64],.one (.int .i64)] st (fun (m1:Bool) (l0:B8) (k7 l8:Int) b=>BId (l8=0) (Ae PR D3 [(.agg [.bool m1,.str l0,.int .i64 k7])] [sV] b (fun (j0:Int) (g a2:Bool) (f2:B8) (c0 i8 e4 a0 a5:Int) (v:B8) (d1 h1 i4:TV) k0=>need (List.all (cV j0 g a2 f2 c0 i8 e4 a0 a5 v d1 h1 i4) Aw) (K j0 g a2 f2 c0 i8 e4 a0 a5 v d1 h1 i4 k0))) (Ae PR BX [.str s] [.agg [.int .i64,.int .i64,.int .i64,.int .i64],.one (.int .i64)] b (fun (l1 l7 k6 l4 m0:Int) a=>BId (m0=0) (Ae PR Du [(.agg [.int .i64 l1,.int .i64 l7,.int .i64 k6,.int .i64 l4])] [sV] a (fun (i5:Int) (c i1:Bool) (e1:B8) (g0 i t j3 i6:Int) (k:B8) (c8 d9 z:TV) j9=>need (List.all (cV i5 c i1 e1 g0 i t j3 i6 k c8 d9 z) Aw) (K i5 c i1 e1 g0 i t j3 i6 k c8 d9 z j9))) (Ae PR B2 [.str s] [sV] a (fun (e6:Int) (i0 g3:Bool) (a4:B8) (i9 j7 d8 q x:Int) (g4:B8) (j5 h7 c3:TV) k1=>need (List.all (cV e6 i0 g3 a4 i9 j7 d8 q x g4 j5 h7 c3) Aw) (K e6 i0 g3 a4 i9 j7 d8 q x g4 j5 h7 c3 k1)))))))))))):Ae PR Ax [.str s,.bool quoted,(.agg [.int .u8 d_0,.int .u8 d_1,.bool d_2,.bool d_3])] [sV] st K:=
 Am (cfg:=⟨[5,6,7,9],[],[]⟩) (h:= .none) mixed (fun _ _=>Tryz.call37 _ _) Tryz.func37 (by kernel_rfl) (by kernel_rfl) h
theorem Lp (size:Int) (st:St) (K:TV->Int->St->Prop) (h:BId (size<1) (K .nilPtr 1 st) (BId ((65536:Int)<size) (K .nilPtr 1 st) (K ((.box st.nb 0)) 0 (st.push (.cells [.int .i64 size,.nilSlice,.int .i64 0,.bool false]) (some 194))))):Ae PR Hc [.int .i64 size] [.one .tv,.one (.int .i64)] st K:=
 Am (cfg:=⟨[],[],[]⟩) (h:= .none) mixed (fun _ _=>Tryz.call68 _ _) Tryz.func68 (by kernel_rfl) (by kernel_rfl) h
theorem DV (r:Nat) (st:St) (K:St->Prop) (h:Ai (Ab st [] (.t (.box r 11)) 0) (fun (x1:TV)=>Aj .bool x1 (fun (b1:Bool)=>BIf (!b1) (stB st (.box r 11) [.bool true] (fun a=>Ai (Ab a [] (.t (.box r 26)) 0) (fun (v1:TV)=>AU 118 15 192 v1 1 [.int .i64 2,(.str []),.int .i64 0,.bool false,.bool false,(.str []),.int .i64 0,.int .i64 0,.int .i64 0,.int .i64 0,.int .i64 0,(.str []),.nilSlice,.nilSlice,.nilSlice] a (fun (v2:TV) b=>need (List.all [v2] Aw) (stB b (.box r 26) [v2] (fun c=>K c)))))) (K st)))):Ae PR A7 [(.box r 0)] [] st K:=
 Am (cfg:=⟨[],[],[]⟩) (h:= .none) mixed (fun _ _=>Tryz.call74 _ _) Tryz.func74 (by kernel_rfl) (by kernel_rfl) h
theorem DU (r:Nat) (s:B8) (last:Bool) (st:St) (K:St->Prop) (h:Ai (Ab st [] (.t (.box r 24)) 0) (fun (x1:TV)=>Aj (.int .i64) x1 (fun (n1:Int)=>BId ((0:Int)<=n1) (K st) (Ai (Ab st [] (.t (.box r 23)) 0) (fun (x2:TV)=>Aj (.int .i64) x2 (fun (n2:Int)=>Ai (Ab st [] (.t (.box r 25)) 0) (fun (x3:TV)=>Aj .str x3 (fun (s1:B8)=>Ai (Ab st [] (.t (.box r 25)) 0) (fun (x4:TV)=>Aj .str x4 (fun (s2:B8)=>(s2.length+s.length<=9223372036854775807/\∃(I1:Int->TV->B8->Bool->Int->St->Prop) (M1:Int->TV->B8->Bool->Int->St->Nat),(I1 0 ((.box r 0)) ((s2++s)) last ((i64.wrap (n2-(s1.length:Int)))) st)/\∀b a e c d i,I1 b a e c d i->(BId (b<(e.length:Int)) (Ae PR E7 [.str e,.int .i64 b] [.one (.int .i64),.one (.int .i64)] i (fun (n3 n4:Int) k=>BId (n4=0) (((0<=b/\b<=(e.length:Int))/\need (Aa a) (need (Aa a) (stB k (Ah a 25) [(.str (List.drop b.toNat e))] (fun g=>need (Aa a) (need (Aa a) (Ai (Ab g [] (.t (Ah a 25)) 0) (fun (x5:TV)=>Aj .str x5 (fun (s3:B8)=>BId (s3≠([]:B8)) (BIf c (need (Aa a) (need (Aa a) (stB g (Ah a 24) [(.int .i64 (i64.wrap (d+b)))] (fun u=>need (Aa a) (need (Aa a) (stB u (Ah a 25) [(.str [])] (fun v=>K v))))))) (need (Aa a) (need (Aa a) (Ai (Ab g [] (.t (Ah a 25)) 0) (fun (x6:TV)=>Aj .str x6 (fun (s4:B8)=>Ae PR Be [.str s4] [.one .bool] g (fun (b1:Bool) l=>BIf (!b1) (need (Aa a) (need (Aa a) (stB l (Ah a 24) [(.int .i64 (i64.wrap (d+b)))] (fun q=>need (Aa a) (need (Aa a) (stB q (Ah a 25) [(.str [])] (fun w=>K w))))))) (K l)))))))) (K g)))))))))) ((I1 ((i64.wrap (b+n4))) a e c d k/\M1 ((i64.wrap (b+n4))) a e c d k<M1 b a e c d i)))) (((0<=b/\b<=(e.length:Int))/\need (Aa a) (need (Aa a) (stB i (Ah a 25) [(.str (List.drop b.toNat e))] (fun f=>need (Aa a) (need (Aa a) (Ai (Ab f [] (.t (Ah a 25)) 0) (fun (x7:TV)=>Aj .str x7 (fun (s5:B8)=>BId (s5≠([]:B8)) (BIf c (need (Aa a) (need (Aa a) (stB f (Ah a 24) [(.int .i64 (i64.wrap (d+b)))] (fun m=>need (Aa a) (need (Aa a) (stB m (Ah a 25) [(.str [])] (fun o=>K o))))))) (need (Aa a) (need (Aa a) (Ai (Ab f [] (.t (Ah a 25)) 0) (fun (x8:TV)=>Aj .str x8 (fun (s6:B8)=>Ae PR Be [.str s6] [.one .bool] f (fun (b2:Bool) j=>BIf (!b2) (need (Aa a) (need (Aa a) (stB j (Ah a 24) [(.int .i64 (i64.wrap (d+b)))] (fun n=>need (Aa a) (need (Aa a) (stB n (Ah a 25) [(.str [])] (fun p=>K p))))))) (K j)))))))) (K f)))))))))))))))))))))):Ae PR A6 [(.box r 0),.str s,.bool last] [] st K:=
 Am (cfg:=⟨[],[],[]⟩) (h:=(.seq .none (.seq .none (.seq .none (.seq .none (.seq (.block (.loop ⟨[(7,.int .i64),(0,.tv),(1,.str),(2,.bool),(6,.int .i64)],[],[],[]⟩ .none)) .none)))))) mixed (fun _ _=>Tryz.call75 _ _) Tryz.func75 (by kernel_rfl) (by kernel_rfl) h
theorem Ef (r:Nat) (c:Int) (atx:Int) (st:St) (K:St->Prop) (h:Ai (Ab st [] (.t (.box r 10)) 0) (fun (x1:TV)=>Aj (.int .i64) x1 (fun (n1:Int)=>BId (n1=0) (Ae PR AQ [(.box r 0),.int .i64 atx] [] st (fun (a:St)=>Ai (Ab a [] (.t (.box r 2)) 0) (fun (x2:TV)=>Aj (.int .u8) x2 (fun (n2:Int)=>BId (c=n2) (stB a (.box r 10) [.int .i64 2] (fun k=>Ae PR Ay [(.box r 0),.int .u8 c] [] k (fun (l:St)=>K l))) (stB a (.box r 10) [.int .i64 1] (fun o=>Ae PR A0 [(.box r 0),.int .u8 c,.int .i64 atx] [] o (fun (n:St)=>K n))))))) (BId (n1=1) (Ae PR A0 [(.box r 0),.int .u8 c,.int .i64 atx] [] st (fun (m:St)=>K m)) (BId (n1=2) (Ai (Ab st [] (.t (.box r 2)) 0) (fun (x3:TV)=>Aj (.int .u8) x3 (fun (n3:Int)=>BId (c=n3) (stB st (.box r 10) [.int .i64 3] (fun j=>Ae PR Ay [(.box r 0),.int .u8 c] [] j (fun (p:St)=>K p))) (Ae PR Ay [(.box r 0),.int .u8 c] [] st (fun (i:St)=>K i))))) (BId (n1=3) (Ai (Ab st [] (.t (.box r 2)) 0) (fun (x4:TV)=>Aj (.int .u8) x4 (fun (n4:Int)=>BId (c=n4) (stB st (.box r 10) [.int .i64 2] (fun e=>Ae PR Ay [(.box r 0),.int .u8 c] [] e (fun (f:St)=>K f))) (Ae PR AH [(.box r 0),.int .u8 c,.int .i64 atx] [] st (fun (b:St)=>K b))))) (BId (n1=4) (BId (c≠10) (Ai (Ab st [] (.t (.box r 21)) 0) (fun (x5:TV)=>Aj (.int .i64) x5 (fun (n5:Int)=>Ae PR Af [(.box r 0),.int .i64 n5,.int .i64 3] [] st (fun (g:St)=>K g)))) (Ai (Ab st [] (.t (.box r 21)) 0) (fun (x6:TV)=>Aj (.int .i64) x6 (fun (n6:Int)=>Ae PR Aq [(.box r 0),.int .i64 n6] [] st (fun (d:St)=>K d))))) (K st)))))))):Ae PR Bt [(.box r 0),.int .u8 c,.int .i64 atx] [] st K:=
 Am (cfg:=⟨[],[],[]⟩) (h:= .none) mixed (fun _ _=>Tryz.call76 _ _) Tryz.func76 (by kernel_rfl) (by kernel_rfl) h
theorem DG (r:Nat) (st:St) (K:TV->St->Prop) (h:Ai (Ab st [] (.t (.box r 26)) 0) (fun (v1:TV)=>stB st (.box r 26) [.nilSlice] (fun a=>K v1 a))):Ae PR At [(.box r 0)] [.one .tv] st K:=
 Am (cfg:=⟨[],[],[]⟩) (h:= .none) mixed (fun _ _=>Tryz.call77 _ _) Tryz.func77 (by kernel_rfl) (by kernel_rfl) h
theorem Gk (w:Nat) (st:St) (K:Int->St->Prop) (h:Ai (Ab st [] (.t (.box w 1)) 0) (fun (v1:TV)=>need (isSl v1) (K ((lenS v1:Int)) st))):Ae PR AN [(.box w 0)] [.one (.int .i64)] st K:=
 Am (cfg:=⟨[],[],[]⟩) (h:= .none) mixed (fun _ _=>Tryz.call78 _ _) Tryz.func78 (by kernel_rfl) (by kernel_rfl) h
theorem Eg (r:Nat) (st:St) (K:St->Prop) (h:Ai (Ab st [] (.t (.box r 10)) 0) (fun (x1:TV)=>Aj (.int .i64) x1 (fun (n1:Int)=>BId (n1=2) (BId (n1=2) (Ai (Ab st [] (.t (.box r 22)) 0) (fun (x2:TV)=>Aj (.int .i64) x2 (fun (n2:Int)=>BId (n2≠0) (Ai (Ab st [] (.t (.box r 20)) 0) (fun (x3:TV)=>Aj (.int .i64) x3 (fun (n3:Int)=>Ai (Ab st [] (.t (.box r 22)) 0) (fun (x4:TV)=>Aj (.int .i64) x4 (fun (n4:Int)=>Ae PR Af [(.box r 0),.int .i64 n3,.int .i64 n4] [] st (fun (g:St)=>Ai (Ab g [] (.t (.box r 23)) 0) (fun (x5:TV)=>Aj (.int .i64) x5 (fun (n5:Int)=>Ae PR Af [(.box r 0),.int .i64 n5,.int .i64 4] [] g (fun (b9:St)=>K b9))))))))) (Ai (Ab st [] (.t (.box r 23)) 0) (fun (x6:TV)=>Aj (.int .i64) x6 (fun (n6:Int)=>Ae PR Af [(.box r 0),.int .i64 n6,.int .i64 4] [] st (fun (a7:St)=>K a7))))))) (BId (n1=0) (Ai (Ab st [] (.t (.box r 12)) 0) (fun (x7:TV)=>Aj .bool x7 (fun (b1:Bool)=>BIf (!b1) (K st) (Ai (Ab st [] (.t (.box r 23)) 0) (fun (x8:TV)=>Aj (.int .i64) x8 (fun (n7:Int)=>Ae PR AQ [(.box r 0),.int .i64 n7] [] st (fun (u:St)=>Ae PR As [(.box r 0)] [] u (fun (i:St)=>Ai (Ab i [] (.t (.box r 23)) 0) (fun (x9:TV)=>Aj (.int .i64) x9 (fun (n8:Int)=>Ae PR Aq [(.box r 0),.int .i64 n8] [] i (fun (a8:St)=>K a8))))))))))) (BId (n1=1) (BId (n1=1) (Ae PR As [(.box r 0)] [] st (fun (e:St)=>Ai (Ab e [] (.t (.box r 23)) 0) (fun (a3:TV)=>Aj (.int .i64) a3 (fun (n9:Int)=>Ae PR Aq [(.box r 0),.int .i64 n9] [] e (fun (c0:St)=>K c0))))) (K st)) (BId (n1=3) (Ae PR As [(.box r 0)] [] st (fun (f:St)=>Ai (Ab f [] (.t (.box r 23)) 0) (fun (y:TV)=>Aj (.int .i64) y (fun (a6:Int)=>Ae PR Aq [(.box r 0),.int .i64 a6] [] f (fun (l:St)=>K l))))) (K st))))) (BId (n1=4) (Ai (Ab st [] (.t (.box r 22)) 0) (fun (s:TV)=>Aj (.int .i64) s (fun (b5:Int)=>BId (b5≠0) (Ai (Ab st [] (.t (.box r 20)) 0) (fun (a9:TV)=>Aj (.int .i64) a9 (fun (b0:Int)=>Ai (Ab st [] (.t (.box r 22)) 0) (fun (a1:TV)=>Aj (.int .i64) a1 (fun (b3:Int)=>Ae PR Af [(.box r 0),.int .i64 b0,.int .i64 b3] [] st (fun (d:St)=>Ai (Ab d [] (.t (.box r 23)) 0) (fun (b6:TV)=>Aj (.int .i64) b6 (fun (q:Int)=>Ae PR Af [(.box r 0),.int .i64 q,.int .i64 4] [] d (fun (k:St)=>K k))))))))) (Ai (Ab st [] (.t (.box r 23)) 0) (fun (b4:TV)=>Aj (.int .i64) b4 (fun (a5:Int)=>Ae PR Af [(.box r 0),.int .i64 a5,.int .i64 4] [] st (fun (m:St)=>K m))))))) (BId (n1=0) (Ai (Ab st [] (.t (.box r 12)) 0) (fun (v:TV)=>Aj .bool v (fun (b2:Bool)=>BIf (!b2) (K st) (Ai (Ab st [] (.t (.box r 23)) 0) (fun (a2:TV)=>Aj (.int .i64) a2 (fun (a4:Int)=>Ae PR AQ [(.box r 0),.int .i64 a4] [] st (fun (p:St)=>Ae PR As [(.box r 0)] [] p (fun (c:St)=>Ai (Ab c [] (.t (.box r 23)) 0) (fun (b8:TV)=>Aj (.int .i64) b8 (fun (a0:Int)=>Ae PR Aq [(.box r 0),.int .i64 a0] [] c (fun (j:St)=>K j))))))))))) (BId (n1=1) (BId (n1=1) (Ae PR As [(.box r 0)] [] st (fun (b:St)=>Ai (Ab b [] (.t (.box r 23)) 0) (fun (x:TV)=>Aj (.int .i64) x (fun (w:Int)=>Ae PR Aq [(.box r 0),.int .i64 w] [] b (fun (o:St)=>K o))))) (K st)) (BId (n1=3) (Ae PR As [(.box r 0)] [] st (fun (a:St)=>Ai (Ab a [] (.t (.box r 23)) 0) (fun (b7:TV)=>Aj (.int .i64) b7 (fun (z:Int)=>Ae PR Aq [(.box r 0),.int .i64 z] [] a (fun (n:St)=>K n))))) (K st)))))))):Ae PR Bu [(.box r 0)] [] st K:=
 Am (cfg:=⟨[],[],[23,27]⟩) (h:= .none) mixed (fun _ _=>Tryz.call82 _ _) Tryz.func82 (by kernel_rfl) (by kernel_rfl) h
theorem F7 (w:Nat) (n:Int) (st:St) (K:B8->Int->St->Prop) (h:BId (n<0) (K [] 2 st) (Ai (Ab st [] (.t (.box w 1)) 0) (fun (v1:TV)=>need (isSl v1) (BId ((lenS v1:Int)<n) (K [] 2 st) (Ai (Ab st [] (.t (.box w 1)) 0) (fun (v2:TV)=>((F5 1 v2=true/\0<=n/\n<=(lenS v2:Int)/\n=n)/\Ai ((CG st (slT 1 .full v2 0 n.toNat)).map TV.str) (fun (x3:TV)=>Aj .str x3 (fun (s1:B8)=>Ai (Ab st [] (.t (.box w 1)) 0) (fun (v3:TV)=>((F5 1 v3=true/\0<=n/\n<=(lenS v3:Int))/\Ai (BW st 1 (slT 1 .non v3 n.toNat (lenS v3))) (fun (q1:Nat×List TV)=>need (List.all q1.2 Aw) (AU 5 1 1 (.list 1 .full 0 []) q1.1 q1.2 st (fun (v4:TV) b=>need (List.all [v4] Aw) (stB b (.box w 1) [v4] (fun a=>Ai (Ab a [] (.t (.box w 2)) 0) (fun (x5:TV)=>Aj (.int .i64) x5 (fun (n1:Int)=>stB a (.box w 2) [(.int .i64 (i64.wrap (n1+n)))] (fun c=>K s1 0 c))))))))))))))))))):Ae PR AJ [(.box w 0),.int .i64 n] [.one .str,.one (.int .i64)] st K:=
 Am (cfg:=⟨[],[],[]⟩) (h:= .none) mixed (fun _ _=>Tryz.call83 _ _) Tryz.func83 (by kernel_rfl) (by kernel_rfl) h
theorem EV (s:B8) (st:St) (K:V13 (St->Prop)) (h:K 4 false false [] 0 0 0 0 0 s .nilSlice .nilSlice .nilSlice st):Ae PR B2 [.str s] [sV] st K:=
 Am (cfg:=⟨[2],[],[]⟩) (h:= .none) mixed (fun _ _=>Tryz.call93 _ _) Tryz.func93 (by kernel_rfl) (by kernel_rfl) h
theorem Lr (st:St) (K:V13 (St->Prop)) (h:K 0 false false [] 0 0 0 0 0 [] .nilSlice .nilSlice .nilSlice st):Ae PR Hd [] [sV] st K:=
 Am (cfg:=⟨[0],[],[]⟩) (h:= .none) mixed (fun _ _=>Tryz.call94 _ _) Tryz.func94 (by kernel_rfl) (by kernel_rfl) h
theorem G2 (b:Bool) (st:St) (K:V13 (St->Prop)) (h:K 1 b false [] 0 0 0 0 0 [] .nilSlice .nilSlice .nilSlice st):Ae PR E5 [.bool b] [sV] st K:=
 Am (cfg:=⟨[2],[],[]⟩) (h:= .none) mixed (fun _ _=>Tryz.call95 _ _) Tryz.func95 (by kernel_rfl) (by kernel_rfl) h
theorem Ix (s:B8) (st:St) (K:Bool->B8->Int->Int->St->Prop) (h:Ae PR AW [.str s,.str Qq] [.one .bool] st (fun (b1:Bool) a1=>∃(C1:B8->Bool->Bool->B8->Int->St->Prop),(BIf b1 (((0<=(1:Int)/\(1:Int)<=(s.length:Int))/\C1 ((List.drop (Int.toNat (1:Int)) s)) b1 false [] 0 a1)) (C1 s b1 false [] 0 a1))/\∀l n b2 s1 n1 a4,C1 l n b2 s1 n1 a4->(Ae PR Ck [.str l] [.one (.int .i64)] a4 (fun (n2:Int) v=>∃(C2:B8->Bool->Int->Bool->B8->Int->St->Prop),(BId (n2=0) (K false [] 0 3 v) (BId ((1:Int)<n2) (((0<=(0:Int)/\(0:Int)<(l.length:Int))/\BId (((List.getD l (Int.toNat (0:Int)) 0).toNat:Int)=(48:Int)) (K false [] 0 3 v) (C2 l n n2 b2 s1 n1 v))) (C2 l n n2 b2 s1 n1 v)))/\∀b m a b3 s2 n3 z,C2 b m a b3 s2 n3 z->(((0<=a/\a<=(b.length:Int))/\((0<=a/\a<=(b.length:Int))/\∃(C3:B8->B8->Int->Bool->Bool->B8->Int->St->Prop),(Ae PR AW [(.str (List.drop a.toNat b)),.str str16] [.one .bool] z (fun (b4:Bool) a2=>BIf b4 (((0<=(1:Int)/\(1:Int)<=(((List.drop a.toNat b)).length:Int))/\Ae PR Ck [(.str (List.drop (Int.toNat (1:Int)) (List.drop a.toNat b)))] [.one (.int .i64)] a2 (fun (n4:Int) a3=>BId (n4=0) (K false [] 0 3 a3) (((0<=(1:Int)/\(1:Int)<=(i64.wrap (n4+(1:Int)))/\(i64.wrap (n4+(1:Int)))<=(((List.drop a.toNat b)).length:Int))/\(((List.take a.toNat b)).length+((List.drop (Int.toNat (1:Int)) (List.take (Int.toNat (i64.wrap (n4+(1:Int)))) (List.drop a.toNat b)))).length<=9223372036854775807/\((0<=(i64.wrap (n4+(1:Int)))/\(i64.wrap (n4+(1:Int)))<=(((List.drop a.toNat b)).length:Int))/\C3 ((List.drop (Int.toNat (i64.wrap (n4+(1:Int)))) (List.drop a.toNat b))) (((List.take a.toNat b)++(List.drop (Int.toNat (1:Int)) (List.take (Int.toNat (i64.wrap (n4+(1:Int)))) (List.drop a.toNat b))))) ((i64.wrap (0-n4))) m b3 s2 n3 a3))))))) (C3 ((List.drop a.toNat b)) ((List.take a.toNat b)) 0 m b3 s2 n3 a2)))/\∀d f g i b5 s3 n5 o,C3 d f g i b5 s3 n5 o->(BId (d≠([]:B8)) (∃(C4:B8->Bool->B8->Int->Bool->B8->Int->St->Prop),(((0<=(0:Int)/\(0:Int)<(d.length:Int))/\BId (((List.getD d (Int.toNat (0:Int)) 0).toNat:Int)≠(101:Int)) (((0<=(0:Int)/\(0:Int)<(d.length:Int))/\BId (((List.getD d (Int.toNat (0:Int)) 0).toNat:Int)≠(69:Int)) (K false [] 0 3 o) (C4 d i f g b5 s3 n5 o))) (C4 d i f g b5 s3 n5 o)))/\∀c j k e b6 s4 n6 a5,C4 c j k e b6 s4 n6 a5->(((0<=(1:Int)/\(1:Int)<=(c.length:Int))/\Ae PR AW [(.str (List.drop (Int.toNat (1:Int)) c)),.str Qq] [.one .bool] a5 (fun (b7:Bool) a0=>∃(C5:B8->Bool->B8->Int->Bool->Bool->B8->Int->St->Prop),(BIf b7 (((0<=(1:Int)/\(1:Int)<=(((List.drop (Int.toNat (1:Int)) c)).length:Int))/\C5 ((List.drop (Int.toNat (1:Int)) (List.drop (Int.toNat (1:Int)) c))) j k e b7 b6 s4 n6 a0)) (Ae PR AW [(.str (List.drop (Int.toNat (1:Int)) c)),.str str20] [.one .bool] a0 (fun (b8:Bool) y=>BIf b8 (((0<=(1:Int)/\(1:Int)<=(((List.drop (Int.toNat (1:Int)) c)).length:Int))/\C5 ((List.drop (Int.toNat (1:Int)) (List.drop (Int.toNat (1:Int)) c))) j k e b7 b6 s4 n6 y)) (C5 ((List.drop (Int.toNat (1:Int)) c)) j k e b7 b6 s4 n6 y))))/\∀q u t w p b9 s5 n7 r,C5 q u t w p b9 s5 n7 r->(BId (q=([]:B8)) (K false [] 0 3 r) (Ae PR Ck [.str q] [.one (.int .i64)] r (fun (n8:Int) x=>BId (n8≠(q.length:Int)) (K false [] 0 3 x) (Ae PR Cw [.str q,.str R4] [.one .str] x (fun (s6:B8) a7=>Ae PR Dr [.int .i64 w,.bool p,.str s6] [.one (.int .i64)] a7 (fun (n9:Int) a9=>Ae PR BZ [.bool u,.str t,.int .i64 n9] [.agg [.bool,.str,.int .i64],.one (.int .i64)] a9 (fun (c4:Bool) (s7:B8) (b0 c2:Int) a8=>K c4 s7 b0 c2 a8))))))))))) (Ae PR BZ [.bool i,.str f,.int .i64 g] [.agg [.bool,.str,.int .i64],.one (.int .i64)] o (fun (c3:Bool) (s8:B8) (c0 c1:Int) a6=>K c3 s8 c0 c1 a6)))))))))):Ae PR BP [.str s] [.agg [.bool,.str,.int .i64],.one (.int .i64)] st K:=
 Am (cfg:=⟨[2],[],[]⟩) (h:=(.seq .none (.seq .none (.cut ⟨[(0,.str),(4,.bool)],[(2,0,0)],[(0,3)],[(0,0,.bool),(0,1,.str),(0,2,.int .i64)]⟩ .none (.seq .none (.cut ⟨[(0,.str),(4,.bool),(5,.int .i64)],[(2,0,0)],[(0,3)],[(0,0,.bool),(0,1,.str),(0,2,.int .i64)]⟩ .none (.seq .none (.seq .none (.seq .none (.cut ⟨[(0,.str),(6,.str),(7,.int .i64),(4,.bool)],[(2,0,0)],[(0,3)],[(0,0,.bool),(0,1,.str),(0,2,.int .i64)]⟩ .none (.seq (.seq .none (.cond (.cut ⟨[(0,.str),(4,.bool),(6,.str),(7,.int .i64)],[(2,0,0)],[(0,3)],[(0,0,.bool),(0,1,.str),(0,2,.int .i64)]⟩ .none (.seq .none (.seq .none (.cut ⟨[(0,.str),(4,.bool),(6,.str),(7,.int .i64),(8,.bool)],[(2,0,0)],[(0,3)],[(0,0,.bool),(0,1,.str),(0,2,.int .i64)]⟩ .none .none)))) .none)) .none))))))))))) mixed (fun _ _=>Tryz.call96 _ _) Tryz.func96 (by kernel_rfl) (by kernel_rfl) h
theorem Mz (d_0:Bool) (d_1:B8) (d_2:Int) (st:St) (K:V13 (St->Prop)) (h:K 2 false d_0 d_1 d_2 0 0 0 0 [] .nilSlice .nilSlice .nilSlice st):Ae PR D3 [(.agg [.bool d_0,.str d_1,.int .i64 d_2])] [sV] st K:=
 Am (cfg:=⟨[1,2],[],[]⟩) (h:= .none) mixed (fun _ _=>Tryz.call97 _ _) Tryz.func97 (by kernel_rfl) (by kernel_rfl) h
theorem JM (s:B8) (st:St) (K:Int->Int->Int->Int->Int->St->Prop) (h:Ae PR B5 [(.box st.nb 0),(.box (st.push (.cells [.str s,.bool false]) (some 220)).nb 0)] [.one (.int .i64)] ((st.push (.cells [.str s,.bool false]) (some 220)).push (.cells [.int .i64 0,.int .i64 0,.int .i64 0,.int .i64 0,.int .i64 0,.int .i64 0,.int .i64 0,.int .u8 0,.int .i64 0,.int .i64 0]) (some 222)) (fun (n1:Int) a=>Ai (Ab a [] (.t (.box st.nb 1)) 0) (fun (x1:TV)=>Aj .bool x1 (fun (b1:Bool)=>BIf b1 (K 0 0 0 0 3 a) (Ai (Ab a [] (.t (.box st.nb 0)) 0) (fun (x2:TV)=>Aj .str x2 (fun (s1:B8)=>BId (s1≠([]:B8)) (K 0 0 0 0 3 a) (BId (n1≠2) (Ai (Ab a [] (.t (.box (st.push (.cells [.str s,.bool false]) (some 220)).nb 0)) 0) (fun (x3:TV)=>Aj (.int .i64) x3 (fun (n2:Int)=>Ai (Ab a [] (.t (.box (st.push (.cells [.str s,.bool false]) (some 220)).nb 1)) 0) (fun (x4:TV)=>Aj (.int .i64) x4 (fun (n3:Int)=>Ai (Ab a [] (.t (.box (st.push (.cells [.str s,.bool false]) (some 220)).nb 2)) 0) (fun (x5:TV)=>Aj (.int .i64) x5 (fun (n4:Int)=>Ae PR DL [.int .i64 n2,.int .i64 n3,.int .i64 n4] [.one (.int .i64),.one (.int .i64)] a (fun (n5 n6:Int) b=>BId (n6≠0) (K 0 0 0 0 2 b) (Ai (Ab b [] (.t (.box (st.push (.cells [.str s,.bool false]) (some 220)).nb 3)) 0) (fun (x6:TV)=>Aj (.int .i64) x6 (fun (n7:Int)=>BId ((23:Int)<n7) (K 0 0 0 0 2 b) (Ai (Ab b [] (.t (.box (st.push (.cells [.str s,.bool false]) (some 220)).nb 4)) 0) (fun (x7:TV)=>Aj (.int .i64) x7 (fun (n8:Int)=>BId ((59:Int)<n8) (K 0 0 0 0 2 b) (Ai (Ab b [] (.t (.box (st.push (.cells [.str s,.bool false]) (some 220)).nb 5)) 0) (fun (x8:TV)=>Aj (.int .i64) x8 (fun (n9:Int)=>BId ((59:Int)<n9) (K 0 0 0 0 2 b) (Ai (Ab b [] (.t (.box (st.push (.cells [.str s,.bool false]) (some 220)).nb 8)) 0) (fun (x9:TV)=>Aj (.int .i64) x9 (fun (a7:Int)=>BId ((23:Int)<a7) (K 0 0 0 0 2 b) (Ai (Ab b [] (.t (.box (st.push (.cells [.str s,.bool false]) (some 220)).nb 9)) 0) (fun (a5:TV)=>Aj (.int .i64) a5 (fun (b2:Int)=>BId ((59:Int)<b2) (K 0 0 0 0 2 b) (Ai (Ab b [] (.t (.box (st.push (.cells [.str s,.bool false]) (some 220)).nb 3)) 0) (fun (z:TV)=>Aj (.int .i64) z (fun (l:Int)=>Ai (Ab b [] (.t (.box (st.push (.cells [.str s,.bool false]) (some 220)).nb 4)) 0) (fun (r:TV)=>Aj (.int .i64) r (fun (m:Int)=>Ai (Ab b [] (.t (.box (st.push (.cells [.str s,.bool false]) (some 220)).nb 5)) 0) (fun (a8:TV)=>Aj (.int .i64) a8 (fun (d:Int)=>Ai (Ab b [] (.t (.box (st.push (.cells [.str s,.bool false]) (some 220)).nb 6)) 0) (fun (a1:TV)=>Aj (.int .i64) a1 (fun (k:Int)=>Ai (Ab b [] (.t (.box (st.push (.cells [.str s,.bool false]) (some 220)).nb 8)) 0) (fun (b4:TV)=>Aj (.int .i64) b4 (fun (j:Int)=>Ai (Ab b [] (.t (.box (st.push (.cells [.str s,.bool false]) (some 220)).nb 9)) 0) (fun (a9:TV)=>Aj (.int .i64) a9 (fun (g:Int)=>Ai (Ab b [] (.t (.box (st.push (.cells [.str s,.bool false]) (some 220)).nb 7)) 0) (fun (w:TV)=>Aj (.int .u8) w (fun (x:Int)=>BId (x=45) (K n1 n5 ((i64.wrap ((i64.wrap ((i64.wrap ((i64.wrap ((i64.wrap ((i64.wrap (l*(60:Int)))+m))*(60:Int)))+d))*(1000000000:Int)))+k))) ((i64.wrap (0-(i64.wrap ((i64.wrap (j*(60:Int)))+g))))) 0 b) (K n1 n5 ((i64.wrap ((i64.wrap ((i64.wrap ((i64.wrap ((i64.wrap ((i64.wrap (l*(60:Int)))+m))*(60:Int)))+d))*(1000000000:Int)))+k))) ((i64.wrap ((i64.wrap (j*(60:Int)))+g))) 0 b))))))))))))))))))))))))))))))))))))))) (Ai (Ab a [] (.t (.box (st.push (.cells [.str s,.bool false]) (some 220)).nb 3)) 0) (fun (a4:TV)=>Aj (.int .i64) a4 (fun (a0:Int)=>BId ((23:Int)<a0) (K 0 0 0 0 2 a) (Ai (Ab a [] (.t (.box (st.push (.cells [.str s,.bool false]) (some 220)).nb 4)) 0) (fun (c0:TV)=>Aj (.int .i64) c0 (fun (b7:Int)=>BId ((59:Int)<b7) (K 0 0 0 0 2 a) (Ai (Ab a [] (.t (.box (st.push (.cells [.str s,.bool false]) (some 220)).nb 5)) 0) (fun (y:TV)=>Aj (.int .i64) y (fun (b8:Int)=>BId ((59:Int)<b8) (K 0 0 0 0 2 a) (Ai (Ab a [] (.t (.box (st.push (.cells [.str s,.bool false]) (some 220)).nb 8)) 0) (fun (b5:TV)=>Aj (.int .i64) b5 (fun (a6:Int)=>BId ((23:Int)<a6) (K 0 0 0 0 2 a) (Ai (Ab a [] (.t (.box (st.push (.cells [.str s,.bool false]) (some 220)).nb 9)) 0) (fun (b0:TV)=>Aj (.int .i64) b0 (fun (a2:Int)=>BId ((59:Int)<a2) (K 0 0 0 0 2 a) (Ai (Ab a [] (.t (.box (st.push (.cells [.str s,.bool false]) (some 220)).nb 3)) 0) (fun (a3:TV)=>Aj (.int .i64) a3 (fun (i:Int)=>Ai (Ab a [] (.t (.box (st.push (.cells [.str s,.bool false]) (some 220)).nb 4)) 0) (fun (b3:TV)=>Aj (.int .i64) b3 (fun (c:Int)=>Ai (Ab a [] (.t (.box (st.push (.cells [.str s,.bool false]) (some 220)).nb 5)) 0) (fun (b9:TV)=>Aj (.int .i64) b9 (fun (n:Int)=>Ai (Ab a [] (.t (.box (st.push (.cells [.str s,.bool false]) (some 220)).nb 6)) 0) (fun (v:TV)=>Aj (.int .i64) v (fun (e:Int)=>Ai (Ab a [] (.t (.box (st.push (.cells [.str s,.bool false]) (some 220)).nb 8)) 0) (fun (b6:TV)=>Aj (.int .i64) b6 (fun (o:Int)=>Ai (Ab a [] (.t (.box (st.push (.cells [.str s,.bool false]) (some 220)).nb 9)) 0) (fun (q:TV)=>Aj (.int .i64) q (fun (f:Int)=>Ai (Ab a [] (.t (.box (st.push (.cells [.str s,.bool false]) (some 220)).nb 7)) 0) (fun (u:TV)=>Aj (.int .u8) u (fun (p:Int)=>BId (p=45) (K n1 0 ((i64.wrap ((i64.wrap ((i64.wrap ((i64.wrap ((i64.wrap ((i64.wrap (i*(60:Int)))+c))*(60:Int)))+n))*(1000000000:Int)))+e))) ((i64.wrap (0-(i64.wrap ((i64.wrap (o*(60:Int)))+f))))) 0 a) (K n1 0 ((i64.wrap ((i64.wrap ((i64.wrap ((i64.wrap ((i64.wrap ((i64.wrap (i*(60:Int)))+c))*(60:Int)))+n))*(1000000000:Int)))+e))) ((i64.wrap ((i64.wrap (o*(60:Int)))+f))) 0 a))))))))))))))))))))))))))))))))))))))):Ae PR BX [.str s] [.agg [.int .i64,.int .i64,.int .i64,.int .i64],.one (.int .i64)] st K:=
 Am (cfg:=⟨[2,7],[],[]⟩) (h:= .none) mixed (fun _ _=>Tryz.call98 _ _) Tryz.func98 (by kernel_rfl) (by kernel_rfl) h
theorem Lq (t_0:Int) (t_1:Int) (t_2:Int) (t_3:Int) (st:St) (K:V13 (St->Prop)) (h:K 3 false false [] 0 t_0 t_1 t_2 t_3 [] .nilSlice .nilSlice .nilSlice st):Ae PR Du [(.agg [.int .i64 t_0,.int .i64 t_1,.int .i64 t_2,.int .i64 t_3])] [sV] st K:=
 Am (cfg:=⟨[1,2],[],[]⟩) (h:= .none) mixed (fun _ _=>Tryz.call99 _ _) Tryz.func99 (by kernel_rfl) (by kernel_rfl) h
theorem Lt (s:B8) (atx:Int) (st:St) (K:Int->Int->St->Prop) (h:BId (atx<0) (K 0 0 st) (BId ((s.length:Int)<=atx) (K 0 0 st) (((0<=atx/\atx<(s.length:Int))/\Ae PR GE [(.int .u8 ((List.getD s atx.toNat 0).toNat:Int))] [.one (.int .i64),.one (.int .i64)] st (fun (n1 n2:Int) g=>BId (n1=0) (K 0 0 g) (BId ((i64.wrap ((s.length:Int)-atx))<n1) (K 0 0 g) (∃(I1:Int->Int->B8->Int->Int->St->Prop) (M1:Int->Int->B8->Int->Int->St->Nat),(I1 n2 1 s atx n1 g)/\∀d b c a e f,I1 d b c a e f->(BId (b<e) (((0<=(i64.wrap (a+b))/\(i64.wrap (a+b))<(c.length:Int))/\BId ((B0 .and .u8 ((List.getD c (Int.toNat (i64.wrap (a+b))) 0).toNat:Int) (192:Int))≠(128:Int)) (K 0 0 f) ((I1 ((B0 .or .i64 (i64.wrap (d*2^(min (Int.toNat (6:Int)) (IntKind.bits .i64)))) (i64.wrap (B0 .and .u8 ((List.getD c (Int.toNat (i64.wrap (a+b))) 0).toNat:Int) (63:Int))))) ((i64.wrap (b+(1:Int)))) c a e f/\M1 ((B0 .or .i64 (i64.wrap (d*2^(min (Int.toNat (6:Int)) (IntKind.bits .i64)))) (i64.wrap (B0 .and .u8 ((List.getD c (Int.toNat (i64.wrap (a+b))) 0).toNat:Int) (63:Int))))) ((i64.wrap (b+(1:Int)))) c a e f<M1 d b c a e f)))) (Ae PR E6 [.int .i64 d] [.one .bool] f (fun (b1:Bool) i=>BIf (!b1) (K 0 0 i) (Ae PR FQ [.int .i64 d] [.one (.int .i64)] i (fun (n3:Int) j=>BId (n3≠e) (K 0 0 j) (K d e j))))))))))))):Ae PR E7 [.str s,.int .i64 atx] [.one (.int .i64),.one (.int .i64)] st K:=
 Am (cfg:=⟨[],[],[]⟩) (h:=(.seq .none (.seq .none (.seq .none (.seq .none (.seq (.seq .none (.block (.loop ⟨[(4,.int .i64),(7,.int .i64),(0,.str),(1,.int .i64),(6,.int .i64)],[],[],[]⟩ .none))) .none)))))) mixed (fun _ _=>Tryz.call133 _ _) Tryz.func133 (by kernel_rfl) (by kernel_rfl) h
theorem Gc (s:B8) (st:St) (K:Bool->St->Prop) (h:∃(C1:Int->B8->Int->Int->St->Prop),(((0<=(0:Int)/\(0:Int)<(s.length:Int))/\BId ((194:Int)<=((List.getD s (Int.toNat (0:Int)) 0).toNat:Int)) (BId (((List.getD s (Int.toNat (0:Int)) 0).toNat:Int)<=(223:Int)) (C1 2 s 128 191 st) (BId ((224:Int)<=((List.getD s (Int.toNat (0:Int)) 0).toNat:Int)) (BId (((List.getD s (Int.toNat (0:Int)) 0).toNat:Int)<=(239:Int)) (C1 3 s 128 191 st) (BId ((240:Int)<=((List.getD s (Int.toNat (0:Int)) 0).toNat:Int)) (BId (((List.getD s (Int.toNat (0:Int)) 0).toNat:Int)<=(244:Int)) (C1 4 s 128 191 st) (C1 0 s 128 191 st)) (C1 0 s 128 191 st))) (BId ((240:Int)<=((List.getD s (Int.toNat (0:Int)) 0).toNat:Int)) (BId (((List.getD s (Int.toNat (0:Int)) 0).toNat:Int)<=(244:Int)) (C1 4 s 128 191 st) (C1 0 s 128 191 st)) (C1 0 s 128 191 st)))) (BId ((224:Int)<=((List.getD s (Int.toNat (0:Int)) 0).toNat:Int)) (BId (((List.getD s (Int.toNat (0:Int)) 0).toNat:Int)<=(239:Int)) (C1 3 s 128 191 st) (BId ((240:Int)<=((List.getD s (Int.toNat (0:Int)) 0).toNat:Int)) (BId (((List.getD s (Int.toNat (0:Int)) 0).toNat:Int)<=(244:Int)) (C1 4 s 128 191 st) (C1 0 s 128 191 st)) (C1 0 s 128 191 st))) (BId ((240:Int)<=((List.getD s (Int.toNat (0:Int)) 0).toNat:Int)) (BId (((List.getD s (Int.toNat (0:Int)) 0).toNat:Int)<=(244:Int)) (C1 4 s 128 191 st) (C1 0 s 128 191 st)) (C1 0 s 128 191 st)))))/\∀c a d e b,C1 c a d e b->(((0<=(0:Int)/\(0:Int)<(a.length:Int))/\BId (((List.getD a (Int.toNat (0:Int)) 0).toNat:Int)=(224:Int)) (BId (c<=(a.length:Int)) (K false b) (BId ((1:Int)<(a.length:Int)) (((0<=(1:Int)/\(1:Int)<(a.length:Int))/\BId (((List.getD a (Int.toNat (1:Int)) 0).toNat:Int)<(160:Int)) (K false b) (((0<=(1:Int)/\(1:Int)<(a.length:Int))/\BId (e<((List.getD a (Int.toNat (1:Int)) 0).toNat:Int)) (K false b) (BId ((a.length:Int)<(3:Int)) (K true b) (((0<=(2:Int)/\(2:Int)<(a.length:Int))/\BId ((128:Int)<=((List.getD a (Int.toNat (2:Int)) 0).toNat:Int)) (((0<=(2:Int)/\(2:Int)<(a.length:Int))/\K ((decide (((List.getD a (Int.toNat (2:Int)) 0).toNat:Int)<=(191:Int)))) b)) (K false b)))))))) (BId ((a.length:Int)<(3:Int)) (K true b) (((0<=(2:Int)/\(2:Int)<(a.length:Int))/\BId ((128:Int)<=((List.getD a (Int.toNat (2:Int)) 0).toNat:Int)) (((0<=(2:Int)/\(2:Int)<(a.length:Int))/\K ((decide (((List.getD a (Int.toNat (2:Int)) 0).toNat:Int)<=(191:Int)))) b)) (K false b)))))) (BId (((List.getD a (Int.toNat (0:Int)) 0).toNat:Int)=(237:Int)) (BId (c<=(a.length:Int)) (K false b) (BId ((1:Int)<(a.length:Int)) (((0<=(1:Int)/\(1:Int)<(a.length:Int))/\BId (((List.getD a (Int.toNat (1:Int)) 0).toNat:Int)<d) (K false b) (((0<=(1:Int)/\(1:Int)<(a.length:Int))/\BId ((159:Int)<((List.getD a (Int.toNat (1:Int)) 0).toNat:Int)) (K false b) (BId ((a.length:Int)<(3:Int)) (K true b) (((0<=(2:Int)/\(2:Int)<(a.length:Int))/\BId ((128:Int)<=((List.getD a (Int.toNat (2:Int)) 0).toNat:Int)) (((0<=(2:Int)/\(2:Int)<(a.length:Int))/\K ((decide (((List.getD a (Int.toNat (2:Int)) 0).toNat:Int)<=(191:Int)))) b)) (K false b)))))))) (BId ((a.length:Int)<(3:Int)) (K true b) (((0<=(2:Int)/\(2:Int)<(a.length:Int))/\BId ((128:Int)<=((List.getD a (Int.toNat (2:Int)) 0).toNat:Int)) (((0<=(2:Int)/\(2:Int)<(a.length:Int))/\K ((decide (((List.getD a (Int.toNat (2:Int)) 0).toNat:Int)<=(191:Int)))) b)) (K false b)))))) (BId (((List.getD a (Int.toNat (0:Int)) 0).toNat:Int)=(240:Int)) (BId (c<=(a.length:Int)) (K false b) (BId ((1:Int)<(a.length:Int)) (((0<=(1:Int)/\(1:Int)<(a.length:Int))/\BId (((List.getD a (Int.toNat (1:Int)) 0).toNat:Int)<(144:Int)) (K false b) (((0<=(1:Int)/\(1:Int)<(a.length:Int))/\BId (e<((List.getD a (Int.toNat (1:Int)) 0).toNat:Int)) (K false b) (BId ((a.length:Int)<(3:Int)) (K true b) (((0<=(2:Int)/\(2:Int)<(a.length:Int))/\BId ((128:Int)<=((List.getD a (Int.toNat (2:Int)) 0).toNat:Int)) (((0<=(2:Int)/\(2:Int)<(a.length:Int))/\K ((decide (((List.getD a (Int.toNat (2:Int)) 0).toNat:Int)<=(191:Int)))) b)) (K false b)))))))) (BId ((a.length:Int)<(3:Int)) (K true b) (((0<=(2:Int)/\(2:Int)<(a.length:Int))/\BId ((128:Int)<=((List.getD a (Int.toNat (2:Int)) 0).toNat:Int)) (((0<=(2:Int)/\(2:Int)<(a.length:Int))/\K ((decide (((List.getD a (Int.toNat (2:Int)) 0).toNat:Int)<=(191:Int)))) b)) (K false b)))))) (BId (((List.getD a (Int.toNat (0:Int)) 0).toNat:Int)=(244:Int)) (BId (c<=(a.length:Int)) (K false b) (BId ((1:Int)<(a.length:Int)) (((0<=(1:Int)/\(1:Int)<(a.length:Int))/\BId (((List.getD a (Int.toNat (1:Int)) 0).toNat:Int)<d) (K false b) (((0<=(1:Int)/\(1:Int)<(a.length:Int))/\BId ((143:Int)<((List.getD a (Int.toNat (1:Int)) 0).toNat:Int)) (K false b) (BId ((a.length:Int)<(3:Int)) (K true b) (((0<=(2:Int)/\(2:Int)<(a.length:Int))/\BId ((128:Int)<=((List.getD a (Int.toNat (2:Int)) 0).toNat:Int)) (((0<=(2:Int)/\(2:Int)<(a.length:Int))/\K ((decide (((List.getD a (Int.toNat (2:Int)) 0).toNat:Int)<=(191:Int)))) b)) (K false b)))))))) (BId ((a.length:Int)<(3:Int)) (K true b) (((0<=(2:Int)/\(2:Int)<(a.length:Int))/\BId ((128:Int)<=((List.getD a (Int.toNat (2:Int)) 0).toNat:Int)) (((0<=(2:Int)/\(2:Int)<(a.length:Int))/\K ((decide (((List.getD a (Int.toNat (2:Int)) 0).toNat:Int)<=(191:Int)))) b)) (K false b)))))) (BId (c<=(a.length:Int)) (K false b) (BId ((1:Int)<(a.length:Int)) (((0<=(1:Int)/\(1:Int)<(a.length:Int))/\BId (((List.getD a (Int.toNat (1:Int)) 0).toNat:Int)<d) (K false b) (((0<=(1:Int)/\(1:Int)<(a.length:Int))/\BId (e<((List.getD a (Int.toNat (1:Int)) 0).toNat:Int)) (K false b) (BId ((a.length:Int)<(3:Int)) (K true b) (((0<=(2:Int)/\(2:Int)<(a.length:Int))/\BId ((128:Int)<=((List.getD a (Int.toNat (2:Int)) 0).toNat:Int)) (((0<=(2:Int)/\(2:Int)<(a.length:Int))/\K ((decide (((List.getD a (Int.toNat (2:Int)) 0).toNat:Int)<=(191:Int)))) b)) (K false b)))))))) (BId ((a.length:Int)<(3:Int)) (K true b) (((0<=(2:Int)/\(2:Int)<(a.length:Int))/\BId ((128:Int)<=((List.getD a (Int.toNat (2:Int)) 0).toNat:Int)) (((0<=(2:Int)/\(2:Int)<(a.length:Int))/\K ((decide (((List.getD a (Int.toNat (2:Int)) 0).toNat:Int)<=(191:Int)))) b)) (K false b)))))))))))):Ae PR Be [.str s] [.one .bool] st K:=
 Am (cfg:=⟨[],[],[]⟩) (h:=(.seq .none (.seq .none (.cut ⟨[(3,.int .i64),(0,.str),(4,.int .u8),(5,.int .u8)],[],[],[]⟩ .none .none)))) mixed (fun _ _=>Tryz.call134 _ _) Tryz.func134 (by kernel_rfl) (by kernel_rfl) h
theorem DT (r:Nat) (atx:Int) (st:St) (K:St->Prop) (h:stB st (.box r 20) [.int .i64 atx] (fun a=>Ai (Ab a [] (.t (.box r 12)) 0) (fun (x1:TV)=>Aj .bool x1 (fun (b1:Bool)=>BIf (!b1) (stB a (.box r 12) [.bool true] (fun a3=>stB a3 (.box r 14) [.int .i64 0] (fun a0=>Ae PR Al [(.box r 0)] [.one .bool] a0 (fun (b2:Bool) b=>BIf (!b2) (Ae PR Ao [(.box r 0),.int .i64 2] [] b (fun (c:St)=>Ai (Ab c [] (.t (.box r 13)) 0) (fun (x2:TV)=>Aj (.int .i64) x2 (fun (n1:Int)=>BId ((0:Int)<n1) (Ai (Ab c [] (.t (.box r 14)) 0) (fun (x3:TV)=>Aj (.int .i64) x3 (fun (n2:Int)=>Ai (Ab c [] (.t (.box r 15)) 0) (fun (x4:TV)=>Aj (.int .i64) x4 (fun (n3:Int)=>BId (n3<=n2) (Ae PR AF [(.box r 0),.int .i64 10] [] c (fun (a1:St)=>Ae PR Al [(.box r 0)] [.one .bool] a1 (fun (b3:Bool) l=>BIf (!b3) (Ae PR Ao [(.box r 0),.int .i64 3] [] l (fun (a4:St)=>K a4)) (K l)))) (Ae PR Al [(.box r 0)] [.one .bool] c (fun (b4:Bool) m=>BIf (!b4) (Ae PR Ao [(.box r 0),.int .i64 3] [] m (fun (s:St)=>K s)) (K m)))))))) (Ae PR Al [(.box r 0)] [.one .bool] c (fun (b5:Bool) j=>BIf (!b5) (Ae PR Ao [(.box r 0),.int .i64 3] [] j (fun (p:St)=>K p)) (K j))))))) (Ai (Ab b [] (.t (.box r 13)) 0) (fun (x5:TV)=>Aj (.int .i64) x5 (fun (n4:Int)=>BId ((0:Int)<n4) (Ai (Ab b [] (.t (.box r 14)) 0) (fun (x6:TV)=>Aj (.int .i64) x6 (fun (n5:Int)=>Ai (Ab b [] (.t (.box r 15)) 0) (fun (x7:TV)=>Aj (.int .i64) x7 (fun (n6:Int)=>BId (n6<=n5) (Ae PR AF [(.box r 0),.int .i64 10] [] b (fun (u:St)=>Ae PR Al [(.box r 0)] [.one .bool] u (fun (b6:Bool) k=>BIf (!b6) (Ae PR Ao [(.box r 0),.int .i64 3] [] k (fun (v:St)=>K v)) (K k)))) (Ae PR Al [(.box r 0)] [.one .bool] b (fun (b7:Bool) d=>BIf (!b7) (Ae PR Ao [(.box r 0),.int .i64 3] [] d (fun (q:St)=>K q)) (K d)))))))) (Ae PR Al [(.box r 0)] [.one .bool] b (fun (b8:Bool) i=>BIf (!b8) (Ae PR Ao [(.box r 0),.int .i64 3] [] i (fun (o:St)=>K o)) (K i)))))))))) (Ai (Ab a [] (.t (.box r 13)) 0) (fun (x8:TV)=>Aj (.int .i64) x8 (fun (n7:Int)=>BId ((0:Int)<n7) (Ai (Ab a [] (.t (.box r 14)) 0) (fun (x9:TV)=>Aj (.int .i64) x9 (fun (n8:Int)=>Ai (Ab a [] (.t (.box r 15)) 0) (fun (z:TV)=>Aj (.int .i64) z (fun (n9:Int)=>BId (n9<=n8) (Ae PR AF [(.box r 0),.int .i64 10] [] a (fun (w:St)=>Ae PR Al [(.box r 0)] [.one .bool] w (fun (b9:Bool) g=>BIf (!b9) (Ae PR Ao [(.box r 0),.int .i64 3] [] g (fun (n:St)=>K n)) (K g)))) (Ae PR Al [(.box r 0)] [.one .bool] a (fun (a5:Bool) e=>BIf (!a5) (Ae PR Ao [(.box r 0),.int .i64 3] [] e (fun (y:St)=>K y)) (K e)))))))) (Ae PR Al [(.box r 0)] [.one .bool] a (fun (a2:Bool) f=>BIf (!a2) (Ae PR Ao [(.box r 0),.int .i64 3] [] f (fun (x:St)=>K x)) (K f)))))))))):Ae PR AQ [(.box r 0),.int .i64 atx] [] st K:=
 Am (cfg:=⟨[],[],[]⟩) (h:= .none) mixed (fun _ _=>Tryz.call135 _ _) Tryz.func135 (by kernel_rfl) (by kernel_rfl) h
theorem Eh (r:Nat) (c:Int) (st:St) (K:St->Prop) (h:Ai (Ab st [] (.t (.box r 0)) 0) (fun (v1:TV)=>Ai ((CG Nn (.list 1 .full 1 [.int .u8 c])).map TV.str) (fun (x2:TV)=>Aj .str x2 (fun (s1:B8)=>Ae PR B4 [v1,.str s1] [.one (.int .i64)] st (fun (n1:Int) a=>BId (n1≠0) (Ai (Ab a [] (.t (.box r 20)) 0) (fun (x3:TV)=>Aj (.int .i64) x3 (fun (n2:Int)=>Ae PR Af [(.box r 0),.int .i64 n2,.int .i64 28] [] a (fun (b:St)=>K b)))) (K a)))))):Ae PR Ay [(.box r 0),.int .u8 c] [] st K:=
 Am (cfg:=⟨[],[],[7]⟩) (h:= .none) mixed (fun _ _=>Tryz.call136 _ _) Tryz.func136 (by kernel_rfl) (by kernel_rfl) h
theorem Dv (r:Nat) (c:Int) (atx:Int) (st:St) (K:St->Prop) (h:Ai (Ab st [] (.t (.box r 1)) 0) (fun (x1:TV)=>Aj (.int .u8) x1 (fun (n1:Int)=>BId (c=n1) (BId (c=n1) (Ae PR AH [(.box r 0),.int .u8 c,.int .i64 atx] [] st (fun (n:St)=>K n)) (Ai (Ab st [] (.t (.box r 2)) 0) (fun (x2:TV)=>Aj (.int .u8) x2 (fun (n2:Int)=>BId (c=n2) (Ai (Ab st [] (.t (.box r 22)) 0) (fun (x3:TV)=>Aj (.int .i64) x3 (fun (n3:Int)=>BId (n3≠0) (Ai (Ab st [] (.t (.box r 20)) 0) (fun (x4:TV)=>Aj (.int .i64) x4 (fun (n4:Int)=>Ai (Ab st [] (.t (.box r 22)) 0) (fun (x5:TV)=>Aj (.int .i64) x5 (fun (n5:Int)=>Ae PR Af [(.box r 0),.int .i64 n4,.int .i64 n5] [] st (fun (z:St)=>Ae PR Af [(.box r 0),.int .i64 atx,.int .i64 3] [] z (fun (s:St)=>K s))))))) (Ae PR Af [(.box r 0),.int .i64 atx,.int .i64 3] [] st (fun (k:St)=>K k))))) (Ae PR Ay [(.box r 0),.int .u8 c] [] st (fun (o:St)=>K o)))))) (BId (c=10) (BId (c=10) (Ae PR AH [(.box r 0),.int .u8 c,.int .i64 atx] [] st (fun (u:St)=>K u)) (Ai (Ab st [] (.t (.box r 2)) 0) (fun (x6:TV)=>Aj (.int .u8) x6 (fun (n6:Int)=>BId (c=n6) (Ai (Ab st [] (.t (.box r 22)) 0) (fun (x7:TV)=>Aj (.int .i64) x7 (fun (n7:Int)=>BId (n7≠0) (Ai (Ab st [] (.t (.box r 20)) 0) (fun (x8:TV)=>Aj (.int .i64) x8 (fun (n8:Int)=>Ai (Ab st [] (.t (.box r 22)) 0) (fun (x9:TV)=>Aj (.int .i64) x9 (fun (n9:Int)=>Ae PR Af [(.box r 0),.int .i64 n8,.int .i64 n9] [] st (fun (i:St)=>Ae PR Af [(.box r 0),.int .i64 atx,.int .i64 3] [] i (fun (a0:St)=>K a0))))))) (Ae PR Af [(.box r 0),.int .i64 atx,.int .i64 3] [] st (fun (l:St)=>K l))))) (Ae PR Ay [(.box r 0),.int .u8 c] [] st (fun (b:St)=>K b)))))) (BId (c=13) (Ae PR AH [(.box r 0),.int .u8 c,.int .i64 atx] [] st (fun (f:St)=>K f)) (Ai (Ab st [] (.t (.box r 2)) 0) (fun (p:TV)=>Aj (.int .u8) p (fun (q:Int)=>BId (c=q) (Ai (Ab st [] (.t (.box r 22)) 0) (fun (m:TV)=>Aj (.int .i64) m (fun (y:Int)=>BId (y≠0) (Ai (Ab st [] (.t (.box r 20)) 0) (fun (j:TV)=>Aj (.int .i64) j (fun (w:Int)=>Ai (Ab st [] (.t (.box r 22)) 0) (fun (v:TV)=>Aj (.int .i64) v (fun (x:Int)=>Ae PR Af [(.box r 0),.int .i64 w,.int .i64 x] [] st (fun (a:St)=>Ae PR Af [(.box r 0),.int .i64 atx,.int .i64 3] [] a (fun (d:St)=>K d))))))) (Ae PR Af [(.box r 0),.int .i64 atx,.int .i64 3] [] st (fun (g:St)=>K g))))) (Ae PR Ay [(.box r 0),.int .u8 c] [] st (fun (e:St)=>K e)))))))))):Ae PR A0 [(.box r 0),.int .u8 c,.int .i64 atx] [] st K:=
 Am (cfg:=⟨[],[],[39,43]⟩) (h:= .none) mixed (fun _ _=>Tryz.call137 _ _) Tryz.func137 (by kernel_rfl) (by kernel_rfl) h
theorem DW (r:Nat) (c:Int) (atx:Int) (st:St) (K:St->Prop) (h:Ae PR As [(.box r 0)] [] st (fun (a:St)=>Ai (Ab a [] (.t (.box r 28)) 0) (fun (x1:TV)=>Aj (.int .i64) x1 (fun (n1:Int)=>BId (n1≠0) (K a) (Ai (Ab a [] (.t (.box r 1)) 0) (fun (x2:TV)=>Aj (.int .u8) x2 (fun (n2:Int)=>BId (c=n2) (stB a (.box r 10) [.int .i64 0] (fun g=>K g)) (BId (c=10) (Ae PR Aq [(.box r 0),.int .i64 atx] [] a (fun (b:St)=>K b)) (BId (c=13) (stB a (.box r 10) [.int .i64 4] (fun f=>stB f (.box r 21) [.int .i64 atx] (fun e=>K e))) (Ae PR Af [(.box r 0),.int .i64 atx,.int .i64 3] [] a (fun (d:St)=>K d))))))))))):Ae PR AH [(.box r 0),.int .u8 c,.int .i64 atx] [] st K:=
 Am (cfg:=⟨[],[],[]⟩) (h:= .none) mixed (fun _ _=>Tryz.call138 _ _) Tryz.func138 (by kernel_rfl) (by kernel_rfl) h
theorem Ei (r:Nat) (off:Int) (e:Int) (st:St) (K:St->Prop) (h:Ai (Ab st [] (.t (.box r 28)) 0) (fun (x1:TV)=>Aj (.int .i64) x1 (fun (n1:Int)=>BId (n1=0) (stB st (.box r 27) [.int .i64 off] (fun g=>stB g (.box r 28) [.int .i64 e] (fun a=>Ai (Ab a [] (.t (.box r 0)) 0) (fun (v1:TV)=>Ai (Ab a [] (.t (.box r 0)) 0) (fun (v2:TV)=>Ae PR AN [v2] [.one (.int .i64)] a (fun (n2:Int) b=>(Ab b [] (.t (.box r 0)) 0=some v1/\Ae PR AJ [v1,.int .i64 n2] [.one .str,.one (.int .i64)] b (fun (s1:B8) (n3:Int) f=>(Ab f [] (.t (.box r 0)) 0=some v2/\K f))))))))) (Ai (Ab st [] (.t (.box r 0)) 0) (fun (v3:TV)=>Ai (Ab st [] (.t (.box r 0)) 0) (fun (v4:TV)=>Ae PR AN [v4] [.one (.int .i64)] st (fun (n4:Int) d=>(Ab d [] (.t (.box r 0)) 0=some v3/\Ae PR AJ [v3,.int .i64 n4] [.one .str,.one (.int .i64)] d (fun (s2:B8) (n5:Int) c=>(Ab c [] (.t (.box r 0)) 0=some v4/\K c)))))))))):Ae PR Af [(.box r 0),.int .i64 off,.int .i64 e] [] st K:=
 Am (cfg:=⟨[],[],[22,26]⟩) (h:= .none) mixed (fun _ _=>Tryz.call139 _ _) Tryz.func139 (by kernel_rfl) (by kernel_rfl) h
theorem DE (r:Nat) (atx:Int) (st:St) (K:St->Prop) (h:Ai (Ab st [] (.t (.box r 28)) 0) (fun (x1:TV)=>Aj (.int .i64) x1 (fun (n1:Int)=>BId (n1≠0) (K st) (∃(C1:TV->Int->St->Prop),(Ai (Ab st [] (.t (.box r 13)) 0) (fun (x2:TV)=>Aj (.int .i64) x2 (fun (n2:Int)=>BId (n2=0) (Ai (Ab st [] (.t (.box r 14)) 0) (fun (x3:TV)=>Aj (.int .i64) x3 (fun (n3:Int)=>stB st (.box r 15) [.int .i64 n3] (fun u=>stB u (.box r 18) [.bool true] (fun x=>C1 ((.box r 0)) atx x))))) (C1 ((.box r 0)) atx st))))/\∀a e c,C1 a e c->(need (Aa a) (need (Aa a) (Ai (Ab c [] (.t (Ah a 14)) 0) (fun (x4:TV)=>Aj (.int .i64) x4 (fun (n4:Int)=>need (Aa a) (need (Aa a) (Ai (Ab c [] (.t (Ah a 15)) 0) (fun (x5:TV)=>Aj (.int .i64) x5 (fun (n5:Int)=>BId (n4<n5) (Ae PR Af [a,.int .i64 e,.int .i64 10] [] c (fun (p:St)=>K p)) (Ae PR Al [a] [.one .bool] c (fun (b1:Bool) b=>BIf (!b1) (need (Aa a) (need (Aa a) (need (Aa (Ah a 1)) (Ai (Ab b [] (.t (Ah (Ah a 1) 2)) 0) (fun (x6:TV)=>Aj .bool x6 (fun (b2:Bool)=>BIf b2 (need (Aa a) (need (Aa a) (Ai (Ab b [] (.t (Ah a 26)) 0) (fun (v1:TV)=>AU 118 15 192 v1 1 [.int .i64 5,(.str []),.int .i64 0,.bool false,.bool false,(.str []),.int .i64 0,.int .i64 0,.int .i64 0,.int .i64 0,.int .i64 0,(.str []),.nilSlice,.nilSlice,.nilSlice] b (fun (v2:TV) w=>need (Aa a) (need (Aa a) (need (List.all [v2] Aw) (stB w (Ah a 26) [v2] (fun f=>need (Aa a) (need (Aa a) (Ai (Ab f [] (.t (Ah a 13)) 0) (fun (x8:TV)=>Aj (.int .i64) x8 (fun (n6:Int)=>need (Aa a) (need (Aa a) (stB f (Ah a 13) [(.int .i64 (i64.wrap (n6+(1:Int))))] (fun y=>need (Aa a) (need (Aa a) (stB y (Ah a 12) [.bool false] (fun q=>need (Aa a) (need (Aa a) (stB q (Ah a 10) [.int .i64 0] (fun j=>K j)))))))))))))))))))))) (need (Aa a) (need (Aa a) (Ai (Ab b [] (.t (Ah a 26)) 0) (fun (v3:TV)=>AU 118 15 192 v3 1 [.int .i64 3,(.str []),.int .i64 0,.bool false,.bool false,(.str []),.int .i64 0,.int .i64 0,.int .i64 0,.int .i64 0,.int .i64 0,(.str []),.nilSlice,.nilSlice,.nilSlice] b (fun (v4:TV) n=>need (Aa a) (need (Aa a) (need (List.all [v4] Aw) (stB n (Ah a 26) [v4] (fun d=>need (Aa a) (need (Aa a) (Ai (Ab d [] (.t (Ah a 13)) 0) (fun (v:TV)=>Aj (.int .i64) v (fun (n7:Int)=>need (Aa a) (need (Aa a) (stB d (Ah a 13) [(.int .i64 (i64.wrap (n7+(1:Int))))] (fun k=>need (Aa a) (need (Aa a) (stB k (Ah a 12) [.bool false] (fun o=>need (Aa a) (need (Aa a) (stB o (Ah a 10) [.int .i64 0] (fun l=>K l)))))))))))))))))))))))))))) (need (Aa a) (need (Aa a) (Ai (Ab b [] (.t (Ah a 13)) 0) (fun (s:TV)=>Aj (.int .i64) s (fun (n8:Int)=>need (Aa a) (need (Aa a) (stB b (Ah a 13) [(.int .i64 (i64.wrap (n8+(1:Int))))] (fun g=>need (Aa a) (need (Aa a) (stB g (Ah a 12) [.bool false] (fun i=>need (Aa a) (need (Aa a) (stB i (Ah a 10) [.int .i64 0] (fun m=>K m))))))))))))))))))))))))))))):Ae PR Aq [(.box r 0),.int .i64 atx] [] st K:=
 Am (cfg:=⟨[],[],[]⟩) (h:=(.seq .none (.cut ⟨[(0,.tv),(1,.int .i64)],[],[],[]⟩ .none .none))) mixed (fun _ _=>Tryz.call140 _ _) Tryz.func140 (by kernel_rfl) (by kernel_rfl) h
theorem Ej (r:Nat) (st:St) (K:St->Prop) (h:Ai (Ab st [] (.t (.box r 0)) 0) (fun (v1:TV)=>Ai (Ab st [] (.t (.box r 0)) 0) (fun (v2:TV)=>Ae PR AN [v2] [.one (.int .i64)] st (fun (n1:Int) o4=>(Ab o4 [] (.t (.box r 0)) 0=some v1/\Ae PR AJ [v1,.int .i64 n1] [.one .str,.one (.int .i64)] o4 (fun (s1:B8) (n2:Int) n=>(Ab n [] (.t (.box r 0)) 0=some v2/\Ai (Ab n [] (.t (.box r 22)) 0) (fun (x3:TV)=>Aj (.int .i64) x3 (fun (n3:Int)=>BId (n3≠0) (Ai (Ab n [] (.t (.box r 20)) 0) (fun (x4:TV)=>Aj (.int .i64) x4 (fun (n4:Int)=>Ai (Ab n [] (.t (.box r 22)) 0) (fun (x5:TV)=>Aj (.int .i64) x5 (fun (n5:Int)=>Ae PR Af [(.box r 0),.int .i64 n4,.int .i64 n5] [] n (fun (st3:St)=>K st3)))))) (BId (s1≠([]:B8)) (((0<=(0:Int)/\(0:Int)<(s1.length:Int))/\Ai (Ab n [] (.t (.box r 2)) 0) (fun (x6:TV)=>Aj (.int .u8) x6 (fun (n6:Int)=>∃(C1:B8->TV->Bool->St->Prop),(BId (((List.getD s1 (Int.toNat (0:Int)) 0).toNat:Int)=n6) (Ai (Ab n [] (.t (.box r 2)) 0) (fun (x7:TV)=>Aj (.int .u8) x7 (fun (n7:Int)=>Ai ((CG n (.list 1 .full 1 [.int .u8 n7])).map TV.str) (fun (x8:TV)=>Aj .str x8 (fun (s2:B8)=>((0<=(1:Int)/\(1:Int)<=(i64.wrap ((s1.length:Int)-(1:Int)))/\(i64.wrap ((s1.length:Int)-(1:Int)))<=(s1.length:Int))/\(s2.length+s2.length<=9223372036854775807/\Ae PR Dg [(.str (List.drop (Int.toNat (1:Int)) (List.take (Int.toNat (i64.wrap ((s1.length:Int)-(1:Int)))) s1))),(.str (s2++s2)),.str s2] [.one .str] n (fun (s3:B8) st4=>C1 s3 ((.box r 0)) ((decide (((List.getD s1 (Int.toNat (0:Int)) 0).toNat:Int)=n6))) st4)))))))) (C1 s1 ((.box r 0)) ((decide (((List.getD s1 (Int.toNat (0:Int)) 0).toNat:Int)=n6))) n))/\∀i b d m5,C1 i b d m5->(Ae PR Al [b] [.one .bool] m5 (fun (b1:Bool) f=>BIf b1 (BId ((1024:Int)<(i.length:Int)) (need (Aa b) (need (Aa b) (Ai (Ab f [] (.t (Ah b 20)) 0) (fun (x9:TV)=>Aj (.int .i64) x9 (fun (n8:Int)=>Ae PR Af [b,.int .i64 n8,.int .i64 10] [] f (fun (p4:St)=>need (Aa b) (need (Aa b) (Ai (Ab p4 [] (.t (Ah b 17)) 0) (fun (v3:TV)=>muK v3 i (.bool true) p4 (fun q4=>need (Aa b) (need (Aa b) (Ai (Ab q4 [] (.t (Ah b 16)) 0) (fun (v4:TV)=>AU 9 1 16 v4 1 [.str i] q4 (fun (v5:TV) st9=>need (Aa b) (need (Aa b) (need (List.all [v5] Aw) (stB st9 (Ah b 16) [v5] (fun g4=>need (Aa b) (need (Aa b) (Ai (Ab g4 [] (.t (Ah b 14)) 0) (fun (x12:TV)=>Aj (.int .i64) x12 (fun (n9:Int)=>need (Aa b) (need (Aa b) (stB g4 (Ah b 14) [(.int .i64 (i64.wrap (n9+(1:Int))))] (fun st11=>K st11))))))))))))))))))))))))) (need (Aa b) (need (Aa b) (Ai (Ab f [] (.t (Ah b 17)) 0) (fun (v6:TV)=>Ai (G9 f v6) (fun (es1:List (B8×TV))=>Aj .bool (IQ (.bool false) (Cv i es1)) (fun (b2:Bool)=>BIf b2 (need (Aa b) (need (Aa b) (Ai (Ab f [] (.t (Ah b 20)) 0) (fun (x14:TV)=>Aj (.int .i64) x14 (fun (n10:Int)=>Ae PR Af [b,.int .i64 n10,.int .i64 8] [] f (fun (a6:St)=>need (Aa b) (need (Aa b) (Ai (Ab a6 [] (.t (Ah b 17)) 0) (fun (v7:TV)=>muK v7 i (.bool true) a6 (fun c6=>need (Aa b) (need (Aa b) (Ai (Ab c6 [] (.t (Ah b 16)) 0) (fun (v8:TV)=>AU 9 1 16 v8 1 [.str i] c6 (fun (v9:TV) st14=>need (Aa b) (need (Aa b) (need (List.all [v9] Aw) (stB st14 (Ah b 16) [v9] (fun c5=>need (Aa b) (need (Aa b) (Ai (Ab c5 [] (.t (Ah b 14)) 0) (fun (x17:TV)=>Aj (.int .i64) x17 (fun (n11:Int)=>need (Aa b) (need (Aa b) (stB c5 (Ah b 14) [(.int .i64 (i64.wrap (n11+(1:Int))))] (fun st16=>K st16))))))))))))))))))))))))) (need (Aa b) (need (Aa b) (Ai (Ab f [] (.t (Ah b 17)) 0) (fun (v10:TV)=>muK v10 i (.bool true) f (fun h2=>need (Aa b) (need (Aa b) (Ai (Ab h2 [] (.t (Ah b 16)) 0) (fun (v11:TV)=>AU 9 1 16 v11 1 [.str i] h2 (fun (r3:TV) st18=>need (Aa b) (need (Aa b) (need (List.all [r3] Aw) (stB st18 (Ah b 16) [r3] (fun e1=>need (Aa b) (need (Aa b) (Ai (Ab e1 [] (.t (Ah b 14)) 0) (fun (x20:TV)=>Aj (.int .i64) x20 (fun (n12:Int)=>need (Aa b) (need (Aa b) (stB e1 (Ah b 14) [(.int .i64 (i64.wrap (n12+(1:Int))))] (fun st20=>K st20))))))))))))))))))))))))))) (BId ((65536:Int)<(i.length:Int)) (need (Aa b) (need (Aa b) (Ai (Ab f [] (.t (Ah b 20)) 0) (fun (x21:TV)=>Aj (.int .i64) x21 (fun (n13:Int)=>Ae PR Af [b,.int .i64 n13,.int .i64 10] [] f (fun (st21:St)=>K st21)))))) (need (Aa b) (need (Aa b) (Ai (Ab f [] (.t (Ah b 14)) 0) (fun (x22:TV)=>Aj (.int .i64) x22 (fun (n14:Int)=>BId (n14=0) (need (Aa b) (need (Aa b) (need (Aa (Ah b 1)) (Ai (Ab f [] (.t (Ah (Ah b 1) 2)) 0) (fun (x23:TV)=>Aj .bool x23 (fun (b3:Bool)=>BIf b3 (need (Aa b) (need (Aa b) (Ai (Ab f [] (.t (Ah b 26)) 0) (fun (v13:TV)=>AU 118 15 192 v13 1 [.int .i64 4,(.str []),.int .i64 0,.bool false,.bool false,(.str []),.int .i64 0,.int .i64 0,.int .i64 0,.int .i64 0,.int .i64 0,(.str []),.nilSlice,.nilSlice,.nilSlice] f (fun (p1:TV) st22=>need (Aa b) (need (Aa b) (need (List.all [p1] Aw) (stB st22 (Ah b 26) [p1] (fun l=>need (Aa b) (need (Aa b) (need (Aa (Ah b 1)) (Ai (Ab l [] (.t (Ah (Ah b 1) 2)) 0) (fun (x25:TV)=>Aj .bool x25 (fun (b4:Bool)=>BIf b4 (need (Aa b) (need (Aa b) (Ai (Ab l [] (.t (Ah b 26)) 0) (fun (v15:TV)=>need (Aa b) (need (Aa b) (Ai (Ab l [] (.t (Ah b 16)) 0) (fun (o1:TV)=>need (Aa b) (need (Aa b) (Ai (Ab l [] (.t (Ah b 14)) 0) (fun (x28:TV)=>Aj (.int .i64) x28 (fun (i0:Int)=>((0<=i0/\i0<(lenZ 1 o1:Int))/\Ai (Ab l [] (.t (ixT 1 o1 i0.toNat)) 0) (fun (x29:TV)=>Aj .str x29 (fun (s4:B8)=>AU 118 15 192 v15 1 [.int .i64 6,.str s4,.int .i64 0,.bool false,.bool false,(.str []),.int .i64 0,.int .i64 0,.int .i64 0,.int .i64 0,.int .i64 0,(.str []),.nilSlice,.nilSlice,.nilSlice] l (fun (u3:TV) st24=>need (Aa b) (need (Aa b) (need (List.all [u3] Aw) (stB st24 (Ah b 26) [u3] (fun p=>need (Aa b) (need (Aa b) (Ai (Ab p [] (.t (Ah b 26)) 0) (fun (v18:TV)=>need (Aa b) (need (Aa b) (Ai ((AA p [] (.t (Ah b 1)) 0 4).map TV.agg) (fun (x31:TV)=>EK [.int .u8,.int .u8,.bool,.bool] x31 (fun (n16 n17:Int) (b5 b6:Bool)=>Ae PR Ax [.str i,.bool d,(.agg [.int .u8 n16,.int .u8 n17,.bool b5,.bool b6])] [sV] p (fun (w1:Int) (b7 b8:Bool) (s5:B8) (w3 n20 z9 n22 p8:Int) (s6:B8) (m0 x2 w2:TV) d8=>(Ab d8 [] (.t (Ah b 26)) 0=some v18/\need (List.all [.int .i64 1,(.str []),.int .i64 w1,.bool b7,.bool b8,.str s5,.int .i64 w3,.int .i64 n20,.int .i64 z9,.int .i64 n22,.int .i64 p8,.str s6,m0,x2,w2] Aw) (AU 118 15 192 v18 1 [.int .i64 1,(.str []),.int .i64 w1,.bool b7,.bool b8,.str s5,.int .i64 w3,.int .i64 n20,.int .i64 z9,.int .i64 n22,.int .i64 p8,.str s6,m0,x2,w2] d8 (fun (r9:TV) st27=>need (Aa b) (need (Aa b) (need (List.all [r9] Aw) (stB st27 (Ah b 26) [r9] (fun e6=>need (Aa b) (need (Aa b) (Ai (Ab e6 [] (.t (Ah b 14)) 0) (fun (x32:TV)=>Aj (.int .i64) x32 (fun (n24:Int)=>need (Aa b) (need (Aa b) (stB e6 (Ah b 14) [(.int .i64 (i64.wrap (n24+(1:Int))))] (fun st29=>K st29))))))))))))))))))))))))))))))))))))))))) (need (Aa b) (need (Aa b) (Ai (Ab l [] (.t (Ah b 26)) 0) (fun (j4:TV)=>need (Aa b) (need (Aa b) (Ai ((AA l [] (.t (Ah b 1)) 0 4).map TV.agg) (fun (x34:TV)=>EK [.int .u8,.int .u8,.bool,.bool] x34 (fun (n25 n26:Int) (b9 b10:Bool)=>Ae PR Ax [.str i,.bool d,(.agg [.int .u8 n25,.int .u8 n26,.bool b9,.bool b10])] [sV] l (fun (k9:Int) (u7 q7:Bool) (s7:B8) (x0 n29 q5 n31 q0:Int) (s8:B8) (z3 u6 w9:TV) d2=>(Ab d2 [] (.t (Ah b 26)) 0=some j4/\need (List.all [.int .i64 1,(.str []),.int .i64 k9,.bool u7,.bool q7,.str s7,.int .i64 x0,.int .i64 n29,.int .i64 q5,.int .i64 n31,.int .i64 q0,.str s8,z3,u6,w9] Aw) (AU 118 15 192 j4 1 [.int .i64 1,(.str []),.int .i64 k9,.bool u7,.bool q7,.str s7,.int .i64 x0,.int .i64 n29,.int .i64 q5,.int .i64 n31,.int .i64 q0,.str s8,z3,u6,w9] d2 (fun (y0:TV) st31=>need (Aa b) (need (Aa b) (need (List.all [y0] Aw) (stB st31 (Ah b 26) [y0] (fun a5=>need (Aa b) (need (Aa b) (Ai (Ab a5 [] (.t (Ah b 14)) 0) (fun (x35:TV)=>Aj (.int .i64) x35 (fun (n33:Int)=>need (Aa b) (need (Aa b) (stB a5 (Ah b 14) [(.int .i64 (i64.wrap (n33+(1:Int))))] (fun st33=>K st33))))))))))))))))))))))))))))))))))))) (need (Aa b) (need (Aa b) (Ai (Ab f [] (.t (Ah b 26)) 0) (fun (v28:TV)=>AU 118 15 192 v28 1 [.int .i64 2,(.str []),.int .i64 0,.bool false,.bool false,(.str []),.int .i64 0,.int .i64 0,.int .i64 0,.int .i64 0,.int .i64 0,(.str []),.nilSlice,.nilSlice,.nilSlice] f (fun (k6:TV) st34=>need (Aa b) (need (Aa b) (need (List.all [k6] Aw) (stB st34 (Ah b 26) [k6] (fun m=>need (Aa b) (need (Aa b) (need (Aa (Ah b 1)) (Ai (Ab m [] (.t (Ah (Ah b 1) 2)) 0) (fun (x37:TV)=>Aj .bool x37 (fun (b13:Bool)=>BIf b13 (need (Aa b) (need (Aa b) (Ai (Ab m [] (.t (Ah b 26)) 0) (fun (v30:TV)=>need (Aa b) (need (Aa b) (Ai (Ab m [] (.t (Ah b 16)) 0) (fun (y7:TV)=>need (Aa b) (need (Aa b) (Ai (Ab m [] (.t (Ah b 14)) 0) (fun (x40:TV)=>Aj (.int .i64) x40 (fun (f2:Int)=>((0<=f2/\f2<(lenZ 1 y7:Int))/\Ai (Ab m [] (.t (ixT 1 y7 f2.toNat)) 0) (fun (x41:TV)=>Aj .str x41 (fun (s9:B8)=>AU 118 15 192 v30 1 [.int .i64 6,.str s9,.int .i64 0,.bool false,.bool false,(.str []),.int .i64 0,.int .i64 0,.int .i64 0,.int .i64 0,.int .i64 0,(.str []),.nilSlice,.nilSlice,.nilSlice] m (fun (l9:TV) st36=>need (Aa b) (need (Aa b) (need (List.all [l9] Aw) (stB st36 (Ah b 26) [l9] (fun u=>need (Aa b) (need (Aa b) (Ai (Ab u [] (.t (Ah b 26)) 0) (fun (u1:TV)=>need (Aa b) (need (Aa b) (Ai ((AA u [] (.t (Ah b 1)) 0 4).map TV.agg) (fun (x43:TV)=>EK [.int .u8,.int .u8,.bool,.bool] x43 (fun (n35 n36:Int) (b14 b15:Bool)=>Ae PR Ax [.str i,.bool d,(.agg [.int .u8 n35,.int .u8 n36,.bool b14,.bool b15])] [sV] u (fun (n37:Int) (w8 q9:Bool) (k7:B8) (l1 t4 j8 z0 i9:Int) (j9:B8) (m4 p5 l0:TV) f3=>(Ab f3 [] (.t (Ah b 26)) 0=some u1/\need (List.all [.int .i64 1,(.str []),.int .i64 n37,.bool w8,.bool q9,.str k7,.int .i64 l1,.int .i64 t4,.int .i64 j8,.int .i64 z0,.int .i64 i9,.str j9,m4,p5,l0] Aw) (AU 118 15 192 u1 1 [.int .i64 1,(.str []),.int .i64 n37,.bool w8,.bool q9,.str k7,.int .i64 l1,.int .i64 t4,.int .i64 j8,.int .i64 z0,.int .i64 i9,.str j9,m4,p5,l0] f3 (fun (j1:TV) st39=>need (Aa b) (need (Aa b) (need (List.all [j1] Aw) (stB st39 (Ah b 26) [j1] (fun c0=>need (Aa b) (need (Aa b) (Ai (Ab c0 [] (.t (Ah b 14)) 0) (fun (x44:TV)=>Aj (.int .i64) x44 (fun (n43:Int)=>need (Aa b) (need (Aa b) (stB c0 (Ah b 14) [(.int .i64 (i64.wrap (n43+(1:Int))))] (fun st41=>K st41))))))))))))))))))))))))))))))))))))))))) (need (Aa b) (need (Aa b) (Ai (Ab m [] (.t (Ah b 26)) 0) (fun (v38:TV)=>need (Aa b) (need (Aa b) (Ai ((AA m [] (.t (Ah b 1)) 0 4).map TV.agg) (fun (x46:TV)=>EK [.int .u8,.int .u8,.bool,.bool] x46 (fun (n44 n45:Int) (b18 b19:Bool)=>Ae PR Ax [.str i,.bool d,(.agg [.int .u8 n44,.int .u8 n45,.bool b18,.bool b19])] [sV] m (fun (o3:Int) (z6 o0:Bool) (p2:B8) (q1 l7 k1 n50 j0:Int) (o8:B8) (t1 q8 p0:TV) f8=>(Ab f8 [] (.t (Ah b 26)) 0=some v38/\need (List.all [.int .i64 1,(.str []),.int .i64 o3,.bool z6,.bool o0,.str p2,.int .i64 q1,.int .i64 l7,.int .i64 k1,.int .i64 n50,.int .i64 j0,.str o8,t1,q8,p0] Aw) (AU 118 15 192 v38 1 [.int .i64 1,(.str []),.int .i64 o3,.bool z6,.bool o0,.str p2,.int .i64 q1,.int .i64 l7,.int .i64 k1,.int .i64 n50,.int .i64 j0,.str o8,t1,q8,p0] f8 (fun (w4:TV) st43=>need (Aa b) (need (Aa b) (need (List.all [w4] Aw) (stB st43 (Ah b 26) [w4] (fun g2=>need (Aa b) (need (Aa b) (Ai (Ab g2 [] (.t (Ah b 14)) 0) (fun (x47:TV)=>Aj (.int .i64) x47 (fun (n52:Int)=>need (Aa b) (need (Aa b) (stB g2 (Ah b 14) [(.int .i64 (i64.wrap (n52+(1:Int))))] (fun st45=>K st45))))))))))))))))))))))))))))))))))))))))))) (need (Aa b) (need (Aa b) (need (Aa (Ah b 1)) (Ai (Ab f [] (.t (Ah (Ah b 1) 2)) 0) (fun (x48:TV)=>Aj .bool x48 (fun (b22:Bool)=>BIf b22 (need (Aa b) (need (Aa b) (Ai (Ab f [] (.t (Ah b 26)) 0) (fun (v43:TV)=>need (Aa b) (need (Aa b) (Ai (Ab f [] (.t (Ah b 16)) 0) (fun (v0:TV)=>need (Aa b) (need (Aa b) (Ai (Ab f [] (.t (Ah b 14)) 0) (fun (x51:TV)=>Aj (.int .i64) x51 (fun (c9:Int)=>((0<=c9/\c9<(lenZ 1 v0:Int))/\Ai (Ab f [] (.t (ixT 1 v0 c9.toNat)) 0) (fun (x52:TV)=>Aj .str x52 (fun (s14:B8)=>AU 118 15 192 v43 1 [.int .i64 6,.str s14,.int .i64 0,.bool false,.bool false,(.str []),.int .i64 0,.int .i64 0,.int .i64 0,.int .i64 0,.int .i64 0,(.str []),.nilSlice,.nilSlice,.nilSlice] f (fun (t9:TV) st46=>need (Aa b) (need (Aa b) (need (List.all [t9] Aw) (stB st46 (Ah b 26) [t9] (fun q=>need (Aa b) (need (Aa b) (Ai (Ab q [] (.t (Ah b 26)) 0) (fun (o2:TV)=>need (Aa b) (need (Aa b) (Ai ((AA q [] (.t (Ah b 1)) 0 4).map TV.agg) (fun (x54:TV)=>EK [.int .u8,.int .u8,.bool,.bool] x54 (fun (n54 n55:Int) (b23 b24:Bool)=>Ae PR Ax [.str i,.bool d,(.agg [.int .u8 n54,.int .u8 n55,.bool b23,.bool b24])] [sV] q (fun (p6:Int) (u0 w7:Bool) (s15:B8) (n57 y3 k0 y2 n61:Int) (s16:B8) (u4 s0 z7:TV) b0=>(Ab b0 [] (.t (Ah b 26)) 0=some o2/\need (List.all [.int .i64 1,(.str []),.int .i64 p6,.bool u0,.bool w7,.str s15,.int .i64 n57,.int .i64 y3,.int .i64 k0,.int .i64 y2,.int .i64 n61,.str s16,u4,s0,z7] Aw) (AU 118 15 192 o2 1 [.int .i64 1,(.str []),.int .i64 p6,.bool u0,.bool w7,.str s15,.int .i64 n57,.int .i64 y3,.int .i64 k0,.int .i64 y2,.int .i64 n61,.str s16,u4,s0,z7] b0 (fun (x1:TV) st49=>need (Aa b) (need (Aa b) (need (List.all [x1] Aw) (stB st49 (Ah b 26) [x1] (fun h1=>need (Aa b) (need (Aa b) (Ai (Ab h1 [] (.t (Ah b 14)) 0) (fun (x55:TV)=>Aj (.int .i64) x55 (fun (n62:Int)=>need (Aa b) (need (Aa b) (stB h1 (Ah b 14) [(.int .i64 (i64.wrap (n62+(1:Int))))] (fun st51=>K st51))))))))))))))))))))))))))))))))))))))))) (need (Aa b) (need (Aa b) (Ai (Ab f [] (.t (Ah b 26)) 0) (fun (l8:TV)=>need (Aa b) (need (Aa b) (Ai ((AA f [] (.t (Ah b 1)) 0 4).map TV.agg) (fun (x57:TV)=>EK [.int .u8,.int .u8,.bool,.bool] x57 (fun (n63 n64:Int) (b27 b28:Bool)=>Ae PR Ax [.str i,.bool d,(.agg [.int .u8 n63,.int .u8 n64,.bool b27,.bool b28])] [sV] f (fun (l6:Int) (p7 r2:Bool) (r0:B8) (u2 k8 r6 m2 l2:Int) (q2:B8) (j3 l5 y8:TV) e4=>(Ab e4 [] (.t (Ah b 26)) 0=some l8/\need (List.all [.int .i64 1,(.str []),.int .i64 l6,.bool p7,.bool r2,.str r0,.int .i64 u2,.int .i64 k8,.int .i64 r6,.int .i64 m2,.int .i64 l2,.str q2,j3,l5,y8] Aw) (AU 118 15 192 l8 1 [.int .i64 1,(.str []),.int .i64 l6,.bool p7,.bool r2,.str r0,.int .i64 u2,.int .i64 k8,.int .i64 r6,.int .i64 m2,.int .i64 l2,.str q2,j3,l5,y8] e4 (fun (r7:TV) st53=>need (Aa b) (need (Aa b) (need (List.all [r7] Aw) (stB st53 (Ah b 26) [r7] (fun i1=>need (Aa b) (need (Aa b) (Ai (Ab i1 [] (.t (Ah b 14)) 0) (fun (x58:TV)=>Aj (.int .i64) x58 (fun (n71:Int)=>need (Aa b) (need (Aa b) (stB i1 (Ah b 14) [(.int .i64 (i64.wrap (n71+(1:Int))))] (fun st55=>K st55))))))))))))))))))))))))))))))))))))))))) (∃(C2:B8->TV->Bool->St->Prop),(C2 s1 ((.box r 0)) false n)/\∀g a e c7,C2 g a e c7->(Ae PR Al [a] [.one .bool] c7 (fun (b31:Bool) c=>BIf b31 (BId ((1024:Int)<(g.length:Int)) (need (Aa a) (need (Aa a) (Ai (Ab c [] (.t (Ah a 20)) 0) (fun (x59:TV)=>Aj (.int .i64) x59 (fun (n72:Int)=>Ae PR Af [a,.int .i64 n72,.int .i64 10] [] c (fun (f5:St)=>need (Aa a) (need (Aa a) (Ai (Ab f5 [] (.t (Ah a 17)) 0) (fun (v56:TV)=>muK v56 g (.bool true) f5 (fun d6=>need (Aa a) (need (Aa a) (Ai (Ab d6 [] (.t (Ah a 16)) 0) (fun (v57:TV)=>AU 9 1 16 v57 1 [.str g] d6 (fun (p9:TV) st60=>need (Aa a) (need (Aa a) (need (List.all [p9] Aw) (stB st60 (Ah a 16) [p9] (fun h9=>need (Aa a) (need (Aa a) (Ai (Ab h9 [] (.t (Ah a 14)) 0) (fun (x62:TV)=>Aj (.int .i64) x62 (fun (n73:Int)=>need (Aa a) (need (Aa a) (stB h9 (Ah a 14) [(.int .i64 (i64.wrap (n73+(1:Int))))] (fun st62=>K st62))))))))))))))))))))))))) (need (Aa a) (need (Aa a) (Ai (Ab c [] (.t (Ah a 17)) 0) (fun (v59:TV)=>Ai (G9 c v59) (fun (es2:List (B8×TV))=>Aj .bool (IQ (.bool false) (Cv g es2)) (fun (b32:Bool)=>BIf b32 (need (Aa a) (need (Aa a) (Ai (Ab c [] (.t (Ah a 20)) 0) (fun (x64:TV)=>Aj (.int .i64) x64 (fun (n74:Int)=>Ae PR Af [a,.int .i64 n74,.int .i64 8] [] c (fun (e9:St)=>need (Aa a) (need (Aa a) (Ai (Ab e9 [] (.t (Ah a 17)) 0) (fun (v60:TV)=>muK v60 g (.bool true) e9 (fun h3=>need (Aa a) (need (Aa a) (Ai (Ab h3 [] (.t (Ah a 16)) 0) (fun (v61:TV)=>AU 9 1 16 v61 1 [.str g] h3 (fun (i8:TV) st65=>need (Aa a) (need (Aa a) (need (List.all [i8] Aw) (stB st65 (Ah a 16) [i8] (fun h5=>need (Aa a) (need (Aa a) (Ai (Ab h5 [] (.t (Ah a 14)) 0) (fun (x67:TV)=>Aj (.int .i64) x67 (fun (n75:Int)=>need (Aa a) (need (Aa a) (stB h5 (Ah a 14) [(.int .i64 (i64.wrap (n75+(1:Int))))] (fun st67=>K st67))))))))))))))))))))))))) (need (Aa a) (need (Aa a) (Ai (Ab c [] (.t (Ah a 17)) 0) (fun (v63:TV)=>muK v63 g (.bool true) c (fun h8=>need (Aa a) (need (Aa a) (Ai (Ab h8 [] (.t (Ah a 16)) 0) (fun (v64:TV)=>AU 9 1 16 v64 1 [.str g] h8 (fun (o6:TV) st69=>need (Aa a) (need (Aa a) (need (List.all [o6] Aw) (stB st69 (Ah a 16) [o6] (fun i2=>need (Aa a) (need (Aa a) (Ai (Ab i2 [] (.t (Ah a 14)) 0) (fun (x70:TV)=>Aj (.int .i64) x70 (fun (n76:Int)=>need (Aa a) (need (Aa a) (stB i2 (Ah a 14) [(.int .i64 (i64.wrap (n76+(1:Int))))] (fun st71=>K st71))))))))))))))))))))))))))) (BId ((65536:Int)<(g.length:Int)) (need (Aa a) (need (Aa a) (Ai (Ab c [] (.t (Ah a 20)) 0) (fun (x71:TV)=>Aj (.int .i64) x71 (fun (n77:Int)=>Ae PR Af [a,.int .i64 n77,.int .i64 10] [] c (fun (st72:St)=>K st72)))))) (need (Aa a) (need (Aa a) (Ai (Ab c [] (.t (Ah a 14)) 0) (fun (x72:TV)=>Aj (.int .i64) x72 (fun (n78:Int)=>BId (n78=0) (need (Aa a) (need (Aa a) (need (Aa (Ah a 1)) (Ai (Ab c [] (.t (Ah (Ah a 1) 2)) 0) (fun (x73:TV)=>Aj .bool x73 (fun (b33:Bool)=>BIf b33 (need (Aa a) (need (Aa a) (Ai (Ab c [] (.t (Ah a 26)) 0) (fun (v66:TV)=>AU 118 15 192 v66 1 [.int .i64 4,(.str []),.int .i64 0,.bool false,.bool false,(.str []),.int .i64 0,.int .i64 0,.int .i64 0,.int .i64 0,.int .i64 0,(.str []),.nilSlice,.nilSlice,.nilSlice] c (fun (t6:TV) st73=>need (Aa a) (need (Aa a) (need (List.all [t6] Aw) (stB st73 (Ah a 26) [t6] (fun j=>need (Aa a) (need (Aa a) (need (Aa (Ah a 1)) (Ai (Ab j [] (.t (Ah (Ah a 1) 2)) 0) (fun (x75:TV)=>Aj .bool x75 (fun (b34:Bool)=>BIf b34 (need (Aa a) (need (Aa a) (Ai (Ab j [] (.t (Ah a 26)) 0) (fun (v68:TV)=>need (Aa a) (need (Aa a) (Ai (Ab j [] (.t (Ah a 16)) 0) (fun (p3:TV)=>need (Aa a) (need (Aa a) (Ai (Ab j [] (.t (Ah a 14)) 0) (fun (x78:TV)=>Aj (.int .i64) x78 (fun (g5:Int)=>((0<=g5/\g5<(lenZ 1 p3:Int))/\Ai (Ab j [] (.t (ixT 1 p3 g5.toNat)) 0) (fun (x79:TV)=>Aj .str x79 (fun (s19:B8)=>AU 118 15 192 v68 1 [.int .i64 6,.str s19,.int .i64 0,.bool false,.bool false,(.str []),.int .i64 0,.int .i64 0,.int .i64 0,.int .i64 0,.int .i64 0,(.str []),.nilSlice,.nilSlice,.nilSlice] j (fun (o5:TV) st75=>need (Aa a) (need (Aa a) (need (List.all [o5] Aw) (stB st75 (Ah a 26) [o5] (fun v=>need (Aa a) (need (Aa a) (Ai (Ab v [] (.t (Ah a 26)) 0) (fun (k2:TV)=>need (Aa a) (need (Aa a) (Ai ((AA v [] (.t (Ah a 1)) 0 4).map TV.agg) (fun (x81:TV)=>EK [.int .u8,.int .u8,.bool,.bool] x81 (fun (n80 n81:Int) (b35 b36:Bool)=>Ae PR Ax [.str g,.bool e,(.agg [.int .u8 n80,.int .u8 n81,.bool b35,.bool b36])] [sV] v (fun (n82:Int) (b37 z1:Bool) (z4:B8) (r1 n84 k4 n86 m6:Int) (u9:B8) (v72 l3 v74:TV) e0=>(Ab e0 [] (.t (Ah a 26)) 0=some k2/\need (List.all [.int .i64 1,(.str []),.int .i64 n82,.bool b37,.bool z1,.str z4,.int .i64 r1,.int .i64 n84,.int .i64 k4,.int .i64 n86,.int .i64 m6,.str u9,v72,l3,v74] Aw) (AU 118 15 192 k2 1 [.int .i64 1,(.str []),.int .i64 n82,.bool b37,.bool z1,.str z4,.int .i64 r1,.int .i64 n84,.int .i64 k4,.int .i64 n86,.int .i64 m6,.str u9,v72,l3,v74] e0 (fun (m8:TV) st78=>need (Aa a) (need (Aa a) (need (List.all [m8] Aw) (stB st78 (Ah a 26) [m8] (fun h6=>need (Aa a) (need (Aa a) (Ai (Ab h6 [] (.t (Ah a 14)) 0) (fun (x82:TV)=>Aj (.int .i64) x82 (fun (n88:Int)=>need (Aa a) (need (Aa a) (stB h6 (Ah a 14) [(.int .i64 (i64.wrap (n88+(1:Int))))] (fun st80=>K st80))))))))))))))))))))))))))))))))))))))))) (need (Aa a) (need (Aa a) (Ai (Ab j [] (.t (Ah a 26)) 0) (fun (v76:TV)=>need (Aa a) (need (Aa a) (Ai ((AA j [] (.t (Ah a 1)) 0 4).map TV.agg) (fun (x84:TV)=>EK [.int .u8,.int .u8,.bool,.bool] x84 (fun (n89 n90:Int) (b39 b40:Bool)=>Ae PR Ax [.str g,.bool e,(.agg [.int .u8 n89,.int .u8 n90,.bool b39,.bool b40])] [sV] j (fun (t2:Int) (j5 o9:Bool) (t3:B8) (j2 q3 m7 z5 k3:Int) (t7:B8) (y6 v78 y9:TV) c1=>(Ab c1 [] (.t (Ah a 26)) 0=some v76/\need (List.all [.int .i64 1,(.str []),.int .i64 t2,.bool j5,.bool o9,.str t3,.int .i64 j2,.int .i64 q3,.int .i64 m7,.int .i64 z5,.int .i64 k3,.str t7,y6,v78,y9] Aw) (AU 118 15 192 v76 1 [.int .i64 1,(.str []),.int .i64 t2,.bool j5,.bool o9,.str t3,.int .i64 j2,.int .i64 q3,.int .i64 m7,.int .i64 z5,.int .i64 k3,.str t7,y6,v78,y9] c1 (fun (l4:TV) st82=>need (Aa a) (need (Aa a) (need (List.all [l4] Aw) (stB st82 (Ah a 26) [l4] (fun d7=>need (Aa a) (need (Aa a) (Ai (Ab d7 [] (.t (Ah a 14)) 0) (fun (x85:TV)=>Aj (.int .i64) x85 (fun (n97:Int)=>need (Aa a) (need (Aa a) (stB d7 (Ah a 14) [(.int .i64 (i64.wrap (n97+(1:Int))))] (fun st84=>K st84))))))))))))))))))))))))))))))))))))) (need (Aa a) (need (Aa a) (Ai (Ab c [] (.t (Ah a 26)) 0) (fun (v81:TV)=>AU 118 15 192 v81 1 [.int .i64 2,(.str []),.int .i64 0,.bool false,.bool false,(.str []),.int .i64 0,.int .i64 0,.int .i64 0,.int .i64 0,.int .i64 0,(.str []),.nilSlice,.nilSlice,.nilSlice] c (fun (w0:TV) st85=>need (Aa a) (need (Aa a) (need (List.all [w0] Aw) (stB st85 (Ah a 26) [w0] (fun k=>need (Aa a) (need (Aa a) (need (Aa (Ah a 1)) (Ai (Ab k [] (.t (Ah (Ah a 1) 2)) 0) (fun (x87:TV)=>Aj .bool x87 (fun (b43:Bool)=>BIf b43 (need (Aa a) (need (Aa a) (Ai (Ab k [] (.t (Ah a 26)) 0) (fun (v83:TV)=>need (Aa a) (need (Aa a) (Ai (Ab k [] (.t (Ah a 16)) 0) (fun (z2:TV)=>need (Aa a) (need (Aa a) (Ai (Ab k [] (.t (Ah a 14)) 0) (fun (x90:TV)=>Aj (.int .i64) x90 (fun (h7:Int)=>((0<=h7/\h7<(lenZ 1 z2:Int))/\Ai (Ab k [] (.t (ixT 1 z2 h7.toNat)) 0) (fun (x91:TV)=>Aj .str x91 (fun (s24:B8)=>AU 118 15 192 v83 1 [.int .i64 6,.str s24,.int .i64 0,.bool false,.bool false,(.str []),.int .i64 0,.int .i64 0,.int .i64 0,.int .i64 0,.int .i64 0,(.str []),.nilSlice,.nilSlice,.nilSlice] k (fun (w6:TV) st87=>need (Aa a) (need (Aa a) (need (List.all [w6] Aw) (stB st87 (Ah a 26) [w6] (fun o=>need (Aa a) (need (Aa a) (Ai (Ab o [] (.t (Ah a 26)) 0) (fun (v86:TV)=>need (Aa a) (need (Aa a) (Ai ((AA o [] (.t (Ah a 1)) 0 4).map TV.agg) (fun (x93:TV)=>EK [.int .u8,.int .u8,.bool,.bool] x93 (fun (n99 n100:Int) (b44 b45:Bool)=>Ae PR Ax [.str g,.bool e,(.agg [.int .u8 n99,.int .u8 n100,.bool b44,.bool b45])] [sV] o (fun (f0:Int) (n0 o7:Bool) (t8:B8) (e5 e3 g0 g7 d4:Int) (s26:B8) (y4 z8 v89:TV) c8=>(Ab c8 [] (.t (Ah a 26)) 0=some v86/\need (List.all [.int .i64 1,(.str []),.int .i64 f0,.bool n0,.bool o7,.str t8,.int .i64 e5,.int .i64 e3,.int .i64 g0,.int .i64 g7,.int .i64 d4,.str s26,y4,z8,v89] Aw) (AU 118 15 192 v86 1 [.int .i64 1,(.str []),.int .i64 f0,.bool n0,.bool o7,.str t8,.int .i64 e5,.int .i64 e3,.int .i64 g0,.int .i64 g7,.int .i64 d4,.str s26,y4,z8,v89] c8 (fun (m1:TV) st90=>need (Aa a) (need (Aa a) (need (List.all [m1] Aw) (stB st90 (Ah a 26) [m1] (fun d5=>need (Aa a) (need (Aa a) (Ai (Ab d5 [] (.t (Ah a 14)) 0) (fun (x94:TV)=>Aj (.int .i64) x94 (fun (n107:Int)=>need (Aa a) (need (Aa a) (stB d5 (Ah a 14) [(.int .i64 (i64.wrap (n107+(1:Int))))] (fun st92=>K st92))))))))))))))))))))))))))))))))))))))))) (need (Aa a) (need (Aa a) (Ai (Ab k [] (.t (Ah a 26)) 0) (fun (r8:TV)=>need (Aa a) (need (Aa a) (Ai ((AA k [] (.t (Ah a 1)) 0 4).map TV.agg) (fun (x96:TV)=>EK [.int .u8,.int .u8,.bool,.bool] x96 (fun (n108 n109:Int) (b48 b49:Bool)=>Ae PR Ax [.str g,.bool e,(.agg [.int .u8 n108,.int .u8 n109,.bool b48,.bool b49])] [sV] k (fun (e2:Int) (j7 b51:Bool) (t5:B8) (g9 a4 f9 g3 f4:Int) (y1:B8) (i7 j6 m3:TV) f7=>(Ab f7 [] (.t (Ah a 26)) 0=some r8/\need (List.all [.int .i64 1,(.str []),.int .i64 e2,.bool j7,.bool b51,.str t5,.int .i64 g9,.int .i64 a4,.int .i64 f9,.int .i64 g3,.int .i64 f4,.str y1,i7,j6,m3] Aw) (AU 118 15 192 r8 1 [.int .i64 1,(.str []),.int .i64 e2,.bool j7,.bool b51,.str t5,.int .i64 g9,.int .i64 a4,.int .i64 f9,.int .i64 g3,.int .i64 f4,.str y1,i7,j6,m3] f7 (fun (u5:TV) st94=>need (Aa a) (need (Aa a) (need (List.all [u5] Aw) (stB st94 (Ah a 26) [u5] (fun h4=>need (Aa a) (need (Aa a) (Ai (Ab h4 [] (.t (Ah a 14)) 0) (fun (x97:TV)=>Aj (.int .i64) x97 (fun (n116:Int)=>need (Aa a) (need (Aa a) (stB h4 (Ah a 14) [(.int .i64 (i64.wrap (n116+(1:Int))))] (fun st96=>K st96))))))))))))))))))))))))))))))))))))))))))) (need (Aa a) (need (Aa a) (need (Aa (Ah a 1)) (Ai (Ab c [] (.t (Ah (Ah a 1) 2)) 0) (fun (x98:TV)=>Aj .bool x98 (fun (b52:Bool)=>BIf b52 (need (Aa a) (need (Aa a) (Ai (Ab c [] (.t (Ah a 26)) 0) (fun (v96:TV)=>need (Aa a) (need (Aa a) (Ai (Ab c [] (.t (Ah a 16)) 0) (fun (r5:TV)=>need (Aa a) (need (Aa a) (Ai (Ab c [] (.t (Ah a 14)) 0) (fun (x101:TV)=>Aj (.int .i64) x101 (fun (w:Int)=>((0<=w/\w<(lenZ 1 r5:Int))/\Ai (Ab c [] (.t (ixT 1 r5 w.toNat)) 0) (fun (x102:TV)=>Aj .str x102 (fun (s29:B8)=>AU 118 15 192 v96 1 [.int .i64 6,.str s29,.int .i64 0,.bool false,.bool false,(.str []),.int .i64 0,.int .i64 0,.int .i64 0,.int .i64 0,.int .i64 0,(.str []),.nilSlice,.nilSlice,.nilSlice] c (fun (w5:TV) st97=>need (Aa a) (need (Aa a) (need (List.all [w5] Aw) (stB st97 (Ah a 26) [w5] (fun s=>need (Aa a) (need (Aa a) (Ai (Ab s [] (.t (Ah a 26)) 0) (fun (k5:TV)=>need (Aa a) (need (Aa a) (Ai ((AA s [] (.t (Ah a 1)) 0 4).map TV.agg) (fun (x104:TV)=>EK [.int .u8,.int .u8,.bool,.bool] x104 (fun (n118 n119:Int) (b53 b54:Bool)=>Ae PR Ax [.str g,.bool e,(.agg [.int .u8 n118,.int .u8 n119,.bool b53,.bool b54])] [sV] s (fun (c3:Int) (b55 r4:Bool) (t0:B8) (c2 g6 g8 d0 d3:Int) (s31:B8) (c4 h0 g1:TV) a8=>(Ab a8 [] (.t (Ah a 26)) 0=some k5/\need (List.all [.int .i64 1,(.str []),.int .i64 c3,.bool b55,.bool r4,.str t0,.int .i64 c2,.int .i64 g6,.int .i64 g8,.int .i64 d0,.int .i64 d3,.str s31,c4,h0,g1] Aw) (AU 118 15 192 k5 1 [.int .i64 1,(.str []),.int .i64 c3,.bool b55,.bool r4,.str t0,.int .i64 c2,.int .i64 g6,.int .i64 g8,.int .i64 d0,.int .i64 d3,.str s31,c4,h0,g1] a8 (fun (e8:TV) i6=>need (Aa a) (need (Aa a) (need (List.all [e8] Aw) (stB i6 (Ah a 26) [e8] (fun y=>need (Aa a) (need (Aa a) (Ai (Ab y [] (.t (Ah a 14)) 0) (fun (x105:TV)=>Aj (.int .i64) x105 (fun (n126:Int)=>need (Aa a) (need (Aa a) (stB y (Ah a 14) [(.int .i64 (i64.wrap (n126+(1:Int))))] (fun i3=>K i3))))))))))))))))))))))))))))))))))))))))) (need (Aa a) (need (Aa a) (Ai (Ab c [] (.t (Ah a 26)) 0) (fun (a9:TV)=>need (Aa a) (need (Aa a) (Ai ((AA c [] (.t (Ah a 1)) 0 4).map TV.agg) (fun (x107:TV)=>EK [.int .u8,.int .u8,.bool,.bool] x107 (fun (n127 n128:Int) (b57 b58:Bool)=>Ae PR Ax [.str g,.bool e,(.agg [.int .u8 n127,.int .u8 n128,.bool b57,.bool b58])] [sV] c (fun (d9:Int) (b59 q6:Bool) (y5:B8) (a1 f6 d1 a7 a0:Int) (m9:B8) (f1 a2 e7:TV) x=>(Ab x [] (.t (Ah a 26)) 0=some a9/\need (List.all [.int .i64 1,(.str []),.int .i64 d9,.bool b59,.bool q6,.str y5,.int .i64 a1,.int .i64 f6,.int .i64 d1,.int .i64 a7,.int .i64 a0,.str m9,f1,a2,e7] Aw) (AU 118 15 192 a9 1 [.int .i64 1,(.str []),.int .i64 d9,.bool b59,.bool q6,.str y5,.int .i64 a1,.int .i64 f6,.int .i64 d1,.int .i64 a7,.int .i64 a0,.str m9,f1,a2,e7] x (fun (a3:TV) i4=>need (Aa a) (need (Aa a) (need (List.all [a3] Aw) (stB i4 (Ah a 26) [a3] (fun z=>need (Aa a) (need (Aa a) (Ai (Ab z [] (.t (Ah a 14)) 0) (fun (x108:TV)=>Aj (.int .i64) x108 (fun (n135:Int)=>need (Aa a) (need (Aa a) (stB z (Ah a 14) [(.int .i64 (i64.wrap (n135+(1:Int))))] (fun i5=>K i5)))))))))))))))))))))))))))))))))))))))))))))))):Ae PR As [(.box r 0)] [] st K:=
 Am (cfg:=⟨[],[],[11,15,29,33,171,177]⟩) (h:=(.seq .none (.seq .none (.seq .none (.cut ⟨[(2,.str),(0,.tv),(4,.bool)],[],[],[]⟩ .none .none))))) mixed (fun _ _=>Tryz.call142 _ _) Tryz.func142 (by kernel_rfl) (by kernel_rfl) h
theorem Gl (s:B8) (prefixx:B8) (st:St) (K:Bool->St->Prop) (h:Ae PR CF [.str s,.str prefixx] [.one .bool] st (fun (b1:Bool) a=>K b1 a)):Ae PR AW [.str s,.str prefixx] [.one .bool] st K:=
 Am (cfg:=⟨[],[],[]⟩) (h:= .none) mixed (fun _ _=>Tryz.call156 _ _) Tryz.func156 (by kernel_rfl) (by kernel_rfl) h
theorem Kf (s:B8) (st:St) (K:Int->St->Prop) (h:∃(I1:Int->B8->St->Prop) (M1:Int->B8->St->Nat),(I1 0 s st)/\∀a b c,I1 a b c->(BId (a<(b.length:Int)) (((0<=a/\a<(b.length:Int))/\BId ((48:Int)<=((List.getD b a.toNat 0).toNat:Int)) (((0<=a/\a<(b.length:Int))/\BId (((List.getD b a.toNat 0).toNat:Int)<=(57:Int)) ((I1 ((i64.wrap (a+(1:Int)))) b c/\M1 ((i64.wrap (a+(1:Int)))) b c<M1 a b c)) (K a c))) (K a c))) (K a c))):Ae PR Ck [.str s] [.one (.int .i64)] st K:=
 Am (cfg:=⟨[],[],[]⟩) (h:=(.seq .none (.seq .none (.seq (.block (.loop ⟨[(3,.int .i64),(0,.str)],[],[],[]⟩ .none)) .none)))) mixed (fun _ _=>Tryz.call157 _ _) Tryz.func157 (by kernel_rfl) (by kernel_rfl) h
theorem Iw (exp:Int) (less:Bool) (byx:B8) (st:St) (K:Int->St->Prop) (h:BId ((byx.length:Int)<=(12:Int)) (Ae PR DI [.str byx] [.one (.int .i64),.one (.int .i64)] st (fun (n1 n2:Int) a=>BIf less (K ((i64.wrap (exp-n1))) a) (K ((i64.wrap (exp+n1))) a))) (BIf less (K ((i64.wrap (exp-(1099511627776:Int)))) st) (K ((i64.wrap (exp+(1099511627776:Int)))) st))):Ae PR Dr [.int .i64 exp,.bool less,.str byx] [.one (.int .i64)] st K:=
 Am (cfg:=⟨[],[],[]⟩) (h:= .none) mixed (fun _ _=>Tryz.call158 _ _) Tryz.func158 (by kernel_rfl) (by kernel_rfl) h
theorem JR (neg:Bool) (s:B8) (exp:Int) (st:St) (K:Bool->B8->Int->Int->St->Prop) (h:∃(I1:Int->Bool->B8->Int->Int->Bool->B8->Int->St->Prop) (M1:Int->Bool->B8->Int->Int->Bool->B8->Int->St->Nat),(I1 0 neg s exp ((s.length:Int)) false [] 0 st)/\∀a d b c f b1 s1 n1 e,I1 a d b c f b1 s1 n1 e->(BId (a<f) (((0<=a/\a<(b.length:Int))/\BId (((List.getD b a.toNat 0).toNat:Int)<(48:Int)) (K false [] 0 3 e) (((0<=a/\a<(b.length:Int))/\BId ((57:Int)<((List.getD b a.toNat 0).toNat:Int)) (K false [] 0 3 e) ((I1 ((i64.wrap (a+(1:Int)))) d b c f b1 s1 n1 e/\M1 ((i64.wrap (a+(1:Int)))) d b c f b1 s1 n1 e<M1 a d b c f b1 s1 n1 e)))))) (Ae PR Cw [.str b,.str R4] [.one .str] e (fun (s2:B8) i=>Ae PR DK [.bool d,.str s2,.int .i64 c] [.agg [.bool,.str,.int .i64],.one (.int .i64)] i (fun (b2:Bool) (s3:B8) (n2 n3:Int) g=>K b2 s3 n2 n3 g))))):Ae PR BZ [.bool neg,.str s,.int .i64 exp] [.agg [.bool,.str,.int .i64],.one (.int .i64)] st K:=
 Am (cfg:=⟨[6],[],[]⟩) (h:=(.seq .none (.seq (.seq .none (.block (.loop ⟨[(11,.int .i64),(0,.bool),(1,.str),(2,.int .i64),(10,.int .i64)],[(6,0,0)],[(0,3)],[(0,0,.bool),(0,1,.str),(0,2,.int .i64)]⟩ .none))) .none))) mixed (fun _ _=>Tryz.call160 _ _) Tryz.func160 (by kernel_rfl) (by kernel_rfl) h
theorem Ga (r:Nat) (f:Nat) (st:St) (K:Int->St->Prop) (h:Ai (Ab st [] (.t (.box r 0)) 0) (fun (x1:TV)=>Aj .str x1 (fun (s1:B8)=>BId ((2:Int)<(s1.length:Int)) (Ai (Ab st [] (.t (.box r 0)) 0) (fun (x2:TV)=>Aj .str x2 (fun (s2:B8)=>((0<=(2:Int)/\(2:Int)<(s2.length:Int))/\BId (((List.getD s2 (Int.toNat (2:Int)) 0).toNat:Int)=(58:Int)) (Ae PR Ba [(.box r 0),(.box f 0)] [] st (fun (j:St)=>K 2 j)) (Ae PR Bx [(.box r 0),(.box f 0)] [] st (fun (c:St)=>Ai (Ab c [] (.t (.box r 0)) 0) (fun (x3:TV)=>Aj .str x3 (fun (s3:B8)=>BId (s3=([]:B8)) (K 1 c) (Ae PR AE [(.box r 0),.str str25] [.one (.int .u8)] c (fun (n1:Int) i=>Ae PR Ba [(.box r 0),(.box f 0)] [] i (fun (b:St)=>Ai (Ab b [] (.t (.box r 0)) 0) (fun (x4:TV)=>Aj .str x4 (fun (s4:B8)=>BId (s4=([]:B8)) (K 3 b) (Ae PR Bl [(.box r 0),(.box f 0)] [] b (fun (k:St)=>K 4 k))))))))))))))) (Ae PR Bx [(.box r 0),(.box f 0)] [] st (fun (a:St)=>Ai (Ab a [] (.t (.box r 0)) 0) (fun (x5:TV)=>Aj .str x5 (fun (s5:B8)=>BId (s5=([]:B8)) (K 1 a) (Ae PR AE [(.box r 0),.str str25] [.one (.int .u8)] a (fun (n2:Int) g=>Ae PR Ba [(.box r 0),(.box f 0)] [] g (fun (d:St)=>Ai (Ab d [] (.t (.box r 0)) 0) (fun (x6:TV)=>Aj .str x6 (fun (s6:B8)=>BId (s6=([]:B8)) (K 3 d) (Ae PR Bl [(.box r 0),(.box f 0)] [] d (fun (e:St)=>K 4 e)))))))))))))):Ae PR B5 [(.box r 0),(.box f 0)] [.one (.int .i64)] st K:=
 Am (cfg:=⟨[],[],[]⟩) (h:= .none) mixed (fun _ _=>Tryz.call161 _ _) Tryz.func161 (by kernel_rfl) (by kernel_rfl) h
theorem JS (year:Int) (month:Int) (day:Int) (st:St) (K:Int->Int->St->Prop) (h:BId (day<1) (K 0 2 st) (Ae PR Ca [.int .i64 year,.int .i64 month] [.one (.int .i64)] st (fun (n1:Int) f=>BId (n1<day) (K 0 2 f) (Ae PR CZ [.int .i64 year] [.one (.int .i64)] f (fun (n2:Int) i=>∃(I1:Int->Int->Int->Int->St->Prop) (M1:Int->Int->Int->Int->St->Nat),(I1 ((i64.wrap ((i64.wrap (n2+day))-(1:Int)))) 1 year month i)/\∀d c b a e,I1 d c b a e->(BId (c<a) (Ae PR Ca [.int .i64 b,.int .i64 c] [.one (.int .i64)] e (fun (n3:Int) g=>(I1 ((i64.wrap (d+n3))) ((i64.wrap (c+(1:Int)))) b a g/\M1 ((i64.wrap (d+n3))) ((i64.wrap (c+(1:Int)))) b a g<M1 d c b a e))) (K d 0 e))))))):Ae PR DL [.int .i64 year,.int .i64 month,.int .i64 day] [.one (.int .i64),.one (.int .i64)] st K:=
 Am (cfg:=⟨[],[],[]⟩) (h:=(.seq .none (.seq .none (.seq .none (.seq (.seq .none (.block (.loop ⟨[(8,.int .i64),(9,.int .i64),(0,.int .i64),(1,.int .i64)],[],[],[]⟩ .none))) .none))))) mixed (fun _ _=>Tryz.call162 _ _) Tryz.func162 (by kernel_rfl) (by kernel_rfl) h
theorem ND (b:Int) (st:St) (K:Int->Int->St->Prop) (h:BId (b<128) (K 1 ((i64.wrap b)) st) (BId ((192:Int)<=b) (BId (b<224) (K 2 ((i64.wrap (B0 .and .u8 b (31:Int)))) st) (BId ((224:Int)<=b) (BId (b<240) (K 3 ((i64.wrap (B0 .and .u8 b (15:Int)))) st) (BId ((240:Int)<=b) (BId (b<248) (K 4 ((i64.wrap (B0 .and .u8 b (7:Int)))) st) (K 0 0 st)) (K 0 0 st))) (BId ((240:Int)<=b) (BId (b<248) (K 4 ((i64.wrap (B0 .and .u8 b (7:Int)))) st) (K 0 0 st)) (K 0 0 st)))) (BId ((224:Int)<=b) (BId (b<240) (K 3 ((i64.wrap (B0 .and .u8 b (15:Int)))) st) (BId ((240:Int)<=b) (BId (b<248) (K 4 ((i64.wrap (B0 .and .u8 b (7:Int)))) st) (K 0 0 st)) (K 0 0 st))) (BId ((240:Int)<=b) (BId (b<248) (K 4 ((i64.wrap (B0 .and .u8 b (7:Int)))) st) (K 0 0 st)) (K 0 0 st))))):Ae PR GE [.int .u8 b] [.one (.int .i64),.one (.int .i64)] st K:=
 Am (cfg:=⟨[],[],[]⟩) (h:= .none) mixed (fun _ _=>Tryz.call210 _ _) Tryz.func210 (by kernel_rfl) (by kernel_rfl) h
theorem Ls (r:Int) (st:St) (K:Bool->St->Prop) (h:BId ((0:Int)<=r) (BId (r<=1114111) (BId (r<55296) (K true st) (K ((decide ((57343:Int)<r))) st)) (K false st)) (K false st)):Ae PR E6 [.int .i64 r] [.one .bool] st K:=
 Am (cfg:=⟨[],[],[]⟩) (h:= .none) mixed (fun _ _=>Tryz.call211 _ _) Tryz.func211 (by kernel_rfl) (by kernel_rfl) h
theorem MA (r:Int) (st:St) (K:Int->St->Prop) (h:BId (r<128) (K 1 st) (BId (r<2048) (K 2 st) (BId (r<65536) (K 3 st) (K 4 st)))):Ae PR FQ [.int .i64 r] [.one (.int .i64)] st K:=
 Am (cfg:=⟨[],[],[]⟩) (h:= .none) mixed (fun _ _=>Tryz.call212 _ _) Tryz.func212 (by kernel_rfl) (by kernel_rfl) h
theorem DF (r:Nat) (st:St) (K:Bool->St->Prop) (h:Ai (Ab st [] (.t (.box r 3)) 0) (fun (x1:TV)=>Aj .bool x1 (fun (b1:Bool)=>BIf b1 (Ai (Ab st [] (.t (.box r 13)) 0) (fun (x2:TV)=>Aj (.int .i64) x2 (fun (n1:Int)=>K ((decide (n1=0))) st))) (K false st)))):Ae PR Al [(.box r 0)] [.one .bool] st K:=
 Am (cfg:=⟨[],[],[]⟩) (h:= .none) mixed (fun _ _=>Tryz.call213 _ _) Tryz.func213 (by kernel_rfl) (by kernel_rfl) h
theorem DS (r:Nat) (depth:Int) (st:St) (K:St->Prop) (h:Ai (Ab st [] (.t (.box r 5)) 0) (fun (x1:TV)=>Aj (.int .i64) x1 (fun (n1:Int)=>BId (n1<depth) (Ae PR AF [(.box r 0),.int .i64 9] [] st (fun (b:St)=>Ai (Ab b [] (.t (.box r 19)) 0) (fun (x2:TV)=>Aj (.int .i64) x2 (fun (n2:Int)=>stB b (.box r 19) [(.int .i64 (i64.wrap (n2+(1:Int))))] (fun e=>K e))))) (Ai (Ab st [] (.t (.box r 19)) 0) (fun (x3:TV)=>Aj (.int .i64) x3 (fun (n3:Int)=>Ai (Ab st [] (.t (.box r 6)) 0) (fun (x4:TV)=>Aj (.int .i64) x4 (fun (n4:Int)=>BId (n4<=n3) (Ae PR AF [(.box r 0),.int .i64 10] [] st (fun (a:St)=>Ai (Ab a [] (.t (.box r 19)) 0) (fun (x5:TV)=>Aj (.int .i64) x5 (fun (n5:Int)=>stB a (.box r 19) [(.int .i64 (i64.wrap (n5+(1:Int))))] (fun d=>K d))))) (Ai (Ab st [] (.t (.box r 19)) 0) (fun (x6:TV)=>Aj (.int .i64) x6 (fun (n6:Int)=>stB st (.box r 19) [(.int .i64 (i64.wrap (n6+(1:Int))))] (fun c=>K c)))))))))))):Ae PR Ao [(.box r 0),.int .i64 depth] [] st K:=
 Am (cfg:=⟨[],[],[]⟩) (h:= .none) mixed (fun _ _=>Tryz.call214 _ _) Tryz.func214 (by kernel_rfl) (by kernel_rfl) h
theorem Ee (r:Nat) (e:Int) (st:St) (K:St->Prop) (h:Ai (Ab st [] (.t (.box r 22)) 0) (fun (x1:TV)=>Aj (.int .i64) x1 (fun (n1:Int)=>BId (n1=0) (stB st (.box r 22) [.int .i64 e] (fun a=>K a)) (K st)))):Ae PR AF [(.box r 0),.int .i64 e] [] st K:=
 Am (cfg:=⟨[],[],[]⟩) (h:= .none) mixed (fun _ _=>Tryz.call215 _ _) Tryz.func215 (by kernel_rfl) (by kernel_rfl) h
theorem F9 (w:Nat) (s:B8) (st:St) (K:Int->St->Prop) (h:Ai (Ab st [] (.t (.box w 3)) 0) (fun (x1:TV)=>Aj .bool x1 (fun (b1:Bool)=>BIf b1 (K 29 st) (Ae PR Df [(.box w 0)] [.one (.int .i64)] st (fun (n1:Int) a=>BId (n1<(s.length:Int)) (K 28 a) (Ai (Ab a [] (.t (.box w 1)) 0) (fun (v1:TV)=>Ai (BW a 1 (.str s)) (fun (q1:Nat×List TV)=>need (List.all q1.2 Aw) (AU 5 1 1 v1 q1.1 q1.2 a (fun (v2:TV) b=>need (List.all [v2] Aw) (stB b (.box w 1) [v2] (fun c=>K 0 c)))))))))))):Ae PR B4 [(.box w 0),.str s] [.one (.int .i64)] st K:=
 Am (cfg:=⟨[],[],[]⟩) (h:= .none) mixed (fun _ _=>Tryz.call216 _ _) Tryz.func216 (by kernel_rfl) (by kernel_rfl) h
theorem EW (s:B8) (prefixx:B8) (st:St) (K:Bool->St->Prop) (h:BId ((prefixx.length:Int)<=(s.length:Int)) (((0<=(prefixx.length:Int)/\(prefixx.length:Int)<=(s.length:Int))/\K ((decide ((List.take (Int.toNat (prefixx.length:Int)) s)=prefixx))) st)) (K false st)):Ae PR CF [.str s,.str prefixx] [.one .bool] st K:=
 Am (cfg:=⟨[],[],[]⟩) (h:= .none) mixed (fun _ _=>Tryz.call235 _ _) Tryz.func235 (by kernel_rfl) (by kernel_rfl) h
theorem JO (s:B8) (st:St) (K:Int->Int->St->Prop) (h:Ae PR DH [.str s] [.one .bool] st (fun (b1:Bool) f=>BIf (!b1) (K 0 3 f) (∃(I1:Int->Int->B8->Int->St->Prop) (M1:Int->Int->B8->Int->St->Nat),(I1 0 0 s ((s.length:Int)) f)/\∀c a b e d,I1 c a b e d->(BId (a<e) (((0<=a/\a<(b.length:Int))/\BId ((i64.wrap (Int.tdiv (i64.wrap ((9223372036854775807:Int)-(i64.wrap (u8.wrap (((List.getD b a.toNat 0).toNat:Int)-(48:Int)))))) (10:Int)))<c) (K 0 2 d) ((I1 ((i64.wrap ((i64.wrap (c*(10:Int)))+(i64.wrap (u8.wrap (((List.getD b a.toNat 0).toNat:Int)-(48:Int))))))) ((i64.wrap (a+(1:Int)))) b e d/\M1 ((i64.wrap ((i64.wrap (c*(10:Int)))+(i64.wrap (u8.wrap (((List.getD b a.toNat 0).toNat:Int)-(48:Int))))))) ((i64.wrap (a+(1:Int)))) b e d<M1 c a b e d)))) (K c 0 d))))):Ae PR DI [.str s] [.one (.int .i64),.one (.int .i64)] st K:=
 Am (cfg:=⟨[],[],[]⟩) (h:=(.seq .none (.seq .none (.seq .none (.seq (.seq .none (.block (.loop ⟨[(4,.int .i64),(12,.int .i64),(0,.str),(11,.int .i64)],[],[],[]⟩ .none))) .none))))) mixed (fun _ _=>Tryz.call236 _ _) Tryz.func236 (by kernel_rfl) (by kernel_rfl) h
theorem JQ (neg:Bool) (s:B8) (exp:Int) (st:St) (K:Bool->B8->Int->Int->St->Prop) (h:BId (s=([]:B8)) (K false [] 0 0 st) (Ae PR Dy [.str s,.str R4] [.one .str] st (fun (s1:B8) a=>((0<=(i64.wrap ((s.length:Int)-(i64.wrap ((s.length:Int)-(s1.length:Int)))))/\(i64.wrap ((s.length:Int)-(i64.wrap ((s.length:Int)-(s1.length:Int)))))<=(s.length:Int))/\BId ((i64.wrap ((400:Int)-(i64.wrap ((s.length:Int)-(s1.length:Int)))))<exp) (K false [] 0 2 a) (BId (exp<(i64.wrap ((-400:Int)-(i64.wrap ((s.length:Int)-(s1.length:Int)))))) (K false [] 0 2 a) (BId ((120:Int)<(((List.take (Int.toNat (i64.wrap ((s.length:Int)-(i64.wrap ((s.length:Int)-(s1.length:Int)))))) s)).length:Int)) (K false [] 0 2 a) (K neg ((List.take (Int.toNat (i64.wrap ((s.length:Int)-(i64.wrap ((s.length:Int)-(s1.length:Int)))))) s)) ((i64.wrap (exp+(i64.wrap ((s.length:Int)-(s1.length:Int)))))) 0 a))))))):Ae PR DK [.bool neg,.str s,.int .i64 exp] [.agg [.bool,.str,.int .i64],.one (.int .i64)] st K:=
 Am (cfg:=⟨[6],[],[]⟩) (h:= .none) mixed (fun _ _=>Tryz.call241 _ _) Tryz.func241 (by kernel_rfl) (by kernel_rfl) h
theorem FC (r:Nat) (f:Nat) (st:St) (K:St->Prop) (h:Ae PR Au [(.box r 0),.int .i64 2] [.one (.int .i64)] st (fun (n1:Int) k=>stB k (.box f 3) [.int .i64 n1] (fun g=>Ae PR AE [(.box r 0),.str Qp] [.one (.int .u8)] g (fun (n2:Int) i=>Ae PR Au [(.box r 0),.int .i64 2] [.one (.int .i64)] i (fun (n3:Int) m=>stB m (.box f 4) [.int .i64 n3] (fun l=>Ae PR AE [(.box r 0),.str Qp] [.one (.int .u8)] l (fun (n4:Int) j=>Ae PR Au [(.box r 0),.int .i64 2] [.one (.int .i64)] j (fun (n5:Int) e=>stB e (.box f 5) [.int .i64 n5] (fun a=>Ai (Ab a [] (.t (.box r 0)) 0) (fun (x1:TV)=>Aj .str x1 (fun (s1:B8)=>BId (s1≠([]:B8)) (Ai (Ab a [] (.t (.box r 0)) 0) (fun (x2:TV)=>Aj .str x2 (fun (s2:B8)=>((0<=(0:Int)/\(0:Int)<(s2.length:Int))/\BId (((List.getD s2 (Int.toNat (0:Int)) 0).toNat:Int)=(46:Int)) (Ai (Ab a [] (.t (.box r 0)) 0) (fun (x3:TV)=>Aj .str x3 (fun (s3:B8)=>((0<=(1:Int)/\(1:Int)<=(s3.length:Int))/\stB a (.box r 0) [(.str (List.drop (Int.toNat (1:Int)) s3))] (fun d=>Ae PR By [(.box r 0)] [.one (.int .i64)] d (fun (n6:Int) b=>stB b (.box f 6) [.int .i64 n6] (fun c=>K c))))))) (K a))))) (K a)))))))))))):Ae PR Ba [(.box r 0),(.box f 0)] [] st K:=
 Am (cfg:=⟨[],[],[]⟩) (h:= .none) mixed (fun _ _=>Tryz.call242 _ _) Tryz.func242 (by kernel_rfl) (by kernel_rfl) h
theorem Gb (r:Nat) (f:Nat) (st:St) (K:St->Prop) (h:Ae PR Au [(.box r 0),.int .i64 4] [.one (.int .i64)] st (fun (n1:Int) d=>stB d (.box f 0) [.int .i64 n1] (fun i=>Ae PR AE [(.box r 0),.str Qq] [.one (.int .u8)] i (fun (n2:Int) b=>Ae PR Au [(.box r 0),.int .i64 2] [.one (.int .i64)] b (fun (n3:Int) g=>stB g (.box f 1) [.int .i64 n3] (fun e=>Ae PR AE [(.box r 0),.str Qq] [.one (.int .u8)] e (fun (n4:Int) c=>Ae PR Au [(.box r 0),.int .i64 2] [.one (.int .i64)] c (fun (n5:Int) a=>stB a (.box f 2) [.int .i64 n5] (fun j=>K j))))))))):Ae PR Bx [(.box r 0),(.box f 0)] [] st K:=
 Am (cfg:=⟨[],[],[]⟩) (h:= .none) mixed (fun _ _=>Tryz.call243 _ _) Tryz.func243 (by kernel_rfl) (by kernel_rfl) h
theorem Gm (r:Nat) (of:B8) (st:St) (K:Int->St->Prop) (h:Ai (Ab st [] (.t (.box r 0)) 0) (fun (x1:TV)=>Aj .str x1 (fun (s1:B8)=>BId (s1≠([]:B8)) (∃(I1:Int->TV->B8->Int->St->Prop) (M1:Int->TV->B8->Int->St->Nat),(I1 0 ((.box r 0)) of ((of.length:Int)) st)/\∀c a b e d,I1 c a b e d->(BId (c<e) (need (Aa a) (need (Aa a) (Ai (Ab d [] (.t (Ah a 0)) 0) (fun (x2:TV)=>Aj .str x2 (fun (s2:B8)=>((0<=(0:Int)/\(0:Int)<(s2.length:Int))/\((0<=c/\c<(b.length:Int))/\BId (((List.getD s2 (Int.toNat (0:Int)) 0).toNat:Int)=((List.getD b c.toNat 0).toNat:Int)) (need (Aa a) (need (Aa a) (Ai (Ab d [] (.t (Ah a 0)) 0) (fun (x3:TV)=>Aj .str x3 (fun (s3:B8)=>((0<=(1:Int)/\(1:Int)<=(s3.length:Int))/\need (Aa a) (need (Aa a) (stB d (Ah a 0) [(.str (List.drop (Int.toNat (1:Int)) s3))] (fun i=>((0<=c/\c<(b.length:Int))/\K (((List.getD b c.toNat 0).toNat:Int)) i)))))))))) ((I1 ((i64.wrap (c+(1:Int)))) a b e d/\M1 ((i64.wrap (c+(1:Int)))) a b e d<M1 c a b e d))))))))) (need (Aa a) (need (Aa a) (stB d (Ah a 1) [.bool true] (fun f=>K 0 f)))))) (stB st (.box r 1) [.bool true] (fun g=>K 0 g))))):Ae PR AE [(.box r 0),.str of] [.one (.int .u8)] st K:=
 Am (cfg:=⟨[],[],[]⟩) (h:=(.seq .none (.seq (.seq .none (.cond (.seq .none (.block (.loop ⟨[(13,.int .i64),(0,.tv),(1,.str),(12,.int .i64)],[],[],[]⟩ .none))) .none)) .none))) mixed (fun _ _=>Tryz.call244 _ _) Tryz.func244 (by kernel_rfl) (by kernel_rfl) h
theorem Fm (r:Nat) (f:Nat) (st:St) (K:St->Prop) (h:Ae PR AE [(.box r 0),.str str31] [.one (.int .u8)] st (fun (n1:Int) k=>stB k (.box f 7) [.int .u8 n1] (fun a=>Ai (Ab a [] (.t (.box f 7)) 0) (fun (x1:TV)=>Aj (.int .u8) x1 (fun (n2:Int)=>BId (n2=43) (Ae PR Au [(.box r 0),.int .i64 2] [.one (.int .i64)] a (fun (n3:Int) i=>stB i (.box f 8) [.int .i64 n3] (fun m=>Ae PR AE [(.box r 0),.str Qp] [.one (.int .u8)] m (fun (n4:Int) l=>Ae PR Au [(.box r 0),.int .i64 2] [.one (.int .i64)] l (fun (n5:Int) j=>stB j (.box f 9) [.int .i64 n5] (fun g=>K g)))))) (Ai (Ab a [] (.t (.box f 7)) 0) (fun (x2:TV)=>Aj (.int .u8) x2 (fun (n6:Int)=>BId (n6=45) (Ae PR Au [(.box r 0),.int .i64 2] [.one (.int .i64)] a (fun (n7:Int) n=>stB n (.box f 8) [.int .i64 n7] (fun e=>Ae PR AE [(.box r 0),.str Qp] [.one (.int .u8)] e (fun (n8:Int) c=>Ae PR Au [(.box r 0),.int .i64 2] [.one (.int .i64)] c (fun (n9:Int) d=>stB d (.box f 9) [.int .i64 n9] (fun b=>K b)))))) (K a))))))))):Ae PR Bl [(.box r 0),(.box f 0)] [] st K:=
 Am (cfg:=⟨[],[],[]⟩) (h:= .none) mixed (fun _ _=>Tryz.call245 _ _) Tryz.func245 (by kernel_rfl) (by kernel_rfl) h
theorem HQ (year:Int) (month:Int) (st:St) (K:Int->St->Prop) (h:Ae PR B9 [.int .i64 year] [.one .bool] st (fun (b1:Bool) a=>BIf (!b1) (K 0 a) (BId (month<1) (K 0 a) (BId ((12:Int)<month) (K 0 a) (BId (month=2) (Ae PR Ds [.int .i64 year] [.one .bool] a (fun (b2:Bool) b=>BIf b2 (K 29 b) (((0<=(i64.wrap (month-(1:Int)))/\(i64.wrap (month-(1:Int)))<((12:Nat):Int))/\Ai ((([.int .i64 31,.int .i64 28,.int .i64 31,.int .i64 30,.int .i64 31,.int .i64 30,.int .i64 31,.int .i64 31,.int .i64 30,.int .i64 31,.int .i64 30,.int .i64 31]:List TV)[(0+(Int.toNat (i64.wrap (month-(1:Int))))*1)+0]?)) (fun (x1:TV)=>Aj (.int .i64) x1 (fun (n1:Int)=>K n1 b)))))) (((0<=(i64.wrap (month-(1:Int)))/\(i64.wrap (month-(1:Int)))<((12:Nat):Int))/\Ai ((([.int .i64 31,.int .i64 28,.int .i64 31,.int .i64 30,.int .i64 31,.int .i64 30,.int .i64 31,.int .i64 31,.int .i64 30,.int .i64 31,.int .i64 30,.int .i64 31]:List TV)[(0+(Int.toNat (i64.wrap (month-(1:Int))))*1)+0]?)) (fun (x2:TV)=>Aj (.int .i64) x2 (fun (n2:Int)=>K n2 a))))))))):Ae PR Ca [.int .i64 year,.int .i64 month] [.one (.int .i64)] st K:=
 Am (cfg:=⟨[5],[],[]⟩) (h:= .none) mixed (fun _ _=>Tryz.call246 _ _) Tryz.func246 (by kernel_rfl) (by kernel_rfl) h
theorem HP (year:Int) (st:St) (K:Int->St->Prop) (h:K ((i64.wrap ((i64.wrap ((i64.wrap ((i64.wrap ((365:Int)*(i64.wrap (year-(1:Int)))))+(i64.wrap (Int.tdiv (i64.wrap (year-(1:Int))) (4:Int)))))-(i64.wrap (Int.tdiv (i64.wrap (year-(1:Int))) (100:Int)))))+(i64.wrap (Int.tdiv (i64.wrap (year-(1:Int))) (400:Int)))))) st):Ae PR CZ [.int .i64 year] [.one (.int .i64)] st K:=
 Am (cfg:=⟨[],[],[]⟩) (h:= .none) mixed (fun _ _=>Tryz.call247 _ _) Tryz.func247 (by kernel_rfl) (by kernel_rfl) h
theorem JN (s:B8) (st:St) (K:Bool->St->Prop) (h:BId ((s.length:Int)<=(600:Int)) (Ae PR E8 [.str s] [.one .bool] st (fun (b1:Bool) a=>BIf b1 (BId (s=([]:B8)) (K true a) (((0<=(0:Int)/\(0:Int)<(s.length:Int))/\K ((decide (((List.getD s (Int.toNat (0:Int)) 0).toNat:Int)≠(48:Int)))) a))) (K false a))) (K false st)):Ae PR DH [.str s] [.one .bool] st K:=
 Am (cfg:=⟨[],[],[]⟩) (h:= .none) mixed (fun _ _=>Tryz.call267 _ _) Tryz.func267 (by kernel_rfl) (by kernel_rfl) h
theorem F8 (w:Nat) (st:St) (K:Int->St->Prop) (h:Ai (Ab st [] (.t (.box w 0)) 0) (fun (x1:TV)=>Aj (.int .i64) x1 (fun (n1:Int)=>Ai (Ab st [] (.t (.box w 1)) 0) (fun (v1:TV)=>need (isSl v1) (K ((i64.wrap (n1-(lenS v1:Int)))) st))))):Ae PR Df [(.box w 0)] [.one (.int .i64)] st K:=
 Am (cfg:=⟨[],[],[]⟩) (h:= .none) mixed (fun _ _=>Tryz.call272 _ _) Tryz.func272 (by kernel_rfl) (by kernel_rfl) h
theorem Fn (r:Nat) (width:Int) (st:St) (K:Int->St->Prop) (h:Ai (Ab st [] (.t (.box r 0)) 0) (fun (x1:TV)=>Aj .str x1 (fun (s1:B8)=>BId ((s1.length:Int)<width) (stB st (.box r 1) [.bool true] (fun i=>K 0 i)) (∃(I1:Int->Int->TV->Int->Int->St->Prop) (M1:Int->Int->TV->Int->Int->St->Nat),(I1 0 0 ((.box r 0)) width width st)/\∀f c a b e d,I1 f c a b e d->(BId (c<e) (need (Aa a) (need (Aa a) (Ai (Ab d [] (.t (Ah a 0)) 0) (fun (x2:TV)=>Aj .str x2 (fun (s2:B8)=>((0<=c/\c<(s2.length:Int))/\BId (((List.getD s2 c.toNat 0).toNat:Int)<(48:Int)) (need (Aa a) (need (Aa a) (stB d (Ah a 1) [.bool true] (fun g=>K 0 g)))) (need (Aa a) (need (Aa a) (Ai (Ab d [] (.t (Ah a 0)) 0) (fun (x3:TV)=>Aj .str x3 (fun (s3:B8)=>((0<=c/\c<(s3.length:Int))/\BId ((57:Int)<((List.getD s3 c.toNat 0).toNat:Int)) (need (Aa a) (need (Aa a) (stB d (Ah a 1) [.bool true] (fun k=>K 0 k)))) (need (Aa a) (need (Aa a) (Ai (Ab d [] (.t (Ah a 0)) 0) (fun (x4:TV)=>Aj .str x4 (fun (s4:B8)=>((0<=c/\c<(s4.length:Int))/\(I1 ((i64.wrap ((i64.wrap ((10:Int)*f))+(i64.wrap (u8.wrap (((List.getD s4 c.toNat 0).toNat:Int)-(48:Int))))))) ((i64.wrap (c+(1:Int)))) a b e d/\M1 ((i64.wrap ((i64.wrap ((10:Int)*f))+(i64.wrap (u8.wrap (((List.getD s4 c.toNat 0).toNat:Int)-(48:Int))))))) ((i64.wrap (c+(1:Int)))) a b e d<M1 f c a b e d))))))))))))))))))) (need (Aa a) (need (Aa a) (Ai (Ab d [] (.t (Ah a 0)) 0) (fun (x5:TV)=>Aj .str x5 (fun (s5:B8)=>((0<=b/\b<=(s5.length:Int))/\need (Aa a) (need (Aa a) (stB d (Ah a 0) [(.str (List.drop b.toNat s5))] (fun j=>K f j)))))))))))))):Ae PR Au [(.box r 0),.int .i64 width] [.one (.int .i64)] st K:=
 Am (cfg:=⟨[],[],[]⟩) (h:=(.seq .none (.seq .none (.seq .none (.seq (.seq .none (.block (.loop ⟨[(5,.int .i64),(18,.int .i64),(0,.tv),(1,.int .i64),(17,.int .i64)],[],[],[]⟩ .none))) .none))))) mixed (fun _ _=>Tryz.call290 _ _) Tryz.func290 (by kernel_rfl) (by kernel_rfl) h
theorem EG (r:Nat) (st:St) (K:Int->St->Prop) (h:∃(I1:Int->Int->TV->St->Prop) (M1:Int->Int->TV->St->Nat),(I1 0 0 ((.box r 0)) st)/\∀d b a c,I1 d b a c->(need (Aa a) (need (Aa a) (Ai (Ab c [] (.t (Ah a 0)) 0) (fun (x1:TV)=>Aj .str x1 (fun (s1:B8)=>BId (b<(s1.length:Int)) (need (Aa a) (need (Aa a) (Ai (Ab c [] (.t (Ah a 0)) 0) (fun (x2:TV)=>Aj .str x2 (fun (s2:B8)=>((0<=b/\b<(s2.length:Int))/\BId ((48:Int)<=((List.getD s2 b.toNat 0).toNat:Int)) (need (Aa a) (need (Aa a) (Ai (Ab c [] (.t (Ah a 0)) 0) (fun (x3:TV)=>Aj .str x3 (fun (s3:B8)=>((0<=b/\b<(s3.length:Int))/\BId (((List.getD s3 b.toNat 0).toNat:Int)<=(57:Int)) (BId (b<9) (need (Aa a) (need (Aa a) (Ai (Ab c [] (.t (Ah a 0)) 0) (fun (x4:TV)=>Aj .str x4 (fun (s4:B8)=>((0<=b/\b<(s4.length:Int))/\(I1 ((i64.wrap ((i64.wrap ((10:Int)*d))+(i64.wrap (u8.wrap (((List.getD s4 b.toNat 0).toNat:Int)-(48:Int))))))) ((i64.wrap (b+(1:Int)))) a c/\M1 ((i64.wrap ((i64.wrap ((10:Int)*d))+(i64.wrap (u8.wrap (((List.getD s4 b.toNat 0).toNat:Int)-(48:Int))))))) ((i64.wrap (b+(1:Int)))) a c<M1 d b a c))))))) ((I1 d ((i64.wrap (b+(1:Int)))) a c/\M1 d ((i64.wrap (b+(1:Int)))) a c<M1 d b a c))) (BId (b<1) (need (Aa a) (need (Aa a) (stB c (Ah a 1) [.bool true] (fun x=>K 0 x)))) (BId ((9:Int)<b) (need (Aa a) (need (Aa a) (stB c (Ah a 1) [.bool true] (fun v=>K 0 v)))) (need (Aa a) (need (Aa a) (Ai (Ab c [] (.t (Ah a 0)) 0) (fun (x5:TV)=>Aj .str x5 (fun (s5:B8)=>((0<=b/\b<=(s5.length:Int))/\need (Aa a) (need (Aa a) (stB c (Ah a 0) [(.str (List.drop b.toNat s5))] (fun u=>∃(I2:Int->Int->St->Prop) (M2:Int->Int->St->Nat),(I2 d b u)/\∀j l i,I2 j l i->(BId (l<9) ((I2 ((i64.wrap (j*(10:Int)))) ((i64.wrap (l+(1:Int)))) i/\M2 ((i64.wrap (j*(10:Int)))) ((i64.wrap (l+(1:Int)))) i<M2 j l i)) (K j i))))))))))))))))))) (BId (b<1) (need (Aa a) (need (Aa a) (stB c (Ah a 1) [.bool true] (fun w=>K 0 w)))) (BId ((9:Int)<b) (need (Aa a) (need (Aa a) (stB c (Ah a 1) [.bool true] (fun s=>K 0 s)))) (need (Aa a) (need (Aa a) (Ai (Ab c [] (.t (Ah a 0)) 0) (fun (x6:TV)=>Aj .str x6 (fun (s6:B8)=>((0<=b/\b<=(s6.length:Int))/\need (Aa a) (need (Aa a) (stB c (Ah a 0) [(.str (List.drop b.toNat s6))] (fun y=>∃(I3:Int->Int->St->Prop) (M3:Int->Int->St->Nat),(I3 d b y)/\∀g n f,I3 g n f->(BId (n<9) ((I3 ((i64.wrap (g*(10:Int)))) ((i64.wrap (n+(1:Int)))) f/\M3 ((i64.wrap (g*(10:Int)))) ((i64.wrap (n+(1:Int)))) f<M3 g n f)) (K g f))))))))))))))))))) (BId (b<1) (need (Aa a) (need (Aa a) (stB c (Ah a 1) [.bool true] (fun p=>K 0 p)))) (BId ((9:Int)<b) (need (Aa a) (need (Aa a) (stB c (Ah a 1) [.bool true] (fun q=>K 0 q)))) (need (Aa a) (need (Aa a) (Ai (Ab c [] (.t (Ah a 0)) 0) (fun (x7:TV)=>Aj .str x7 (fun (s7:B8)=>((0<=b/\b<=(s7.length:Int))/\need (Aa a) (need (Aa a) (stB c (Ah a 0) [(.str (List.drop b.toNat s7))] (fun o=>∃(I4:Int->Int->St->Prop) (M4:Int->Int->St->Nat),(I4 d b o)/\∀k m e,I4 k m e->(BId (m<9) ((I4 ((i64.wrap (k*(10:Int)))) ((i64.wrap (m+(1:Int)))) e/\M4 ((i64.wrap (k*(10:Int)))) ((i64.wrap (m+(1:Int)))) e<M4 k m e)) (K k e))))))))))))))))))):Ae PR By [(.box r 0)] [.one (.int .i64)] st K:=
 Am (cfg:=⟨[],[],[]⟩) (h:=(.seq .none (.seq .none (.seq (.block (.loop ⟨[(3,.int .i64),(4,.int .i64),(0,.tv)],[],[],[]⟩ .none)) (.seq .none (.seq .none (.seq (.block (.loop ⟨[(3,.int .i64),(4,.int .i64)],[],[],[]⟩ .none)) .none))))))) mixed (fun _ _=>Tryz.call291 _ _) Tryz.func291 (by kernel_rfl) (by kernel_rfl) h
theorem HO (year:Int) (st:St) (K:Bool->St->Prop) (h:BId ((1:Int)<=year) (K ((decide (year<=9999))) st) (K false st)):Ae PR B9 [.int .i64 year] [.one .bool] st K:=
 Am (cfg:=⟨[],[],[]⟩) (h:= .none) mixed (fun _ _=>Tryz.call292 _ _) Tryz.func292 (by kernel_rfl) (by kernel_rfl) h
theorem Iy (year:Int) (st:St) (K:Bool->St->Prop) (h:Ae PR B9 [.int .i64 year] [.one .bool] st (fun (b1:Bool) a=>BIf b1 (BId ((Int.tmod year (4:Int))=(0:Int)) (BId ((Int.tmod year (100:Int))≠(0:Int)) (K true a) (K ((decide ((Int.tmod year (400:Int))=(0:Int)))) a)) (K false a)) (K false a))):Ae PR Ds [.int .i64 year] [.one .bool] st K:=
 Am (cfg:=⟨[],[],[]⟩) (h:= .none) mixed (fun _ _=>Tryz.call293 _ _) Tryz.func293 (by kernel_rfl) (by kernel_rfl) h
theorem Lu (s:B8) (st:St) (K:Bool->St->Prop) (h:∃(I1:Int->B8->Int->St->Prop) (M1:Int->B8->Int->St->Nat),(I1 0 s ((s.length:Int)) st)/\∀a b d c,I1 a b d c->(BId (a<d) (((0<=a/\a<(b.length:Int))/\BId (((List.getD b a.toNat 0).toNat:Int)<(48:Int)) (K false c) (((0<=a/\a<(b.length:Int))/\BId ((57:Int)<((List.getD b a.toNat 0).toNat:Int)) (K false c) ((I1 ((i64.wrap (a+(1:Int)))) b d c/\M1 ((i64.wrap (a+(1:Int)))) b d c<M1 a b d c)))))) (K true c))):Ae PR E8 [.str s] [.one .bool] st K:=
 Am (cfg:=⟨[],[],[]⟩) (h:=(.seq .none (.seq (.seq .none (.block (.loop ⟨[(6,.int .i64),(0,.str),(5,.int .i64)],[],[],[]⟩ .none))) .none))) mixed (fun _ _=>Tryz.call301 _ _) Tryz.func301 (by kernel_rfl) (by kernel_rfl) h
theorem Ge (st:St) (K:Int->Int->Bool->Bool->St->Prop) (h:K 44 34 true true st):Ae PR Dh [] [.agg [.int .u8,.int .u8,.bool,.bool]] st K:=
 Am (cfg:=⟨[0],[],[]⟩) (h:= .none) mixed (fun _ _=>Tryz.call62 _ _) Tryz.func62 (by kernel_rfl) (by kernel_rfl) h
theorem Gf (st:St) (K:Int->Int->Int->Int->Int->St->Prop) (h:K 48 65536 1048576 1024 65536 st):Ae PR Di [] [.agg [.int .i64,.int .i64,.int .i64,.int .i64,.int .i64]] st K:=
 Am (cfg:=⟨[0],[],[]⟩) (h:= .none) mixed (fun _ _=>Tryz.call63 _ _) Tryz.func63 (by kernel_rfl) (by kernel_rfl) h
theorem Ke (d_0:Int) (d_1:Int) (d_2:Bool) (d_3:Bool) (st:St) (K:Bool->St->Prop) (h:BId (d_0≠9) (BId (d_0<32) (K false st) (BId ((126:Int)<d_0) (K false st) (BId (d_1<33) (K false st) (BId ((126:Int)<d_1) (K false st) (BId (d_0≠d_1) (Ae PR Br [.int .u8 d_0] [.one .bool] st (fun (b1:Bool) a=>BIf (!b1) (Ae PR Br [.int .u8 d_1] [.one .bool] a (fun (b2:Bool) d=>K ((!b2)) d)) (K false a))) (K false st)))))) (BId (d_1<33) (K false st) (BId ((126:Int)<d_1) (K false st) (BId (d_0≠d_1) (Ae PR Br [.int .u8 d_0] [.one .bool] st (fun (b3:Bool) b=>BIf (!b3) (Ae PR Br [.int .u8 d_1] [.one .bool] b (fun (b4:Bool) c=>K ((!b4)) c)) (K false b))) (K false st))))):Ae PR Es [(.agg [.int .u8 d_0,.int .u8 d_1,.bool d_2,.bool d_3])] [.one .bool] st K:=
 Am (cfg:=⟨[1],[],[]⟩) (h:= .none) mixed (fun _ _=>Tryz.call69 _ _) Tryz.func69 (by kernel_rfl) (by kernel_rfl) h
theorem Kd (l_0:Int) (l_1:Int) (l_2:Int) (l_3:Int) (l_4:Int) (st:St) (K:Bool->St->Prop) (h:BId ((1:Int)<=l_0) (BId (l_0<=48) (BId ((1:Int)<=l_1) (BId (l_1<=65536) (BId ((1:Int)<=l_2) (BId (l_2<=1048576) (BId ((0:Int)<=l_3) (BId (l_3<=1024) (BId ((0:Int)<=l_4) (K ((decide (l_4<=65536))) st) (K false st)) (K false st)) (K false st)) (K false st)) (K false st)) (K false st)) (K false st)) (K false st)) (K false st)):Ae PR Er [(.agg [.int .i64 l_0,.int .i64 l_1,.int .i64 l_2,.int .i64 l_3,.int .i64 l_4])] [.one .bool] st K:=
 Am (cfg:=⟨[1],[],[]⟩) (h:= .none) mixed (fun _ _=>Tryz.call70 _ _) Tryz.func70 (by kernel_rfl) (by kernel_rfl) h
theorem Iv (b:Int) (st:St) (K:Bool->St->Prop) (h:Ae PR DJ [.int .u8 b] [.one .bool] st (fun (b1:Bool) a=>BIf b1 (K true a) (BId ((48:Int)<=b) (BId (b<=57) (K true a) (BId (b=43) (K true a) (BId (b=45) (K true a) (BId (b=46) (K true a) (K ((decide (b=58))) a))))) (BId (b=43) (K true a) (BId (b=45) (K true a) (BId (b=46) (K true a) (K ((decide (b=58))) a))))))):Ae PR Br [.int .u8 b] [.one .bool] st K:=
 Am (cfg:=⟨[],[],[]⟩) (h:= .none) mixed (fun _ _=>Tryz.call128 _ _) Tryz.func128 (by kernel_rfl) (by kernel_rfl) h
theorem JP (b:Int) (st:St) (K:Bool->St->Prop) (h:BId ((97:Int)<=b) (BId (b<=122) (K true st) (BId ((65:Int)<=b) (K ((decide (b<=90))) st) (K false st))) (BId ((65:Int)<=b) (K ((decide (b<=90))) st) (K false st))):Ae PR DJ [.int .u8 b] [.one .bool] st K:=
 Am (cfg:=⟨[],[],[]⟩) (h:= .none) mixed (fun _ _=>Tryz.call203 _ _) Tryz.func203 (by kernel_rfl) (by kernel_rfl) h
section
structure Sc where
 kind:Int
 b:Bool
 neg:Bool
 dg:B8
 ex:Int
 tk:Int
 td:Int
 tn:Int
 tz:Int
 text:B8
 bytes:B8
mutual
inductive Vl where
 | mk (s:Sc) (l:List Vl) (f:List Fd)
inductive Fd where
 | mk (k:B8) (v:Vl)
end
def SlR (st:St) (sz:Nat) (v:TV) (n:Nat) (xs:List TV):Prop:=
 Rd sz v n xs∨∃b off cap l,v= .ms sz b off n cap/\b<st.nb/\st.box b= .cells l/\off+cap*sz<=l.length/\n<=cap/\xs=(l.drop off).take (n*sz)
theorem SlR.of_rd {st:St} {sz n:Nat} {v:TV} {xs:List TV} (h:Rd sz v n xs):SlR st sz v n xs:= .inl h
mutual
def VlR (st:St):Vl->List TV->Prop
 | .mk s l f,cs=>∃ub ul uf xl xf,cs=[.int .i64 s.kind,.bool s.b,.bool s.neg,.str s.dg,.int .i64 s.ex,.int .i64 s.tk,.int .i64 s.td,.int .i64 s.tn,.int .i64 s.tz,.str s.text,ub,ul,uf]/\
   SlR st 1 ub s.bytes.length (A5 s.bytes)/\SlR st 13 ul l.length xl/\VsR st l xl/\SlR st 14 uf f.length xf/\FsR st f xf
def VsR (st:St):List Vl->List TV->Prop
 | [],xs=>xs=[]
 | v::r,xs=>∃a b,xs=a++b/\VlR st v a/\VsR st r b
def FdR (st:St):Fd->List TV->Prop
 | .mk k v,xs=>∃cs,xs= .str k::cs/\VlR st v cs
def FsR (st:St):List Fd->List TV->Prop
 | [],xs=>xs=[]
 | d::r,xs=>∃a b,xs=a++b/\FdR st d a/\FsR st r b
end
end
structure StX (S:Nat->Prop) (a b:St):Prop where
 nb:a.nb<=b.nb
 box:∀i,i<a.nb->¬S i->b.box i=a.box i
 nt:a.nt<=b.nt
 live:∀i,i<a.nt->b.live i=a.live i
 ty:∀i,i<a.nt->b.ty i=a.ty i
 bt:∀i,i<a.nb->b.bt i=a.bt i
theorem StX.trans {S:Nat->Prop} {a b c:St} (h:StX S a b) (k:StX S b c):StX S a c:=
 ⟨Nat.le_trans h.nb k.nb,fun i hi hs=>(k.box i (Nat.lt_of_lt_of_le hi h.nb) hs).trans (h.box i hi hs),Nat.le_trans h.nt k.nt,fun i hi=>(k.live i (Nat.lt_of_lt_of_le hi h.nt)).trans (h.live i hi),fun i hi=>(k.ty i (Nat.lt_of_lt_of_le hi h.nt)).trans (h.ty i hi),fun i hi=>(k.bt i (Nat.lt_of_lt_of_le hi h.nb)).trans (h.bt i hi)⟩
theorem StX.mono {S T:Nat->Prop} {a b:St} (h:StX S a b) (k:∀i,S i->T i):StX T a b:=
 ⟨h.nb,fun i hi hs=>h.box i hi fun g=>hs (k i g),h.nt,h.live,h.ty,h.bt⟩
theorem StX.ext {S:Nat->Prop} {a b c:St} (h:Cq a b) (k:StX S b c) (hs:∀i,S i->a.nb<=i):Cq a c:=
 ⟨Nat.le_trans h.nb k.nb,fun i hi=>(k.box i (Nat.lt_of_lt_of_le hi h.nb) fun g=>absurd (hs i g) (by omega)).trans (h.box i hi),Nat.le_trans h.nt k.nt,fun i hi=>(k.live i (Nat.lt_of_lt_of_le hi h.nt)).trans (h.live i hi),fun i hi=>(k.ty i (Nat.lt_of_lt_of_le hi h.nt)).trans (h.ty i hi),fun i hi=>(k.bt i (Nat.lt_of_lt_of_le hi h.nb)).trans (h.bt i hi)⟩
theorem StX.put {S:Nat->Prop} {a:St} {i:Nat} (hi:S i) (o:It):StX S a (a.put i o):=
 ⟨Nat.le_refl _,fun j hj hs=>by simp only[St.put];rw[if_neg (by rintro rfl;exact hs hi)],Nat.le_refl _,fun _ _=>rfl,fun _ _=>rfl,fun _ _=>rfl⟩
theorem Ce {g:Ghost} {w:World} {l:B8} {v:Value} (h:Rel g w (.str l) v):v= .string ⟨l.toArray⟩:=by cases h;rfl
theorem N5 {g:Ghost} {w:World} {x y:TV} {vs:List Value} (h:AM g w [x,y] vs):∃v u,vs=[v,u]/\Rel g w x v/\Rel g w y u:=by
 obtain⟨v,h1,h2⟩:=h.get? (i:=0) rfl
 obtain⟨u,h3,h4⟩:=h.get? (i:=1) rfl
 have:=h.1
 cases vs with
 | nil=>simp at this
 | cons a r=>cases r with
  | nil=>simp at this
  | cons b r=>cases r with
   | nil=>simp at h1 h3;subst h1 h3;exact⟨_,_,rfl,h2,h4⟩
   | cons c r=>simp at this
section
mutual
def Vl.sz:Vl->Nat
 | .mk s l f=>1+s.bytes.length+s.text.length+s.dg.length+Da l+Fv f
def Da:List Vl->Nat
 | []=>0
 | v::r=>v.sz+Da r
def Fd.sz:Fd->Nat
 | .mk k v=>k.length+v.sz
def Fv:List Fd->Nat
 | []=>0
 | d::r=>d.sz+Fv r
end
theorem Vl.sz_pos (v:Vl):1<=v.sz:=by cases v;unfold Vl.sz;omega
theorem Jr {n1:Int} {b1 b2:Bool} {s2:B8} {n2 n3 n4 n5 n6:Int} {s3:B8} {u1 u2 u3:TV} (h1:Aw u1=true) (h2:Aw u2=true) (h3:Aw u3=true):
  List.all [.int .i64 n1,.bool b1,.bool b2,.str s2,.int .i64 n2,.int .i64 n3,.int .i64 n4,.int .i64 n5,.int .i64 n6,.str s3,u1,u2,u3] Aw=true:=by
 simp only[List.all_cons,List.all_nil,h1,h2,h3,Bool.and_true];rfl
end
def Jb (s:Sc) (ub ul uf:TV):List TV:=[.int .i64 s.kind,.bool s.b,.bool s.neg,.str s.dg,.int .i64 s.ex,.int .i64 s.tk,.int .i64 s.td,.int .i64 s.tn,.int .i64 s.tz,.str s.text,ub,ul,uf]
theorem natB_lt (n:Nat) (h:n<256):n.toUInt8.toNat=n:=by simp;omega
theorem RI (l:B8):List.all (A5 l) Aw=true:=by
 rw[List.all_eq_true];intro x hx
 simp only[A5,List.mem_map]at hx
 obtain⟨y,_,rfl⟩:=hx;rfl
end Go.TVF
section
namespace Go.TVF
open Go.IntKind(i64 u8)
open Go
theorem or_i64 (x y:Nat) (hx:x<2^63) (hy:y<2^63):B0 .or .i64 (x:Int) (y:Int)=((x ||| y:Nat):Int):=by
 have h:x ||| y<2^63:=Nat.or_lt_two_pow hx hy
 show IntKind.wrap .i64 ((BitVec.ofInt 64 (x:Int) ||| BitVec.ofInt 64 (y:Int)).toNat:Int)=_
 simp only[BitVec.ofInt_natCast,BitVec.toNat_or,BitVec.toNat_ofNat]
 rw[Nat.mod_eq_of_lt (by omega),Nat.mod_eq_of_lt (by omega),Ar _ (by omega) (by omega)]
theorem Ti (x y:Nat) (hx:x<2^8) (hy:y<2^8):B0 .and .u8 (x:Int) (y:Int)=((x&&&y:Nat):Int):=by
 have h:x&&&y<2^8:=Nat.and_lt_two_pow _ hy
 show IntKind.wrap .u8 ((BitVec.ofInt 8 (x:Int)&&&BitVec.ofInt 8 (y:Int)).toNat:Int)=_
 simp only[BitVec.ofInt_natCast,BitVec.toNat_and,BitVec.toNat_ofNat]
 rw[Nat.mod_eq_of_lt (by omega),Nat.mod_eq_of_lt (by omega),My _ (by omega) (by omega)]
theorem or_add (a b m:Nat) (hb:b<2^m) (h:a*2^m+b<2^63):B0 .or .i64 ((a*2^m:Nat):Int) (b:Int)=((a*2^m+b:Nat):Int):=by
 have hb':b<2^63:=by omega
 rw[or_i64 _ _ (by omega) hb',Nat.mul_comm a,Nat.two_pow_add_eq_or_of_lt hb]
theorem CR {α:Type} (l:List α) (i:Nat) (d:α) (h:i<l.length):l.take (i+1)=l.take i++[l.getD i d]:=by
 rw[List.take_add_one,List.getElem?_eq_getElem h,List.getD,List.getElem?_eq_getElem h];rfl
theorem LZ {α:Type} (l:List α) (i j:Nat) (d:α):(l.drop i).getD j d=l.getD (i+j) d:=by
 simp[List.getD,List.getElem?_drop]
theorem Mc {α:Type} (l:List α) (i:Nat) (d:α) (h:i<l.length):l.drop i=l.getD i d::l.drop (i+1):=by
 rw[List.drop_eq_getElem_cons h,List.getD,List.getElem?_eq_getElem h];rfl
theorem EX {α:Type} (l:List α) (i j:Nat):(l.take j).drop i=(l.drop i).take (j-i):=by
 rw[List.drop_take]
def bt (l:B8) (i:Nat):Nat:=(l.getD i 0).toNat
theorem Dk (l:B8) (i:Nat):bt l i<256:=(l.getD i 0).toNat_lt
theorem bt_drop (l:B8) (i j:Nat):bt (l.drop i) j=bt l (i+j):=by simp[bt,LZ]
def dN (l:B8):Nat×Nat:=Lib.decodeN l.length (bt l 0) (bt l 1) (bt l 2) (bt l 3)
def ul (l:B8):Nat:=if l=[]∨dN l=(65533,1)then 0 else(dN l).2
def ur (l:B8):Nat:=(dN l).1
def BN (r:Nat):Prop:=r<=1114111/\(r<55296∨57343<r)
instance (r:Nat):Decidable (BN r):=by unfold BN;infer_instance
def Fb (r:Nat):B8:=
 if r<128 then [UInt8.ofNat r]else if r<2048 then [UInt8.ofNat (192+r/64),UInt8.ofNat (128+r%64)]
 else if r<65536 then [UInt8.ofNat (224+r/4096),UInt8.ofNat (128+r/64%64),UInt8.ofNat (128+r%64)]
 else [UInt8.ofNat (240+r/262144),UInt8.ofNat (128+r/4096%64),UInt8.ofNat (128+r/64%64),UInt8.ofNat (128+r%64)]
theorem Cf (n:Nat) (c:UInt8):UInt8.ofNat n=c↔n%256=c.toNat:=by
 rw[<-UInt8.toNat_inj];simp
theorem HV (l:B8) (h:1<=l.length):l.take 1=[l.getD 0 0]:=by
 rw[CR l 0 0 (by omega)];rfl
theorem HU (l:B8) (h:2<=l.length):l.take 2=[l.getD 0 0,l.getD 1 0]:=by
 rw[CR l 1 0 (by omega),HV l (by omega)];rfl
theorem FE (l:B8) (h:3<=l.length):l.take 3=[l.getD 0 0,l.getD 1 0,l.getD 2 0]:=by
 rw[CR l 2 0 (by omega),HU l (by omega)];rfl
theorem ID (l:B8) (h:4<=l.length):l.take 4=[l.getD 0 0,l.getD 1 0,l.getD 2 0,l.getD 3 0]:=by
 rw[CR l 3 0 (by omega),FE l (by omega)];rfl
def rsz (b0:Nat):Nat:=if 240<=b0 then 4 else if 224<=b0 then 3 else if 192<=b0 then 2 else 1
def rb0 (b0:Nat):Nat:=if 240<=b0 then b0%8 else if 224<=b0 then b0%16 else if 192<=b0 then b0%32 else b0
def Cd (l:B8) (r0:Nat):Nat->Nat
 | 0=>r0
 | j+1=>Cd l r0 j*64+bt l (j+1)%64
theorem Qu (l:B8) (r0:Nat) (h:r0<256):∀j,Cd l r0 j<256*64^j
 | 0=>by simpa [Cd]using h
 | j+1=>by
  have:=Qu l r0 h j
  have h2:=Nat.mod_lt (bt l (j+1)) (show 0<64 by omega)
  simp only[Cd,Nat.pow_succ]
  omega
theorem Po (b0:Nat):1<=rsz b0/\rsz b0<=4:=by
 unfold rsz
 repeat' split
 all_goals omega
def MR (l:B8):Nat×Nat:=
 let size:=rsz (bt l 0)
 let r:=Cd l (rb0 (bt l 0)) (size-1)
 if l.length<size then(0,0)else if BN r/\Fb r=l.take size then(r,size)else(0,0)
theorem Cm {a b:UInt8} {x y:B8}:(a::x=b::y)↔a=b/\x=y:=by simp
set_option maxHeartbeats 4000000 in
theorem FJ (l:B8) (h:l≠ []):MR l=if ul l=0 then(0,0)else(ur l,ul l):=by
 have hl:1<=l.length:=by cases l with | nil=>exact absurd rfl h | cons a r=>simp
 have h0:=Dk l 0
 have h1:=Dk l 1
 have h2:=Dk l 2
 have h3:=Dk l 3
 have e0:(l.getD 0 0).toNat=bt l 0:=rfl
 have e1:(l.getD 1 0).toNat=bt l 1:=rfl
 have e2:(l.getD 2 0).toNat=bt l 2:=rfl
 have e3:(l.getD 3 0).toNat=bt l 3:=rfl
 have hul:ul l=if dN l=(65533,1)then 0 else(dN l).2:=by simp[ul,h]
 rw[hul,ur]
 unfold dN
 generalize hb0:bt l 0=b0 at*
 generalize hb1:bt l 1=b1 at*
 generalize hb2:bt l 2=b2 at*
 generalize hb3:bt l 3=b3 at*
 unfold MR
 simp only[hb0]
 by_cases c4:240<=b0
 ·have r4:rsz b0=4:=by unfold rsz;rw[if_pos c4]
  have rb:rb0 b0=b0%8:=by unfold rb0;rw[if_pos c4]
  rw[r4,rb]
  simp only[Nat.reduceSub,Cd,hb1,hb2,hb3,Nat.zero_add,Nat.reduceAdd]
  by_cases hn:l.length<4
  ·rw[if_pos hn]
   have:Lib.decodeN l.length b0 b1 b2 b3=(65533,1):=by
    unfold Lib.decodeN
    rw[if_neg (by omega),if_neg (by omega),if_neg (by omega),if_neg (by omega)]
   rw[this];simp
  ·rw[if_neg hn]
   have hEnc:(BN (((b0%8*64+b1%64)*64+b2%64)*64+b3%64)/\Fb (((b0%8*64+b1%64)*64+b2%64)*64+b3%64)=l.take 4)↔(b0/8=30/\b1/64=2/\b2/64=2/\b3/64=2/\65536<=((b0%8*64+b1%64)*64+b2%64)*64+b3%64/\((b0%8*64+b1%64)*64+b2%64)*64+b3%64<=1114111):=by
    rw[ID l (by omega)]
    generalize hr:((b0%8*64+b1%64)*64+b2%64)*64+b3%64=r
    unfold BN Fb
    by_cases k1:r<128
    ·rw[if_pos k1];simp;omega
    ·rw[if_neg k1]
     by_cases k2:r<2048
     ·rw[if_pos k2];simp;omega
     ·rw[if_neg k2]
      by_cases k3:r<65536
      ·rw[if_pos k3];simp;omega
      ·rw[if_neg k3]
       simp only[Cm,Cf,e0,e1,e2,e3,and_true]
       omega
   by_cases hE:b0/8=30/\b1/64=2/\b2/64=2/\b3/64=2/\65536<=((b0%8*64+b1%64)*64+b2%64)*64+b3%64/\((b0%8*64+b1%64)*64+b2%64)*64+b3%64<=1114111
   ·rw[if_pos (hEnc.2 hE)]
    have:Lib.decodeN l.length b0 b1 b2 b3=(((b0%8*64+b1%64)*64+b2%64)*64+b3%64,4):=by
     unfold Lib.decodeN
     rw[if_neg (by omega),if_neg (by omega),if_neg (by omega),if_pos (by omega),if_pos (by omega)]
     simp only[Prod.mk.injEq,and_true];omega
    rw[this];simp
   ·rw[if_neg (fun hh=>hE (hEnc.1 hh))]
    have:Lib.decodeN l.length b0 b1 b2 b3=(65533,1):=by
     unfold Lib.decodeN
     rw[if_neg (by omega),if_neg (by omega),if_neg (by omega)]
     split
     ·rw[if_neg (by omega)]
     ·rfl
    rw[this];simp
 ·by_cases c3:224<=b0
  ·have r4:rsz b0=3:=by unfold rsz;rw[if_neg c4,if_pos c3]
   have rb:rb0 b0=b0%16:=by unfold rb0;rw[if_neg c4,if_pos c3]
   rw[r4,rb]
   simp only[Nat.reduceSub,Cd,hb1,hb2,Nat.zero_add,Nat.reduceAdd]
   by_cases hn:l.length<3
   ·rw[if_pos hn]
    have:Lib.decodeN l.length b0 b1 b2 b3=(65533,1):=by
     unfold Lib.decodeN
     rw[if_neg (by omega),if_neg (by omega),if_neg (by omega),if_neg (by omega)]
    rw[this];simp
   ·rw[if_neg hn]
    have hEnc:(BN ((b0%16*64+b1%64)*64+b2%64)/\Fb ((b0%16*64+b1%64)*64+b2%64)=l.take 3)↔(b1/64=2/\b2/64=2/\2048<=(b0%16*64+b1%64)*64+b2%64/\BN ((b0%16*64+b1%64)*64+b2%64)):=by
     rw[FE l (by omega)]
     generalize hr:(b0%16*64+b1%64)*64+b2%64=r
     unfold BN Fb
     by_cases k1:r<128
     ·rw[if_pos k1];simp;omega
     ·rw[if_neg k1]
      by_cases k2:r<2048
      ·rw[if_pos k2];simp;omega
      ·rw[if_neg k2]
       by_cases k3:r<65536
       ·rw[if_pos k3]
        simp only[Cm,Cf,e0,e1,e2,and_true]
        omega
       ·omega
    by_cases hE:b1/64=2/\b2/64=2/\2048<=(b0%16*64+b1%64)*64+b2%64/\BN ((b0%16*64+b1%64)*64+b2%64)
    ·rw[if_pos (hEnc.2 hE)]
     have:Lib.decodeN l.length b0 b1 b2 b3=((b0%16*64+b1%64)*64+b2%64,3):=by
      unfold BN at hE
      unfold Lib.decodeN
      rw[if_neg (by omega),if_neg (by omega),if_pos (by omega),if_pos (by omega)]
      simp only[Prod.mk.injEq,and_true];omega
     rw[this];simp
    ·rw[if_neg (fun hh=>hE (hEnc.1 hh))]
     have:Lib.decodeN l.length b0 b1 b2 b3=(65533,1):=by
      unfold BN at hE
      unfold Lib.decodeN
      rw[if_neg (by omega),if_neg (by omega)]
      split
      ·rw[if_neg (by omega)]
      ·rw[if_neg (by omega)]
     rw[this];simp
  ·by_cases c2:192<=b0
   ·have r4:rsz b0=2:=by unfold rsz;rw[if_neg c4,if_neg c3,if_pos c2]
    have rb:rb0 b0=b0%32:=by unfold rb0;rw[if_neg c4,if_neg c3,if_pos c2]
    rw[r4,rb]
    simp only[Nat.reduceSub,Cd,hb1,Nat.zero_add,Nat.reduceAdd]
    by_cases hn:l.length<2
    ·rw[if_pos hn]
     have:Lib.decodeN l.length b0 b1 b2 b3=(65533,1):=by
      unfold Lib.decodeN
      rw[if_neg (by omega),if_neg (by omega),if_neg (by omega),if_neg (by omega)]
     rw[this];simp
    ·rw[if_neg hn]
     have hEnc:(BN (b0%32*64+b1%64)/\Fb (b0%32*64+b1%64)=l.take 2)↔(b1/64=2/\128<=b0%32*64+b1%64):=by
      rw[HU l (by omega)]
      generalize hr:b0%32*64+b1%64=r
      unfold BN Fb
      by_cases k1:r<128
      ·rw[if_pos k1];simp;omega
      ·rw[if_neg k1,if_pos (by omega)]
       simp only[Cm,Cf,e0,e1,and_true]
       omega
     by_cases hE:b1/64=2/\128<=b0%32*64+b1%64
     ·rw[if_pos (hEnc.2 hE)]
      have:Lib.decodeN l.length b0 b1 b2 b3=(b0%32*64+b1%64,2):=by
       unfold Lib.decodeN
       rw[if_neg (by omega),if_pos (by omega),if_pos (by omega)]
      rw[this];simp
     ·rw[if_neg (fun hh=>hE (hEnc.1 hh))]
      have:Lib.decodeN l.length b0 b1 b2 b3=(65533,1):=by
       unfold Lib.decodeN
       rw[if_neg (by omega)]
       split
       ·rw[if_neg (by omega)]
       ·rw[if_neg (by omega),if_neg (by omega)]
      rw[this];simp
   ·have r4:rsz b0=1:=by unfold rsz;rw[if_neg c4,if_neg c3,if_neg c2]
    have rb:rb0 b0=b0:=by unfold rb0;rw[if_neg c4,if_neg c3,if_neg c2]
    rw[r4,rb]
    simp only[Nat.reduceSub,Cd]
    rw[if_neg (by omega),HV l hl]
    have hEnc:(BN b0/\Fb b0=[l.getD 0 0])↔b0<128:=by
     unfold BN Fb
     by_cases k1:b0<128
     ·rw[if_pos k1];simp only[Cm,Cf,e0,and_true];omega
     ·rw[if_neg k1,if_pos (by omega)];simp;omega
    by_cases hE:b0<128
    ·rw[if_pos (hEnc.2 hE)]
     have:Lib.decodeN l.length b0 b1 b2 b3=(b0,1):=by unfold Lib.decodeN;rw[if_pos hE]
     rw[this,if_neg (by simp;omega)]
     simp only[Prod.mk.injEq]
     rw[if_neg (by omega)]
     simp
    ·rw[if_neg (fun hh=>hE (hEnc.1 hh))]
     have:Lib.decodeN l.length b0 b1 b2 b3=(65533,1):=by
      unfold Lib.decodeN
      rw[if_neg (by omega),if_neg (by omega),if_neg (by omega),if_neg (by omega)]
     rw[this];simp
theorem ul_char (l:B8) (h:ul l≠0):BN (ur l)/\Fb (ur l)=l.take (ul l)/\ul l<=l.length/\ul l<=4:=by
 have hne:l≠ []:=fun h0=>h (by simp[ul,h0])
 have e:=FJ l hne
 rw[if_neg h]at e
 unfold MR at e
 simp only at e
 split at e
 ·simp only[Prod.mk.injEq]at e;omega
 ·split at e
  ·rename_i hn hc
   simp only[Prod.mk.injEq]at e
   rw[<-e.1,<-e.2]
   exact⟨hc.1,hc.2,by omega,(Po _).2⟩
  ·simp only[Prod.mk.injEq]at e;omega
theorem NJ (l:B8):ul l<=l.length:=by
 by_cases h:ul l=0
 ·omega
 ·exact(ul_char l h).2.2.1
def A8 (l:B8):Nat:=if h:ul l=0 then 0 else ul l+A8 (l.drop (ul l))
termination_by l.length
decreasing_by
 have:=NJ l
 simp only[List.length_drop];omega
theorem Dm (l:B8) (h:ul l=0):A8 l=0:=by rw[A8,dif_pos h]
theorem Fk (l:B8) (h:ul l≠0):A8 l=ul l+A8 (l.drop (ul l)):=by rw[A8,dif_neg h]
end Go.TVF
end
namespace Go.TVF
open Go.IntKind(i64 u8)
open Go Go.Proofs
def BB (c:UInt8):Prop:=48<=c.toNat/\c.toNat<=57
instance (c:UInt8):Decidable (BB c):=inferInstanceAs (Decidable (_/\_))
def CI (l:B8):Nat:=(l.reverse.takeWhile (·==48)).length
def DecOk (neg:Bool) (dg:B8) (ex:Int):Prop:=
 (dg=[]->neg=false/\ex=0)/\(dg≠ []->dg.length<=120/\(∀c,c∈dg->BB c)/\dg.getD 0 0≠48/\CI dg=0/\ -400<=ex/\ex<=400)
instance (neg:Bool) (dg:B8) (ex:Int):Decidable (DecOk neg dg ex):=inferInstanceAs (Decidable ((_->_)/\(_->_)))
def TimeOk (k d n z:Int):Prop:=
 1<=k/\k<=4/\0<=d/\d<=3652058/\0<=n/\n<=86399999999999/\ -1439<=z/\z<=1439/\(k=2->d=0)/\(k=1->n=0)/\(k≠4->z=0)
instance (k d n z:Int):Decidable (TimeOk k d n z):=inferInstanceAs (Decidable (_/\_/\_/\_/\_/\_/\_/\_/\(_->_)/\(_->_)/\(_->_)))
def QA (y:Nat):Prop:=y%4=0/\(y%100≠0∨y%400=0)
instance (y:Nat):Decidable (QA y):=inferInstanceAs (Decidable (_/\_))
def Ol (y m:Nat):Nat:=if m=2 then(if QA y then 29 else 28)else if m=4∨m=6∨m=9∨m=11 then 30 else 31
def Ok (y:Nat):Nat->Nat
 | 0=>0
 | 1=>0
 | m+2=>Ok y (m+1)+Ol y (m+1)
def yrS (y:Nat):Nat:=365*(y-1)+(y-1)/4-(y-1)/100+(y-1)/400
theorem Rm (y:Nat) {m:Nat} (h:1<=m):Ok y (m+1)=Ok y m+Ol y m:=by
 cases m with
 | zero=>omega
 | succ m=>rfl
structure OwnOk (s:Sc) (l:List Vl) (f:List Fd):Prop where
 k0:0<=s.kind
 k7:s.kind<=7
 bo:s.kind≠1->s.b=false
 nu:s.kind≠2->s.neg=false/\s.dg=[]/\s.ex=0
 ti:s.kind≠3->s.tk=0/\s.td=0/\s.tn=0/\s.tz=0
 tx:s.kind≠4->s.text=[]
 by_:s.kind≠5->s.bytes=[]
 ls:s.kind≠6->l=[]
 fs:s.kind≠7->f=[]
noncomputable instance (s:Sc) (l:List Vl) (f:List Fd):Decidable (OwnOk s l f):=Classical.propDecidable _
def U8 (s:B8):Prop:=A8 s=s.length
instance (s:B8):Decidable (U8 s):=inferInstanceAs (Decidable (_=_))
theorem AG {s:B8} {f:B8->Prop} (h:f s):Aj .str (.str s) f:=h
theorem Ak {k:IntKind} {n:Int} {f:Int->Prop} (h:f n):Aj (.int k) (.int k n) f:=by
 simp only[Aj];exact h
theorem Bg {b:Bool} {f:Bool->Prop} (h:f b):Aj .bool (.bool b) f:=h
end Go.TVF
