/- What the laws below rest on: a framework for Go programs, and contracts of the functions that they reach. -/
import Derived.Test.YtpfhcnpnngjpnaaGreatDoorGaB
import Derived.Deep.Slices
import Derived.WideShapes
import Derived.ChangeArms
import Derived.OpenShut
import Derived.Test.YtpfhcnpnngjpnaaGreatDoorProg
import Derived.KernelRfl
set_option maxRecDepth 20000
set_option linter.unusedVariables false
set_option linter.unusedSimpArgs false
section
namespace Go.TVF
open Go.IntKind(i64 u8)
open Go.RowKit (Below)
theorem QF {P:Program} {Q:Exit->Act->World->Prop} {a:Act} {w:World} {c:Code} (I:Nat->Act->World->Prop) (h₀:∃m,I m a w)
  (round:∀m a w,I m a w->c.wp P (Exit.then (fun a' w'=>∃m',m'<m/\I m' a' w') Q) a w):(Code.loop c).wp P Q a w:=by
 intro b k cs
 have key:∀m a w,I m a w->∃e a' w',Q e a' w'/\Arrives P (lone (b.at a (.code c:: .inLoop c::k)) cs w) b k cs e a' w':=by
  intro m
  induction m using Nat.strongRecOn with
  | _ m ih=>
   intro a w hI
   obtain⟨e,a₁,w₁,hq,harr⟩:=round m a w hI b (.inLoop c::k) cs
   cases e with
   | normal=>
    obtain⟨m',hlt,hI₁⟩:=hq
    obtain⟨e₂,a₂,w₂,hq₂,harr₂⟩:=ih m' hlt a₁ w₁ hI₁
    exact⟨e₂,a₂,w₂,hq₂,.of_steps (Steps.trans harr (.one step_inLoop)) harr₂⟩
   | exit id=>exact⟨_,a₁,w₁,hq,.pass (x:= .inLoop c) rfl (fun _ _=> .inl (by simp)) harr⟩
   | goto l=>exact⟨_,a₁,w₁,hq,.pass (x:= .inLoop c) rfl (fun _ _=> .inl (by simp)) harr⟩
   | ret=>exact⟨_,a₁,w₁,hq,.pass (x:= .inLoop c) rfl (fun _ _=> .inl (by simp)) harr⟩
   | panic ch=>exact⟨_,a₁,w₁,hq,.pass (x:= .inLoop c) rfl (fun _ _=> .inl (by simp)) harr⟩
   | outgrown=>exact⟨_,a₁,w₁,hq,.pass (x:= .inLoop c) rfl (fun _ _=> .inl (by simp)) harr⟩
 obtain⟨m,hm⟩:=h₀
 obtain⟨e,a',w',hq,harr⟩:=key m a w hm
 exact⟨e,a',w',hq,.of_steps (.one step_loop) harr⟩
theorem N6:∀{cs:List CTy} {vs:List TV} {I:Fun cs (St->Prop)} {M:Fun cs (St->Nat)} {B:List TV->Nat->St->Prop} {st:St},AllC cs I M B->JL cs vs I (fun p=>p st)->∃m,B vs m st
 | [],[],I,M,B,st,h,hd=>⟨_,h st hd⟩
 | [],_::_,I,M,B,st,h,hd=>hd.elim
 | _::_,[],I,M,B,st,h,hd=>hd.elim
 | c::cs,v::vs,I,M,B,st,h,hd=>by
  obtain⟨y,rfl,hd2⟩:=Dz hd
  exact N6 (B:=fun l=>B (enc c y::l)) (h y) hd2
theorem Pv:∀{cs:List CTy} {vs:List TV} {I:Fun cs (St->Prop)} {M:Fun cs (St->Nat)} {B:List TV->Nat->St->Prop} {st:St} {m:Nat},AllC cs I M B->RK cs vs I M (fun p q=>p st/\q st<m)->∃m',m'<m/\B vs m' st
 | [],[],I,M,B,st,m,h,hd=>⟨_,hd.2,h st hd.1⟩
 | [],_::_,I,M,B,st,m,h,hd=>hd.elim
 | _::_,[],I,M,B,st,m,h,hd=>hd.elim
 | c::cs,v::vs,I,M,B,st,m,h,hd=>by
  obtain⟨y,rfl,hd2⟩:=Dz hd
  exact Pv (B:=fun l=>B (enc c y::l)) (h y) hd2
theorem Md:∀{cs:List CTy} {vs:List TV} {I:Fun cs (St->Prop)} {B:List TV->St->Prop} {st:St},W5 cs I B->JL cs vs I (fun p=>p st)->B vs st
 | [],[],I,B,st,h,hd=>h st hd
 | [],_::_,I,B,st,h,hd=>hd.elim
 | _::_,[],I,B,st,h,hd=>hd.elim
 | c::cs,v::vs,I,B,st,h,hd=>by
  obtain⟨y,rfl,hd2⟩:=Dz hd
  exact Md (B:=fun l=>B (enc c y::l)) (h y) hd2
def QPost (g:Ghost) (w:World) (a0:Act) (Q:Exit->Fr->St->Prop) (e:Exit) (a:Act) (w':World):Prop:=JO g w a0 (Q e) a w'
section
variable {P:Program} {cfg:Cfg} {ns nl:Nat}
theorem Vj (hm:P.follows .mixedOrders=true):∀(c:Code) (h:IV) (Q:Exit->Fr->St->Prop) (fr:Fr) (st:St) (g:Ghost) (w:World) (a:Act),cwp cfg P ns nl c h Q fr st->Sim g st fr.loc w->FM g w fr a.tmps->a.tmps.size=ns->
  c.wp P (QPost g w a Q) a w:=by
 intro c
 induction c with
 | skip=>intro h Q fr st g w a hc s hf hn;exact wp_skip ⟨fr,st,g,hc,s,hf,Ext.refl _ _,rfl,rfl⟩
 | region id ops draw=>
  intro h Q fr st g w a hc s hf hn
  cases draw with
  | false=>exact wp_region_list (LX ops.toList fr st g w a hc s hf fun a' w' hp=>hp)
  | true=>exact Qe hm hc s hf fun a' w' hp=>hp
 | seq x y ihx ihy=>
  intro h Q fr st g w a hc s hf hn
  have key:∀(hx hy:IV),cwp cfg P ns nl x hx (QU (cwp cfg P ns nl y hy Q) Q) fr st->(Code.seq x y).wp P (QPost g w a Q) a w:=by
   intro hx hy hcx
   refine wp_seq (wp_mono (ihx hx _ fr st g w a hcx s hf hn) fun e a' w' hq=>?_)
   obtain⟨fr',st',g',h1,h2,h3,h4,h5⟩:=hq
   cases e with
   | normal=>
    refine wp_mono (ihy hy Q fr' st' g' w' a' h1 h2 h3 (h5.2.trans hn)) fun e a'' w'' hq2=>?_
    exact hq2.ext h4 h5
   | _=>exact⟨fr',st',g',h1,h2,h3,h4,h5⟩
  cases h with
  | cut k hx hy=>
   obtain⟨R,h1,h2⟩:=hc
   refine wp_seq (wp_mono (ihx hx _ fr st g w a h1 s hf hn) fun e a' w' hq=>?_)
   obtain⟨fr',st',g',q1,q2,q3,q4,q5⟩:=hq
   cases e with
   | normal=>
    have q1':need (k.ok nl fr') (JL k.tys (k.vals fr') R fun p=>p st'):=q1
    rw[Au]at q1'
    obtain⟨w1,w2⟩:=ED.weak (ns:=ns) q1'.1 q2 q3 (q5.2.trans hn)
    have hb:=Md h2 q1'.2
    exact wp_mono (ihy hy Q _ st' g' w' a' hb w1 w2 (q5.2.trans hn)) fun e a'' w'' hq2=>hq2.ext q4 q5
   | _=>exact⟨fr',st',g',q1,q2,q3,q4,q5⟩
  | none=>exact key _ _ hc
  | seq p q=>exact key _ _ hc
  | cond p q=>exact key _ _ hc
  | block p=>exact key _ _ hc
  | loop k p=>exact key _ _ hc
 | cond c x y ihx ihy=>
  intro h Q fr st g w a hc s hf hn
  simp only[cwp]at hc
  split at hc
  ·rename_i b hb
   have hr:=PT hf c
   rw[hb]at hr
   have hr':Rel g w (.bool b) (a.eval c):=hr
   have hev:a.eval c= .bool b:=by generalize a.eval c=q at hr';cases hr';rfl
   cases b with
   | true=>exact wp_cond_true hev (ihx h.l Q fr st g w a hc s hf hn)
   | false=>exact wp_cond_false hev (ihy h.r Q fr st g w a hc s hf hn)
  ·exact hc.elim
 | block id x ih=>
  intro h Q fr st g w a hc s hf hn
  refine wp_block (wp_mono (ih h.l (Tt id Q) fr st g w a hc s hf hn) fun e a' w' hq=>?_)
  obtain⟨fr',st',g',h1,h2,h3,h4,h5⟩:=hq
  cases e with
  | exit id'=>
   simp only[Tt]at h1
   by_cases hid:id'=id
   ·subst hid
    have hbe:(id'.beq id')=true:=Nat.beq_refl id'
    simp only[hbe]at h1
    simp only[Exit.inBlock,if_true]
    exact⟨fr',st',g',h1,h2,h3,h4,h5⟩
   ·have hbe:(id'.beq id)=false:=by
     cases hq:id'.beq id with
     | false=>rfl
     | true=>exact absurd (Nat.eq_of_beq_eq_true hq) hid
    simp only[hbe]at h1
    simp only[Exit.inBlock,hid,if_false]
    exact⟨fr',st',g',h1,h2,h3,h4,h5⟩
  | _=>exact⟨fr',st',g',h1,h2,h3,h4,h5⟩
 | loop x ih=>
  intro h Q fr st g w a hc s hf hn
  cases h with
  | loop k hx=>
   obtain⟨I,M,h1,h2⟩:=hc
   rw[Au]at h1
   refine QF (fun m a' w'=>∃vals st' g',cwp cfg P ns nl x hx (QU (fun fr st=>need (k.ok nl fr) (RK k.tys (k.vals fr) I M fun p q=>p st/\q st<m)) Q) (k.frame ns nl vals) st'/\
    Sim g' st' (k.frame ns nl vals).loc w'/\FM g' w' (k.frame ns nl vals) a'.tmps/\Ext g w g' w'/\a'.defers=a.defers/\a'.tmps.size=a.tmps.size) ?_ ?_
   ·obtain⟨m,hm⟩:=N6 h2 h1.2
    obtain⟨w1,w2⟩:=ED.weak (ns:=ns) h1.1 s hf hn
    exact⟨m,_,st,g,hm,w1,w2,Ext.refl _ _,rfl,rfl⟩
   ·rintro m a' w' ⟨vals,st',g',q1,q2,q3,q4,q5⟩
    refine wp_mono (ih hx _ _ st' g' w' a' q1 q2 q3 (q5.2.trans hn)) fun e a'' w'' hq=>?_
    obtain⟨fr2,st2,g2,r1,r2,r3,r4,r5⟩:=hq
    cases e with
    | normal=>
     have r1':need (k.ok nl fr2) (RK k.tys (k.vals fr2) I M fun p q=>p st2/\q st2<m):=r1
     rw[Au]at r1'
     obtain⟨m',hlt,hB⟩:=Pv h2 r1'.2
     obtain⟨w1,w2⟩:=ED.weak (ns:=ns) r1'.1 r2 r3 (r5.2.trans (q5.2.trans hn))
     exact⟨m',hlt,_,st2,g2,hB,w1,w2,q4.trans r4,r5.1.trans q5.1,r5.2.trans q5.2⟩
    | _=>exact⟨fr2,st2,g2,r1,r2,r3,q4.trans r4,r5.1.trans q5.1,r5.2.trans q5.2⟩
  | _=>exact hc.elim
 | exit id=>intro h Q fr st g w a hc s hf hn;exact wp_exit ⟨fr,st,g,hc,s,hf,Ext.refl _ _,rfl,rfl⟩
 | ret=>intro h Q fr st g w a hc s hf hn;exact wp_ret ⟨fr,st,g,hc,s,hf,Ext.refl _ _,rfl,rfl⟩
 | _=>intro h Q fr st g w a hc s hf hn;exact hc.elim
def Lo (P:Program) (fr:Fr) (st:St):ResultVar->Option TV
 | .tmp t=>some (Lk fr t)
 | .cell a t=>match J5 P t with
  | some true=>match P.cellsOf t with
   | 0=>none
   | n=>(Aj st fr.loc (fr.slots.f a) 0 n).map .agg
  | some false=>Ac st fr.loc (fr.slots.f a) 0
  | none=>none
def IA (P:Program) (fr:Fr) (st:St):List ResultVar->Option (List TV)
 | []=>some []
 | r::rs=>match Lo P fr st r with
  | some v=>(IA P fr st rs).map (v::·)
  | none=>none
def Sa:List TV->TV
 | [v]=>v
 | vs=> .tuple vs
def resT (P:Program) (fn:Func) (fr:Fr) (st:St):Option TV:=(IA P fr st fn.results.toList).map Sa
def PY (P:Program) (fr:Fr) (st:St) (r:ResultVar) (k:TV->Prop):Prop:=
 match r with
 | .tmp t=>k (Lk fr t)
 | .cell a t=>match J5 P t with
  | some true=>match P.cellsOf t with
   | 0=>False
   | n=>Ag ((Aj st fr.loc (fr.slots.f a) 0 n).map .agg) k
  | some false=>Ag (Ac st fr.loc (fr.slots.f a) 0) k
  | none=>False
def KB (P:Program) (fr:Fr) (st:St):List ResultVar->(List TV->Prop)->Prop
 | [],k=>k []
 | r::rs,k=>PY P fr st r fun v=>KB P fr st rs fun vs=>k (v::vs)
theorem Os {P:Program} {fr:Fr} {st:St} {r:ResultVar} {k:TV->Prop} (h:PY P fr st r k):∃v,Lo P fr st r=some v/\k v:=by
 cases r with
 | tmp t=>exact⟨_,rfl,h⟩
 | cell a t=>
  unfold PY at h
  unfold Lo
  simp only at h⊢
  cases ha:J5 P t with
  | none=>rw[ha]at h;exact h.elim
  | some b=>
   rw[ha]at h
   cases b with
   | true=>
    simp only at h⊢
    cases hn:P.cellsOf t with
    | zero=>rw[hn]at h;exact h.elim
    | succ n=>
     rw[hn]at h
     exact Dk.1 h
   | false=>exact Dk.1 h
theorem Jz {P:Program} {fr:Fr} {st:St}:∀{rs:List ResultVar} {k:List TV->Prop},KB P fr st rs k->∃vs,IA P fr st rs=some vs/\k vs
 | [],k,h=>⟨[],rfl,h⟩
 | r::rs,k,h=>by
  obtain⟨v,h1,h2⟩:=Os h
  obtain⟨vs,h3,h4⟩:=Jz h2
  exact⟨v::vs,by simp[IA,h1,h3],h4⟩
def retQ (P:Program) (fn:Func) (R:TV->St->Prop):Exit->Fr->St->Prop
 | .normal,fr,st=>KB P fr st fn.results.toList fun vs=>R (Sa vs) st
 | .ret,fr,st=>KB P fr st fn.results.toList fun vs=>R (Sa vs) st
 | _,_,_=>False
def Hn (cfg:Cfg) (fn:Func) (args:List TV):Fr:=⟨⟨fn.ntmps,fun i=>match args[i]? with | some v=> .t v | none=> .t .undef⟩,cfg.loc.map fun _=>none⟩
theorem PX {g:Ghost} {st:St} {w:World} {fr:Fr} {tmps:Array Value} (s:Sim g st fr.loc w) (hf:FM g w fr tmps) {r:ResultVar} {v:TV} (h:Lo P fr st r=some v):
  ∃u,(match r with | .tmp t=>pure (tmps.getD t Go.undef) | .cell a t=>do loadVar t (<-asAddr (tmps.getD a Go.undef)):Sem Value).run P w= .ok u w/\Rel g w v u:=by
 cases r with
 | tmp t=>
  simp only[Lo,Option.some.injEq]at h
  subst h
  exact⟨_,rfl,(hf.2 t).tv⟩
 | cell a t=>
  simp only[Lo]at h
  have hld:∀p,Bg g w fr.loc p (tmps.getD a Go.undef)->(DP P st fr.loc t p).Is (.t v)->∃u,(do loadVar t (<-asAddr (tmps.getD a Go.undef)):Sem Value).run P w= .ok u w/\Rel g w v u:=by
   intro p hp hl
   have hl':=hl
   obtain⟨u,hu,hr⟩:=NC (P:=P) s hp hl'
   have hsa:(Instr.loadAt t (tmps.getD a Go.undef)).run P w=(do loadVar t (<-asAddr (tmps.getD a Go.undef)):Sem Value).run P w:=by
    generalize hq:tmps.getD a Go.undef=q at hp hu
    simp only[Instr.loadAt,Sem.run_bind]
    cases q with
    | pointer o=>cases o with
     | none=>simp[Instr.loadAt,Instr.sureAddr]at hu
     | some ad=>simp[Instr.sureAddr,asAddr]
    | _=>simp[Instr.loadAt,Instr.sureAddr]at hu
   exact⟨u,by rw[<-hsa];exact hu,hr⟩
  split at h
  ·rename_i ha
   split at h
   ·cases h
   ·rename_i n hn
    refine hld _ (hf.2 a) ?_
    unfold DP
    rw[ha]
    exact⟨v,by
     split
     ·rename_i h0;exact absurd h0 hn
     ·exact h,rfl⟩
  ·rename_i ha
   refine hld _ (hf.2 a) ?_
   unfold DP
   rw[ha]
   exact⟨v,h,rfl⟩
  ·cases h
theorem KA {g:Ghost} {st:St} {w:World} {fr:Fr} {tmps:Array Value} (s:Sim g st fr.loc w) (hf:FM g w fr tmps):∀{rs:List ResultVar} {vs:List TV},IA P fr st rs=some vs->
  ∃us:List Value,(rs.mapM (fun r=>match r with | .tmp t=>pure (tmps.getD t Go.undef) | .cell a t=>do loadVar t (<-asAddr (tmps.getD a Go.undef))):Sem (List Value)).run P w= .ok us w/\AL g w vs us
 | [],vs,h=>by simp only[IA,Option.some.injEq]at h;subst h;exact⟨[],rfl,.nil _ _⟩
 | r::rs,vs,h=>by
  simp only[IA]at h
  split at h
  ·rename_i v hv
   obtain⟨vs',hvs',rfl⟩:=Option.map_eq_some_iff.1 h
   obtain⟨u,hu,hr⟩:=PX s hf hv
   obtain⟨us,hus,hrs⟩:=KA s hf hvs'
   refine⟨u::us,?_,.cons hr hrs⟩
   rw[List.mapM_cons]
   simp only[Sem.run_bind,hu,Result.andThen_ok,hus,Sem.run_pure]
  ·cases h
theorem Sn {g:Ghost} {st:St} {w:World} {fr:Fr} {tmps:Array Value} (s:Sim g st fr.loc w) (hf:FM g w fr tmps) {fn:Func} {v:TV} (h:resT P fn fr st=some v):∃u,(results fn tmps).run P w= .ok u w/\Rel g w v u:=by
 unfold resT at h
 cases hr:IA P fr st fn.results.toList with
 | none=>rw[hr]at h;cases h
 | some vs=>
  rw[hr]at h
  obtain⟨us,hus,hrel⟩:=KA s hf hr
  have hrun:(fn.results.mapM (fun r=>match r with | .tmp t=>pure (tmps.getD t Go.undef) | .cell a t=>do loadVar t (<-asAddr (tmps.getD a Go.undef))):Sem (Array Value)).run P w= .ok us.toArray w:=by
   rw[<-Array.toArray_toList (xs:=fn.results),List.mapM_toArray]
   simp only[Sem.run_map,hus,Result.andThen_ok]
  refine⟨if h:us.toArray.size=1 then us.toArray[0]else .tuple us.toArray,?_,?_⟩
  ·have hres:results fn tmps=(do
     let vs<-(fn.results.mapM (fun r=>match r with | .tmp t=>pure (tmps.getD t Go.undef) | .cell a t=>do loadVar t (<-asAddr (tmps.getD a Go.undef))):Sem (Array Value))
     pure (if h:vs.size=1 then vs[0]else .tuple vs)):=rfl
   rw[hres,Sem.run_bind,hrun]
   rfl
  ·cases vs with
   | nil=>
    simp only[Option.map_some,Option.some.injEq,Sa]at h;subst h
    have:us=[]:=List.eq_nil_of_length_eq_zero hrel.1.symm
    subst this
    exact Rel.tuple [] [] rfl (fun i hi=>absurd hi (Nat.not_lt_zero _))
   | cons v1 vs1=>cases vs1 with
    | nil=>
     simp only[Option.map_some,Option.some.injEq,Sa]at h;subst h
     cases us with
     | nil=>have:=hrel.1;simp at this
     | cons u1 us1=>
      have:us1=[]:=List.eq_nil_of_length_eq_zero (by have:=hrel.1;simpa using this.symm)
      subst this
      simpa using hrel.2 0 (by simp)
    | cons v2 vs2=>
     simp only[Option.map_some,Option.some.injEq,Sa]at h;subst h
     have hl:us.toArray.size≠1:=by have:=hrel.1;simp at this⊢;omega
     rw[dif_neg hl]
     exact Rel.tuple _ us hrel.1 hrel.2
theorem UE (hm:P.follows .mixedOrders=true) {f:FuncId} {fn:Func} {c:Code} (hcall:∀(vs:Array Value) (w:World),(callFunc f vs).run P w= .ok (.enter f vs) w) (hf:P.funcs[f]? =some fn) (hb:fn.body=some c)
  (cfg:Cfg) (h:IV) {args:List TV} {st:St} {R:TV->St->Prop} (hn:args.length<=fn.ntmps)
  (hc:cwp cfg P fn.ntmps cfg.loc.length c h (retQ P fn R) (Hn cfg fn args) st):EP P f args st R:=by
 refine CZ hcall fun g w vargs s hr=>?_
 refine calls_of_wp hf hb ?_
 have hlen:vargs.length=args.length:=hr.1.symm
 have hsize:(vargs.toArray++Array.replicate (fn.ntmps-vargs.toArray.size) Go.undef).size=fn.ntmps:=by simp;omega
 have hsim:Sim g st (Hn cfg fn args).loc w:=s.weakLoc fun j x' hx'=>by
  simp only[Hn,List.getElem?_map]at hx'
  cases hq:cfg.loc[j]? with
  | none=>rw[hq]at hx';cases hx'
  | some q=>rw[hq]at hx';simp at hx'
 have hfr:FM g w (Hn cfg fn args) (vargs.toArray++Array.replicate (fn.ntmps-vargs.toArray.size) Go.undef):=by
  refine⟨by rw[hsize];rfl,fun i=>?_⟩
  by_cases hia:i<args.length
  ·have h1:(Hn cfg fn args).slots.f i= .t args[i]:=by simp[Hn,hia]
   have h2:(vargs.toArray++Array.replicate (fn.ntmps-vargs.toArray.size) Go.undef).getD i Go.undef=vargs.getD i Go.undef:=by
    have:i<vargs.length:=by omega
    have hin:i<fn.ntmps:=by omega
    simp[Array.getD,Array.getElem_append,this,hin,List.getD_eq_getElem?_getD]
    omega
   rw[h1,h2]
   exact hr.2 i hia
  ·have h1:(Hn cfg fn args).slots.f i= .t .undef:=by simp[Hn,hia]
   have h2:(vargs.toArray++Array.replicate (fn.ntmps-vargs.toArray.size) Go.undef).getD i Go.undef=Go.undef:=by
    have:¬i<vargs.length:=by omega
    simp[Array.getD,Array.getElem_append,this]
   rw[h1,h2]
   exact Rel.undef
 refine wp_mono (Vj hm c h _ _ st g w {tmps:=vargs.toArray++Array.replicate (fn.ntmps-vargs.toArray.size) Go.undef,defers:=[]} hc hsim hfr hsize) fun e a' w' hq=>?_
 obtain⟨fr',st',g',h1,h2,h3,h4,h5,h6⟩:=hq
 have fin:KB P fr' st' fn.results.toList (fun vs=>R (Sa vs) st')->a'.defers=[]/\∃v,(results fn a'.tmps).run P w'= .ok v w'/\∃v',Ending.returned v= .returned v'/\∃r st' g',R r st'/\Sim g' st' [] w'/\Rel g' w' r v'/\Ext g w g' w':=by
  intro ho
  obtain⟨vs,hvs,hR⟩:=Jz ho
  obtain⟨u,hu,hrel⟩:=Sn (fn:=fn) h2 h3 (by unfold resT;rw[hvs];rfl)
  exact⟨h5,u,hu,u,rfl,_,st',g',hR,h2.dropLoc (fun j x hx=>by simp at hx),hrel,h4⟩
 cases e with
 | normal=>exact fin h1
 | ret=>exact fin h1
 | _=>exact h1.elim
def St.zero:St:={nb:=0,box:=fun _=> .dead,nt:=0,live:=fun _=>false,ty:=fun _=>none,bt:=fun _=>none}
def Ghost.start (w:World):Ghost:={base:=w.heap.size,w0:=w,nb:=0,bk:=fun _=>0,lam:=fun _=>0,nt:=0,sp:=fun _=>none,S:=fun a=>a.spot=none/\∃v,w.cell? a=some v,prot:=fun _=>False}
theorem Sim.start (w:World) (hG:∀w',Below w.heap.size w w'->GlobOK w'):Sim (Ghost.start w) St.zero [] w:=by
 have hd:∀k,¬Dom St.zero [] k:=by
  intro k d
  cases k with
  | box i=>exact absurd d (Nat.not_lt_zero _)
  | loc i=>obtain⟨x,hx⟩:=d;simp at hx
 exact⟨rfl,rfl,Below.refl _ _,Nat.le_refl _,fun k d=>absurd d (hd k),fun k k' d=>absurd d (hd k),fun k d=>absurd d (hd k),fun id h=>absurd h (Nat.not_lt_zero _),
  fun id b l h hh=>(by cases hh),fun i j b l h l' h' _ hh=>(by cases hh),fun id _=>rfl,fun a ha=>⟨ha.1,ha.2,fun k d=>absurd d (hd k),fun id l h hh=>(by cases hh)⟩,fun b hb=>hb.elim,fun id b l h hh=>(by cases hh),fun id b l h T hh=>(by cases hh),fun b T hb=>absurd hb (Nat.not_lt_zero _),hG⟩
theorem To {f:FuncId} {args:List TV} (hcall:∀(vs:Array Value) (w:World),(callFunc f vs).run P w= .ok (.enter f vs) w) (h:EP P f args St.zero fun r _=>r= .bool true) (w:World) (hG:∀w',Below w.heap.size w w'->GlobOK w') (vargs:List Value) (hr:AL (Ghost.start w) w args vargs):
  Calls P f vargs.toArray w fun e w'=>e= .returned (.bool true)/\Below w.heap.size w w':=by
 have h1:=h.run (Ghost.start w) w vargs (Sim.start w hG) hr
 unfold CI at h1
 rw[hcall]at h1
 refine Calls.mono h1 ?_
 rintro e w' ⟨v,rfl,r,st',g',rfl,s',hrel,e'⟩
 have hb:=s'.below
 rw[e'.base,e'.w0]at hb
 cases hrel
 exact⟨rfl,hb⟩
end
def Ts (fn:Func):Code:=match fn.body with | some c=>c | none=> .skip
def Fw (cfg:Cfg) (P:Program) (h:IV) (fn:Func) (args:List TV) (st:St) (R:TV->St->Prop):Prop:=
 cwp cfg P fn.ntmps cfg.loc.length (Ts fn) h (retQ P fn R) (Hn cfg fn args) st
def fits (fn:Func) (args:List TV):Bool:=(fn.body.isSome).and (args.length.ble fn.ntmps)
theorem Ae {P:Program} (hm:P.follows .mixedOrders=true) {f:FuncId} {fn:Func} (hcall:∀(vs:Array Value) (w:World),(callFunc f vs).run P w= .ok (.enter f vs) w) (hf:P.funcs[f]? =some fn)
  {cfg:Cfg} {h:IV} {args:List TV} {st:St} {R:TV->St->Prop} (hn:fits fn args=true) {V:Prop} (he:Fw cfg P h fn args st R=V) (hV:V):EP P f args st R:=by
 simp only[fits,Bool.and_eq_true]at hn
 obtain⟨c,hc⟩:=Option.isSome_iff_exists.1 hn.1
 have hb:fn.body=some (Ts fn):=by rw[Ts,hc]
 rw[<-he]at hV
 exact UE hm hcall hf hb cfg h (Nat.le_of_ble_eq_true hn.2) hV
def A1 (cs:List CTy) (v:TV) (f:Fun cs Prop):Prop:=
 match v with
 | .agg l=>decL cs l f
 | _=>False
def stB (st:St) (p:TV) (xs:List TV) (k:St->Prop):Prop:=
 match p with
 | .box b off=>∃l,st.box b= .cells l/\off+xs.length<=l.length/\k (st.put b (.cells (setAll l off xs)))
 | _=>False
theorem Aa {p:Prop} [Decidable p] {x y:Prop} (h1:p->x) (h2:¬p->y):BIf (decide p) x y:=by
 by_cases h:p
 ·simp only[h,decide_true,BIf];exact h1 h
 ·simp only[h,decide_false,BIf];exact h2 h
theorem Am {b:Bool} {x y:Prop} (h1:b=true->x) (h2:b=false->y):BIf b x y:=by
 cases b
 ·exact h2 rfl
 ·exact h1 rfl
end Go.TVF
end
section
namespace Go.TVF
open Go.IntKind(i64 u8)
structure As (a b:St):Prop where
 nb:a.nb<=b.nb
 box:∀i,i<a.nb->b.box i=a.box i
 nt:a.nt<=b.nt
 live:∀i,i<a.nt->b.live i=a.live i
 ty:∀i,i<a.nt->b.ty i=a.ty i
 bt:∀i,i<a.nb->b.bt i=a.bt i
theorem As.refl (a:St):As a a:=⟨Nat.le_refl _,fun _ _=>rfl,Nat.le_refl _,fun _ _=>rfl,fun _ _=>rfl,fun _ _=>rfl⟩
theorem As.trans {a b c:St} (h:As a b) (k:As b c):As a c:=
 ⟨Nat.le_trans h.nb k.nb,fun i hi=>(k.box i (Nat.lt_of_lt_of_le hi h.nb)).trans (h.box i hi),Nat.le_trans h.nt k.nt,fun i hi=>(k.live i (Nat.lt_of_lt_of_le hi h.nt)).trans (h.live i hi),fun i hi=>(k.ty i (Nat.lt_of_lt_of_le hi h.nt)).trans (h.ty i hi),fun i hi=>(k.bt i (Nat.lt_of_lt_of_le hi h.nb)).trans (h.bt i hi)⟩
theorem As.fresh {a b:St} (h:As a b) (T:Option Nat):As a (b.fresh T):=
 h.trans ⟨Nat.le_refl _,fun _ _=>rfl,Nat.le_succ _,fun i hi=>by simp only[St.fresh];rw[if_neg (by omega)],fun i hi=>by simp only[St.fresh];rw[if_neg (by omega)],fun _ _=>rfl⟩
theorem As.push {a b:St} (h:As a b) (o:J7) (T:Option Nat):As a (b.push o T):=
 h.trans ⟨Nat.le_succ _,fun i hi=>by simp only[St.push];rw[if_neg (by omega)],Nat.le_refl _,fun _ _=>rfl,fun _ _=>rfl,fun i hi=>by simp only[St.push];rw[if_neg (by omega)]⟩
theorem As.retire {a b:St} (h:As a b) {id:Nat} (hid:a.nt<=id):As a (b.retire id):=
 ⟨h.nb,h.box,h.nt,fun i hi=>by simp only[St.retire];rw[if_neg (by omega)];exact h.live i hi,h.ty,h.bt⟩
theorem As.put {a b:St} (h:As a b) {i:Nat} (hi:a.nb<=i) (o:J7):As a (b.put i o):=
 ⟨h.nb,fun j hj=>by simp only[St.put];rw[if_neg (by omega)];exact h.box j hj,h.nt,h.live,h.ty,h.bt⟩
theorem Dn (l:B8):(AF l).length=l.length:=by simp[AF]
theorem CX:∀l:B8,Fi (AF l)=some l
 | []=>rfl
 | c::l=>by
  have:=CX l
  simp only[AF]at this
  simp[AF,Fi,FL,Tv,this]
theorem SC (l:B8):(AF l).all Ap=true:=by simp[AF,FL,Ap]
theorem JN (a b:B8):AF a++AF b=AF (a++b):=by simp[AF]
def Rd (sz:Nat) (v:TV) (n:Nat) (xs:List TV):Prop:=
 (v= .nilSlice/\n=0/\xs=[])∨∃tip,v= .list sz tip n xs
def Own (b sz:Nat) (st:St) (v:TV) (n:Nat) (xs:List TV):Prop:=
 (v= .nilSlice/\n=0/\xs=[])∨∃tip,v= .list sz tip n xs/\(tip= .full∨∃id,tip= .own id/\b<=id/\id<st.nt/\st.live id=true)
theorem Own.rd {b sz:Nat} {st:St} {v:TV} {n:Nat} {xs:List TV} (h:Own b sz st v n xs):Rd sz v n xs:=by
 rcases h with h | ⟨tip,h,_⟩
 ·exact .inl h
 ·exact .inr ⟨tip,h⟩
theorem Own.ext {b sz:Nat} {st st':St} {v:TV} {n:Nat} {xs:List TV} (h:Own b sz st v n xs) (e:As st st'):Own b sz st' v n xs:=by
 rcases h with h | ⟨tip,h,ht | ⟨id,h1,h2,h3,h4⟩⟩
 ·exact .inl h
 ·exact .inr ⟨tip,h,.inl ht⟩
 ·exact .inr ⟨tip,h,.inr ⟨id,h1,h2,Nat.lt_of_lt_of_le h3 e.nt,(e.live id h3).trans h4⟩⟩
theorem Own.nil (b sz:Nat) (st:St):Own b sz st .nilSlice 0 []:= .inl ⟨rfl,rfl,rfl⟩
theorem Own.full (b sz:Nat) (st:St) (n:Nat) (xs:List TV):Own b sz st (.list sz .full n xs) n xs:= .inr ⟨_,rfl,.inl rfl⟩
theorem Own.fresh {b sz:Nat} {st:St} {T:Option Nat} (n:Nat) (xs:List TV) (hb:b<=st.nt):Own b sz (st.fresh T) (.list sz (.own st.nt) n xs) n xs:=
 .inr ⟨_,rfl,.inr ⟨st.nt,rfl,hb,Nat.lt_succ_self _,by simp[St.fresh]⟩⟩
theorem Rd.isSl {sz:Nat} {v:TV} {n:Nat} {xs:List TV} (h:Rd sz v n xs):TVF.isSl v=true:=by
 rcases h with⟨rfl,_⟩ | ⟨tip,rfl⟩<;>rfl
theorem Rd.lenS {sz:Nat} {v:TV} {n:Nat} {xs:List TV} (h:Rd sz v n xs):TVF.lenS v=n:=by
 rcases h with⟨rfl,rfl,_⟩ | ⟨tip,rfl⟩<;>rfl
theorem Rd.lenZ {sz:Nat} {v:TV} {n:Nat} {xs:List TV} (h:Rd sz v n xs):TVF.lenZ sz v=n:=by
 rcases h with⟨rfl,rfl,_⟩ | ⟨tip,rfl⟩
 ·rfl
 ·simp[TVF.lenZ]
theorem Rd.one {sz:Nat} {v:TV} {n:Nat} {xs:List TV} (h:Rd sz v n xs):Ap v=true:=by
 rcases h with⟨rfl,rfl,_⟩ | ⟨tip,rfl⟩<;>rfl
theorem Rd.ld {sz:Nat} {v:TV} {n:Nat} {xs:List TV} (h:Rd sz v n xs) (st:St) (i j:Nat) (hi:i*sz+j<xs.length):Ac st [] (.t (ixT sz v i)) j=some xs[i*sz+j]:=by
 rcases h with⟨rfl,rfl,rfl⟩ | ⟨tip,rfl⟩
 ·simp at hi
 ·simp[Ac,ixT,hi]
theorem Rd.ldf {sz:Nat} {v:TV} {n:Nat} {xs:List TV} (h:Rd sz v n xs) (st:St) (i f:Nat) (hi:i*sz+f<xs.length):Ac st [] (.t (Ao (ixT sz v i) f)) 0=some xs[i*sz+f]:=by
 rcases h with⟨rfl,rfl,rfl⟩ | ⟨tip,rfl⟩
 ·simp at hi
 ·simp[Ac,ixT,Ao,hi]
theorem src_str (st:St) (l:B8):IR st 1 (.str l)=some (l.length,AF l):=rfl
theorem BF {T b sz bytes:Nat} {st0 st:St} {v:TV} {n k:Nat} {xs ys:List TV} {K:TV->St->Prop} (e:As st0 st) (hb:b=st0.nt) (h:Own b sz st v n xs) (hby:(n+k)*bytes<=140737488355328) (hys:k=0->ys=[])
  (hK:∀v' st',As st0 st'->st'.box=st.box->Own b sz st' v' (n+k) (xs++ys)->K v' st'):AT T sz bytes v k ys st K:=by
 subst hb
 rcases h with⟨rfl,rfl,rfl⟩ | ⟨tip,rfl,ht⟩
 ·simp only[AT]
  cases k with
  | zero=>rw[hys rfl]at hK;exact hK _ _ e rfl (.nil _ _ _)
  | succ m=>
   simp only[Au]
   refine⟨by simpa using hby,hK _ _ (e.fresh _) rfl ?_⟩
   simp only[List.nil_append,Nat.zero_add]
   exact Own.fresh _ _ e.nt
 ·simp only[AT,Nat.beq_refl]
  refine⟨hby,?_⟩
  rcases ht with rfl | ⟨id,rfl,h1,h2,h3⟩
  ·cases k with
   | zero=>rw[hys rfl]at hK;simp only[List.append_nil]at hK;exact hK _ _ e rfl (Own.full _ _ _ _ _)
   | succ m=>exact hK _ _ (e.fresh _) rfl (Own.fresh _ _ e.nt)
  ·exact⟨h3,hK _ _ ((e.retire h1).fresh _) rfl (Own.fresh (st:=st.retire id) _ _ e.nt)⟩
theorem Ab {b:Bool} {k:Prop} (h:b=true) (hk:k):need b k:=Au.2 ⟨h,hk⟩
theorem Ad {α:Type} {o:Option α} {x:α} {k:α->Prop} (h:o=some x) (hk:k x):Ag o k:=by rw[h];exact hk
theorem Ah (x:Int) (h1: -9223372036854775808<=x) (h2:x<=9223372036854775807):IntKind.wrap .i64 x=x:=by
 unfold IntKind.wrap
 simp only[IntKind.signed,IntKind.bits]
 simp
 omega
theorem K1 (x:Int) (h1:0<=x) (h2:x<=255):IntKind.wrap .u8 x=x:=by
 unfold IntKind.wrap
 simp only[IntKind.signed,IntKind.bits]
 simp
 omega
end Go.TVF
end
section
namespace Go.TVF
open Go.IntKind(i64 u8)
open Go.RowKit (Below)
theorem WV {r:TV} {st':St} (h:Gu [.one .bool] r (fun (b:Bool) (_:St)=>b=true) (fun p=>p st')):r= .bool true:=by
 cases r<;>simp only[Gu,FI,Af]at h<;>first | exact h.elim | skip
 subst h;rfl
theorem calls_law {P:Program} {f:FuncId} {args:List TV} (hcall:∀(vs:Array Value) (w:World),(callFunc f vs).run P w= .ok (.enter f vs) w) (h:CallT P f args [.one .bool] St.zero (fun r _=>r=true)) (w:World) (hG:∀w',Below w.heap.size w w'->GlobOK w') (vargs:List Value) (hr:AL (Ghost.start w) w args vargs):
  Calls P f vargs.toArray w fun e w'=>e= .returned (.bool true)/\Below w.heap.size w w':=
 To hcall (EP.mono h fun r st' hd=>WV hd) w hG vargs hr
theorem rel_string (g:Ghost) (w:World) (s:ByteArray):Rel g w (.str s.data.toList) (.string s):=by
 have:=Rel.str (g:=g) (w:=w) s.data.toList
 simpa using this
def flatIs:List CTy->List TV->Prop
 | [],xs=>xs=[]
 | .int k::cs,xs=>∃n ys,xs= .int k n::ys/\(Lit.int k n).wf=true/\flatIs cs ys
 | .str::cs,xs=>∃l ys,xs= .str l::ys/\l.length<=maxLen/\flatIs cs ys
 | .bool::cs,xs=>∃b ys,xs= .bool b::ys/\flatIs cs ys
 | .tv::_,_=>False
def TD (P:Program):CTy->TypeId->Prop
 | .int k,t=>P.underlying t=some (.int k)
 | .bool,t=>P.underlying t=some .bool
 | .str,t=>P.underlying t=some .string
 | .tv,_=>False
def FieldsTy (P:Program):List CTy->List Field->Nat->Prop
 | [],[],_=>True
 | c::cs,f::fs,o=>f.offset=o/\P.cellsOf f.type=1/\TD P c f.type/\FieldsTy P cs fs (o+1)
 | _,_,_=>False
section
variable {H:Type} {enc:TypeId×Value->H} {P:Program} {w:World} {base:Nat} {sp:Nat->Bool} {held:Bool}
theorem O0 {c:CTy} {t:TypeId} {fuel:Nat} {cs:List Value} {x:DataW H×List MemPlace} (g:Ghost) (hc:TD P c t) (h:DataW.trod enc P w base sp held fuel t cs=some x):
  ∃v u,cs=[u]/\Rel g w v u/\flatIs [c] [v]:=by
 cases c with
 | int k=>
  obtain⟨n,rfl,_,hw⟩:=DataW.trod_int hc h
  exact⟨_,_,rfl,.int k n,n,[],rfl,hw,rfl⟩
 | bool=>
  obtain⟨b,rfl,_⟩:=DataW.trod_bool hc h
  exact⟨_,_,rfl,.bool b,b,[],rfl,rfl⟩
 | str=>
  obtain⟨s,rfl,_,hs⟩:=DataW.trod_string hc h
  exact⟨_,_,rfl,rel_string g w s,_,[],rfl,by rw[Array.length_toList];exact hs,rfl⟩
 | tv=>exact hc.elim
theorem flatIs.cons {c:CTy} {cs:List CTy} {v:TV} {xs:List TV} (h:flatIs [c] [v]) (k:flatIs cs xs):flatIs (c::cs) (v::xs):=by
 cases c with
 | int _=>
  obtain⟨n,ys,h1,h2,_⟩:=h
  simp only[List.cons.injEq]at h1
  exact⟨n,xs,by rw[h1.1],h2,k⟩
 | bool=>
  obtain⟨b,ys,h1,_⟩:=h
  simp only[List.cons.injEq]at h1
  exact⟨b,xs,by rw[h1.1],k⟩
 | str=>
  obtain⟨l,ys,h1,h2,_⟩:=h
  simp only[List.cons.injEq]at h1
  exact⟨l,xs,by rw[h1.1],h2,k⟩
 | tv=>exact h.elim
theorem LY {n:Nat} {vs:List Value} (g:Ghost):∀(cs:List CTy) (fs:List Field) (o:Nat) (xs:List (DataW H×List MemPlace)),FieldsTy P cs fs o->xs.length=fs.length->vs.length=o+cs.length->
  (∀(i:Nat) (f:Field),fs[i]? =some f->DataW.trod enc P w base sp held n f.type ((vs.drop f.offset).take (P.cellsOf f.type))=xs[i]?)->∃tv,AL g w tv (vs.drop o)/\flatIs cs tv
 | [],[],o,xs,_,_,hl,_=>⟨[],by rw[List.drop_of_length_le (by simp at hl;omega)];exact .nil _ _,rfl⟩
 | c::cs,f::fs,o,[],_,hx,_,_=>by simp at hx
 | c::cs,f::fs,o,x::xs,ht,hx,hl,hd=>by
  obtain⟨h1,h2,h3,h4⟩:=ht
  have hd0:=hd 0 f rfl
  rw[h1,h2]at hd0
  obtain⟨v,u,hu,hr,hf⟩:=O0 g h3 hd0
  obtain⟨tv,hr',hf'⟩:=LY (n:=n) (vs:=vs) g cs fs (o+1) xs h4 (by simpa using hx) (by simp at hl;omega) (fun i f' hi=>by simpa using hd (i+1) f' (by simpa using hi))
  refine⟨v::tv,?_,hf.cons hf'⟩
  have hlt:o<vs.length:=by simp at hl;omega
  rw[List.drop_eq_getElem_cons hlt]
  rw[List.drop_eq_getElem_cons hlt]at hu
  simp only[List.take_succ_cons,List.take_zero,List.cons.injEq]at hu
  rw[hu.1]
  exact .cons hr hr'
 | [],f::fs,o,xs,ht,_,_,_=>ht.elim
 | c::cs,[],o,xs,ht,_,_,_=>ht.elim
theorem Tz (b off i:Nat):(⟨b,off,none⟩:Addr).add i=⟨b,off+i,none⟩:=by
 unfold Addr.add;split
 ·rename_i h;subst h;rfl
 ·rfl
def Opens (enc:TypeId×Value->H) (P:Program) (w:World) (base:Nat) (sp:Nat->Bool) (held:Bool) (cs:List CTy) (e:TypeId):Prop:=
 ∀(g:Ghost) n vs x,DataW.trod enc P w base sp held n e vs=some x->∃tv,AL g w tv vs/\flatIs cs tv
theorem opens_struct {cs:List CTy} {e:TypeId} {fs:Array Field} (ht:P.underlying e=some (.struct fs)) (hf:FieldsTy P cs fs.toList 0) (hc:P.cellsOf e=cs.length):Opens enc P w base sp held cs e:=fun g n vs x hd=>by
 obtain⟨xs,m,rfl,_,hl,hx,hi⟩:=DataW.trod_struct ht hd
 have:=LY (enc:=enc) (P:=P) (w:=w) (base:=base) (sp:=sp) (held:=held) (n:=m) (vs:=vs) g cs fs.toList 0 xs hf (by simpa using hx) (by omega) (fun i f h=>hi i f (by simpa using h))
 simpa using this
end
end Go.TVF
end
namespace Go.TVF
open Go.IntKind(i64 u8)
open Go Go.Proofs
theorem mixed:Tryz.prog.follows .mixedOrders=true:=by kernel_rfl
noncomputable def PR:Program:=Tryz.prog
abbrev V13(X:Type):=Int->Bool->Bool->B8->Int->Int->Int->Int->Int->B8->TV->TV->TV->X
abbrev sV:RTy:=.agg [.int .i64,.bool,.bool,.str,.int .i64,.int .i64,.int .i64,.int .i64,.int .i64,.str,.tv,.tv,.tv]
abbrev cV(a:Int)(b c:Bool)(d:B8)(e f g h i:Int)(j:B8)(k l m:TV):List TV:=[.int .i64 a,.bool b,.bool c,.str d,.int .i64 e,.int .i64 f,.int .i64 g,.int .i64 h,.int .i64 i,.str j,k,l,m]
abbrev BId(p:Prop)[Decidable p](a b:Prop):Prop:=BIf (decide p) a b
def fn_datakitlaw28_GridReads:Nat:=7
def BL:Nat:=33
def Ht:Nat:=34
def Bm:Nat:=36
def Ce:Nat:=37
def BU:Nat:=38
def Fa:Nat:=39
def CS:Nat:=40
def Gp:Nat:=42
def FE:Nat:=53
def DW:Nat:=55
def Gn:Nat:=56
def Gm:Nat:=57
def FC:Nat:=58
def BI:Nat:=62
def CA:Nat:=63
def CQ:Nat:=69
def FD:Nat:=70
def Cv:Nat:=71
def Cz:Nat:=72
def Cw:Nat:=73
def Cy:Nat:=86
def Hs:Nat:=87
def Cs:Nat:=93
def JH:Nat:=94
def Gk:Nat:=95
def B4:Nat:=96
def E8:Nat:=97
def Cn:Nat:=98
def Er:Nat:=99
def BX:Nat:=100
def CD:Nat:=101
def CB:Nat:=102
def Dx:Nat:=103
def Ek:Nat:=105
def EK:Nat:=106
def Ej:Nat:=118
def Cf:Nat:=119
def Dq:Nat:=120
def F0:Nat:=121
def Es:Nat:=122
def BO:Nat:=123
def CN:Nat:=124
def Dg:Nat:=127
def BB:Nat:=128
def A3:Nat:=129
def DX:Nat:=130
def AM:Nat:=131
def Bw:Nat:=132
def Dp:Nat:=133
def Dv:Nat:=143
def DS:Nat:=144
def DV:Nat:=145
def AE:Nat:=146
def AX:Nat:=156
def CR:Nat:=157
def El:Nat:=158
def De:Nat:=159
def Co:Nat:=160
def Cu:Nat:=161
def EM:Nat:=162
def Az:Nat:=163
def Bu:Nat:=164
def CC:Nat:=165
def Ck:Nat:=166
def A4:Nat:=167
def AK:Nat:=168
def Df:Nat:=169
def Av:Nat:=170
def AP:Nat:=171
def Bc:Nat:=172
def Et:Nat:=173
def Ct:Nat:=174
def DQ:Nat:=179
def Bb:Nat:=191
def Ak:Nat:=192
def AN:Nat:=193
def AH:Nat:=194
def Hr:Nat:=195
def AO:Nat:=196
def FB:Nat:=197
def C9:Nat:=198
def Cm:Nat:=199
def Gj:Nat:=200
def BD:Nat:=202
def EJ:Nat:=203
def Ch:Nat:=204
def BJ:Nat:=205
def Ai:Nat:=206
def BV:Nat:=207
def AS:Nat:=208
def AD:Nat:=209
def IJ:Nat:=210
def Gl:Nat:=211
def Hq:Nat:=212
def DR:Nat:=221
def C0:Nat:=222
def Be:Nat:=223
def A9:Nat:=224
def CP:Nat:=225
def Ci:Nat:=233
def Bd:Nat:=234
def Dr:Nat:=235
def EI:Nat:=236
def EL:Nat:=241
def A7:Nat:=242
def BH:Nat:=243
def AC:Nat:=244
def Bo:Nat:=245
def AQ:Nat:=246
def Bp:Nat:=247
def BK:Nat:=248
def CG:Nat:=249
def CE:Nat:=250
def Cj:Nat:=251
def E9:Nat:=252
def J3:Nat:=256
def BT:Nat:=265
def Bs:Nat:=266
def Du:Nat:=267
def EH:Nat:=268
def Hp:Nat:=269
def By:Nat:=271
def DU:Nat:=277
def En:Nat:=278
def AG:Nat:=279
def A5:Nat:=286
def CO:Nat:=289
def Ax:Nat:=290
def BP:Nat:=291
def CH:Nat:=292
def Em:Nat:=293
def CF:Nat:=294
def Cg:Nat:=299
def HH:Nat:=300
def Gq:Nat:=301
def Bx:Nat:=302
def DT:Nat:=306
def F1:Nat:=307
def Cl:Nat:=316
def BQ:Nat:=320
def UG:B8:=[97,44,98,10,49,44,120,10,34,49,34,44,10]
def str10:B8:=[49]
def str11:B8:=[34,49,34]
def Jt:B8:=[116,114,117,101]
def TS:B8:=[102,97,108,115,101]
def Ks:B8:=[48]
def Ew:B8:=[45]
def Js:B8:=[46]
def TQ:B8:=[48,46]
def VG:B8:=[101]
def Na:B8:=[84]
def QY:B8:=[43]
def str21:B8:=[100,100,100,100,45,100,100,45,100,100]
def VF:B8:=[101,45]
def Dc:B8:=[58]
def str24:B8:=[90]
def str25:B8:=[84,116,32]
def str26:B8:=[100,100,58,100,100,58,100,100]
def Ev:B8:=[48,48,48,48,48,48,48,48,48]
def str28:B8:=[122]
def str29:B8:=[43,100,100,58,100,100]
def str30:B8:=[45,100,100,58,100,100]
def str31:B8:=[90,122,43,45]
def str32:B8:=[57,50,50,51,51,55,50,48,51,54,56,53,52,55,55,53,56,48,55]
theorem MV (st:St) (K:Int->Int->Int->Int->Int->St->Prop) (h:K 48 65536 1048576 1024 65536 st):CallT PR FE [] [.agg [.int .i64,.int .i64,.int .i64,.int .i64,.int .i64]] st K:=
 Ae (cfg:=⟨[0],[],[]⟩) (h:= .none) mixed (fun _ _=>Tryz.call53 _ _) Tryz.func53 (by kernel_rfl) (by kernel_rfl) h
theorem MY (src:B8) (d_0:Int) (d_1:Int) (d_2:Bool) (d_3:Bool) (l_0:Int) (l_1:Int) (l_2:Int) (l_3:Int) (l_4:Int) (st:St) (K:Int->B8->B8->TV->B8->Int->Int->St->Prop) (h:CallT PR CQ [(.agg [.int .u8 d_0,.int .u8 d_1,.bool d_2,.bool d_3])] [.one .bool] st (fun (b1:Bool) g=>BIf (!b1) (K 0 [] [] .nilSlice [] 0 1 g) (CallT PR FD [(.agg [.int .i64 l_0,.int .i64 l_1,.int .i64 l_2,.int .i64 l_3,.int .i64 l_4])] [.one .bool] g (fun (b2:Bool) f=>BIf (!b2) (K 0 [] [] .nilSlice [] 0 1 f) (BId (l_2<(src.length:Int)) (K 0 [] [] .nilSlice [] 0 10 f) (CallT PR Ej [.str src] [.one (.int .i64)] f (fun (n1:Int) d=>BId ((0:Int)<=n1) (K 0 [] [] .nilSlice [] n1 5 d) (need (List.all [(.map d.nb)] Ap) (∃(I1:B8->TV->Int->B8->B8->TV->B8->St->Prop) (M1:B8->TV->Int->B8->B8->TV->B8->St->Nat),(I1 src ((.box (d.push (.map []) none).nb 0)) 1 [] [] .nilSlice [] ((d.push (.map []) none).push (.cells [.str src,.int .u8 d_0,.int .u8 d_1,.bool d_2,.bool d_3,.int .i64 l_0,.int .i64 l_1,.int .i64 l_2,.int .i64 l_3,.int .i64 l_4,.int .i64 0,.int .i64 1,.int .i64 0,(.map d.nb),.int .i64 0,.int .i64 0]) (some 180)))/\∀b a n2 s1 s2 v1 s3 c,I1 b a n2 s1 s2 v1 s3 c->(need (isPtr a) (need (isPtr a) (Ag (Ac c [] (.t (Ao a 10)) 0) (fun (x1:TV)=>Af (.int .i64) x1 (fun (n3:Int)=>BId (n3<(b.length:Int)) (need (isSl v1) (CallT PR Cf [a,(.int .i64 (lenS v1:Int))] [.agg [.int .i64,.str,.str,.tv,.str],.one .bool] c (fun (n4:Int) (s4 s5:B8) (v2:TV) (s6:B8) (b3:Bool) e=>need (List.all [.int .i64 n4,.str s4,.str s5,v2,.str s6] Ap) (BIf (!b3) (need (isPtr a) (need (isPtr a) (Ag (Ac e [] (.t (Ao a 14)) 0) (fun (x2:TV)=>Af (.int .i64) x2 (fun (n5:Int)=>need (isPtr a) (need (isPtr a) (Ag (Ac e [] (.t (Ao a 15)) 0) (fun (x3:TV)=>Af (.int .i64) x3 (fun (n6:Int)=>K 0 [] [] .nilSlice [] n5 n6 e))))))))) (need (List.all [.int .i64 n4,.str s4,.str s5,v2,.str s6] Ap) (AT 79 5 80 v1 1 [.int .i64 n4,.str s4,.str s5,v2,.str s6] e (fun (v3:TV) i=>need (List.all [v3] Ap) ((I1 b a n2 s1 s2 v3 s3 i/\M1 b a n2 s1 s2 v3 s3 i<M1 b a n2 s1 s2 v1 s3 c))))))))) (need (List.all [.int .i64 n2,.str s1,.str s2,v1,.str s3] Ap) (K n2 s1 s2 v1 s3 0 0 c)))))))))))))))):CallT PR DW [.str src,(.agg [.int .u8 d_0,.int .u8 d_1,.bool d_2,.bool d_3]),(.agg [.int .i64 l_0,.int .i64 l_1,.int .i64 l_2,.int .i64 l_3,.int .i64 l_4])] [.agg [.int .i64,.str,.str,.tv,.str],.one (.int .i64),.one (.int .i64)] st K:=
 Ae (cfg:=⟨[4,5,6,11,12],[],[]⟩) (h:=(.seq .none (.seq .none (.seq .none (.seq .none (.seq .none (.seq .none (.seq (.block (.loop ⟨[(0,.str),(10,.tv)],[(6,2,0),(11,3,0)],[(2,5),(3,5)],[(3,0,.int .i64),(3,1,.str),(3,2,.str),(3,3,.tv),(3,4,.str)]⟩ .none)) .none)))))))) mixed (fun _ _=>Tryz.call55 _ _) Tryz.func55 (by kernel_rfl) (by kernel_rfl) h
theorem Oj (n_0:Int) (n_1:B8) (n_2:B8) (n_3:TV) (n_4:B8) (st:St) (K:Int->St->Prop) (h:stB (st.push (.cells [.int .i64 0]) (some 3)) (.box st.nb 0) [.int .i64 0] (fun c=>CallT PR Dq [(.agg [.int .i64 n_0,.str n_1,.str n_2,n_3,.str n_4]),.int .i64 1,(.box st.nb 0)] [.one (.int .i64)] c (fun (n1:Int) a=>BId (n1≠0) (K n1 a) (CallT PR F0 [(.agg [.int .i64 n_0,.str n_1,.str n_2,n_3,.str n_4])] [.one (.int .i64)] a (fun (n2:Int) b=>BId ((1048576:Int)<n2) (K 10 b) (K 0 b)))))):CallT PR Gn [(.agg [.int .i64 n_0,.str n_1,.str n_2,n_3,.str n_4])] [.one (.int .i64)] st K:=
 Ae (cfg:=⟨[1],[],[]⟩) (h:= .none) mixed (fun _ _=>Tryz.call56 _ _) Tryz.func56 (by kernel_rfl) (by kernel_rfl) h
theorem Oi (n_0:Int) (n_1:B8) (n_2:B8) (n_3:TV) (n_4:B8) (st:St) (K:B8->St->Prop) (h:CallT PR Es [(.box st.nb 0),(.agg [.int .i64 n_0,.str n_1,.str n_2,n_3,.str n_4])] [] (st.push (.cells [.nilPtr,.nilSlice]) (some 188)) (fun (a:St)=>CallT PR BO [(.box st.nb 0)] [.one .str] a (fun (s1:B8) b=>K s1 b))):CallT PR Gm [(.agg [.int .i64 n_0,.str n_1,.str n_2,n_3,.str n_4])] [.one .str] st K:=
 Ae (cfg:=⟨[1],[],[]⟩) (h:= .none) mixed (fun _ _=>Tryz.call57 _ _) Tryz.func57 (by kernel_rfl) (by kernel_rfl) h
theorem HQ (st:St) (K:Int->Int->Bool->Bool->St->Prop) (h:K 44 34 true true st):CallT PR BI [] [.agg [.int .u8,.int .u8,.bool,.bool]] st K:=
 Ae (cfg:=⟨[0],[],[]⟩) (h:= .none) mixed (fun _ _=>Tryz.call62 _ _) Tryz.func62 (by kernel_rfl) (by kernel_rfl) h
theorem HW (st:St) (K:Int->Int->Int->Int->Int->St->Prop) (h:K 48 65536 1048576 1024 65536 st):CallT PR CA [] [.agg [.int .i64,.int .i64,.int .i64,.int .i64,.int .i64]] st K:=
 Ae (cfg:=⟨[0],[],[]⟩) (h:= .none) mixed (fun _ _=>Tryz.call63 _ _) Tryz.func63 (by kernel_rfl) (by kernel_rfl) h
theorem MW (d_0:Int) (d_1:Int) (d_2:Bool) (d_3:Bool) (st:St) (K:Bool->St->Prop) (h:BId (d_0≠9) (BId (d_0<32) (K false st) (BId ((126:Int)<d_0) (K false st) (BId (d_1<33) (K false st) (BId ((126:Int)<d_1) (K false st) (BId (d_0≠d_1) (CallT PR BB [.int .u8 d_0] [.one .bool] st (fun (b1:Bool) a=>BIf (!b1) (CallT PR BB [.int .u8 d_1] [.one .bool] a (fun (b2:Bool) d=>K ((!b2)) d)) (K false a))) (K false st)))))) (BId (d_1<33) (K false st) (BId ((126:Int)<d_1) (K false st) (BId (d_0≠d_1) (CallT PR BB [.int .u8 d_0] [.one .bool] st (fun (b3:Bool) b=>BIf (!b3) (CallT PR BB [.int .u8 d_1] [.one .bool] b (fun (b4:Bool) c=>K ((!b4)) c)) (K false b))) (K false st))))):CallT PR CQ [(.agg [.int .u8 d_0,.int .u8 d_1,.bool d_2,.bool d_3])] [.one .bool] st K:=
 Ae (cfg:=⟨[1],[],[]⟩) (h:= .none) mixed (fun _ _=>Tryz.call69 _ _) Tryz.func69 (by kernel_rfl) (by kernel_rfl) h
theorem MU (l_0:Int) (l_1:Int) (l_2:Int) (l_3:Int) (l_4:Int) (st:St) (K:Bool->St->Prop) (h:BId ((1:Int)<=l_0) (BId (l_0<=48) (BId ((1:Int)<=l_1) (BId (l_1<=65536) (BId ((1:Int)<=l_2) (BId (l_2<=1048576) (BId ((0:Int)<=l_3) (BId (l_3<=1024) (BId ((0:Int)<=l_4) (K ((decide (l_4<=65536))) st) (K false st)) (K false st)) (K false st)) (K false st)) (K false st)) (K false st)) (K false st)) (K false st)) (K false st)):CallT PR FD [(.agg [.int .i64 l_0,.int .i64 l_1,.int .i64 l_2,.int .i64 l_3,.int .i64 l_4])] [.one .bool] st K:=
 Ae (cfg:=⟨[1],[],[]⟩) (h:= .none) mixed (fun _ _=>Tryz.call70 _ _) Tryz.func70 (by kernel_rfl) (by kernel_rfl) h
theorem HP (d_0:Int) (d_1:Int) (d_2:Bool) (d_3:Bool) (st:St) (K:Bool->St->Prop) (h:BId (d_0=9) (BId ((33:Int)<=d_1) (BId (d_1<=126) (BId (d_0≠d_1) (CallT PR A3 [.int .u8 d_0] [.one .bool] st (fun (b1:Bool) a=>BIf b1 (CallT PR A3 [.int .u8 d_1] [.one .bool] a (fun (b2:Bool) d=>K b2 d)) (K false a))) (K false st)) (K false st)) (K false st)) (BId ((32:Int)<=d_0) (BId (d_0<=126) (BId ((33:Int)<=d_1) (BId (d_1<=126) (BId (d_0≠d_1) (CallT PR A3 [.int .u8 d_0] [.one .bool] st (fun (b3:Bool) b=>BIf b3 (CallT PR A3 [.int .u8 d_1] [.one .bool] b (fun (b4:Bool) c=>K b4 c)) (K false b))) (K false st)) (K false st)) (K false st)) (K false st)) (K false st))):CallT PR Cv [(.agg [.int .u8 d_0,.int .u8 d_1,.bool d_2,.bool d_3])] [.one .bool] st K:=
 Ae (cfg:=⟨[1],[],[]⟩) (h:= .none) mixed (fun _ _=>Tryz.call71 _ _) Tryz.func71 (by kernel_rfl) (by kernel_rfl) h
theorem HV (l_0:Int) (l_1:Int) (l_2:Int) (l_3:Int) (l_4:Int) (st:St) (K:Bool->St->Prop) (h:BId ((1:Int)<=l_0) (BId (l_0<=48) (BId ((1:Int)<=l_1) (BId (l_1<=65536) (BId ((1:Int)<=l_2) (BId (l_2<=1048576) (BId ((0:Int)<=l_3) (BId (l_3<=1024) (BId ((0:Int)<=l_4) (K ((decide (l_4<=65536))) st) (K false st)) (K false st)) (K false st)) (K false st)) (K false st)) (K false st)) (K false st)) (K false st)) (K false st)):CallT PR Cz [(.agg [.int .i64 l_0,.int .i64 l_1,.int .i64 l_2,.int .i64 l_3,.int .i64 l_4])] [.one .bool] st K:=
 Ae (cfg:=⟨[1],[],[]⟩) (h:= .none) mixed (fun _ _=>Tryz.call72 _ _) Tryz.func72 (by kernel_rfl) (by kernel_rfl) h
theorem HS (src:B8) (d_0:Int) (d_1:Int) (d_2:Bool) (d_3:Bool) (l_0:Int) (l_1:Int) (l_2:Int) (l_3:Int) (l_4:Int) (st:St) (K:Int->B8->B8->TV->B8->Int->Int->St->Prop) (h:CallT PR Cv [(.agg [.int .u8 d_0,.int .u8 d_1,.bool d_2,.bool d_3])] [.one .bool] st (fun (b1:Bool) c1=>BIf (!b1) (K 0 [] [] .nilSlice [] 0 1 c1) (CallT PR DX [.str src,(.agg [.int .i64 l_0,.int .i64 l_1,.int .i64 l_2,.int .i64 l_3,.int .i64 l_4])] [.one (.int .i64),.one (.int .i64)] c1 (fun (n1 n2:Int) d1=>BId (n2≠0) (K 0 [] [] .nilSlice [] n1 n2 d1) (CallT PR AM [(.agg [.str src,.int .u8 d_0,.int .u8 d_1,.bool d_2,.bool d_3,.int .i64 l_0,.int .i64 l_1,.int .i64 l_2,.int .i64 l_3,.int .i64 l_4,.int .i64 0,.int .i64 0,.int .i64 0,.int .i64 0]),.int .i64 1] [.agg [.str,.int .u8,.int .u8,.bool,.bool,.int .i64,.int .i64,.int .i64,.int .i64,.int .i64,.int .i64,.int .i64,.int .i64,.int .i64]] d1 (fun (s1:B8) (n3 n4:Int) (b2 b3:Bool) (n5 n6 n7 n8 n9 d8 e0 d9 e2:Int) e3=>∃(I1:Int->B8->Int->Int->Bool->Bool->B8->Int->Int->Bool->Bool->Int->Int->Int->Int->Int->Int->Int->Int->Int->Int->B8->B8->TV->B8->St->Prop) (M1:Int->B8->Int->Int->Bool->Bool->B8->Int->Int->Bool->Bool->Int->Int->Int->Int->Int->Int->Int->Int->Int->Int->B8->B8->TV->B8->St->Nat),(I1 0 src d_0 d_1 d_2 d_3 s1 n3 n4 b2 b3 n5 n6 n7 n8 n9 d8 e0 d9 e2 1 [] [] .nilSlice [] e3)/\∀b a g i b4 b5 s2 n l b6 b7 r k m q o j p f d c s3 s4 v1 s5 e,I1 b a g i b4 b5 s2 n l b6 b7 r k m q o j p f d c s3 s4 v1 s5 e->(BId (d=0) (BId (j<(a.length:Int)) (BIf b4 (need (isSl v1) (CallT PR Bw [(.agg [.str s2,.int .u8 n,.int .u8 l,.bool b6,.bool b7,.int .i64 r,.int .i64 k,.int .i64 m,.int .i64 q,.int .i64 o,.int .i64 j,.int .i64 p,.int .i64 f,.int .i64 d]),.int .i64 b,(.bool (decide ((lenS v1:Int)=(0:Int))))] [.agg [.str,.int .u8,.int .u8,.bool,.bool,.int .i64,.int .i64,.int .i64,.int .i64,.int .i64,.int .i64,.int .i64,.int .i64,.int .i64],.agg [.int .i64,.str,.str,.tv,.str],.one (.int .i64)] e (fun (s6:B8) (c0 a6:Int) (b8 b9:Bool) (a1 x c3 c7 a4 a2 d0 d6 a8 w:Int) (s7 s8:B8) (v2:TV) (s9:B8) (c6:Int) d7=>need (List.all [.int .i64 w,.str s7,.str s8,v2,.str s9] Ap) (need (List.all [.int .i64 w,.str s7,.str s8,v2,.str s9] Ap) (AT 79 5 80 v1 1 [.int .i64 w,.str s7,.str s8,v2,.str s9] d7 (fun (v3:TV) c2=>need (List.all [v3] Ap) ((I1 c6 a g i b4 b5 s6 c0 a6 b8 b9 a1 x c3 c7 a4 a2 d0 d6 a8 c s3 s4 v3 s5 c2/\M1 c6 a g i b4 b5 s6 c0 a6 b8 b9 a1 x c3 c7 a4 a2 d0 d6 a8 c s3 s4 v3 s5 c2<M1 b a g i b4 b5 s2 n l b6 b7 r k m q o j p f d c s3 s4 v1 s5 e)))))))) (CallT PR Bw [(.agg [.str s2,.int .u8 n,.int .u8 l,.bool b6,.bool b7,.int .i64 r,.int .i64 k,.int .i64 m,.int .i64 q,.int .i64 o,.int .i64 j,.int .i64 p,.int .i64 f,.int .i64 d]),.int .i64 b,.bool false] [.agg [.str,.int .u8,.int .u8,.bool,.bool,.int .i64,.int .i64,.int .i64,.int .i64,.int .i64,.int .i64,.int .i64,.int .i64,.int .i64],.agg [.int .i64,.str,.str,.tv,.str],.one (.int .i64)] e (fun (a7:B8) (d5 y:Int) (d4 a5:Bool) (c5 a3 z d2 d3 a9 b0 a0 c8 s:Int) (u t:B8) (v4:TV) (v:B8) (c4:Int) e1=>need (List.all [.int .i64 s,.str u,.str t,v4,.str v] Ap) (need (List.all [.int .i64 s,.str u,.str t,v4,.str v] Ap) (AT 79 5 80 v1 1 [.int .i64 s,.str u,.str t,v4,.str v] e1 (fun (v5:TV) c9=>need (List.all [v5] Ap) ((I1 c4 a g i b4 b5 a7 d5 y d4 a5 c5 a3 z d2 d3 a9 b0 a0 c8 c s3 s4 v5 s5 c9/\M1 c4 a g i b4 b5 a7 d5 y d4 a5 c5 a3 z d2 d3 a9 b0 a0 c8 c s3 s4 v5 s5 c9<M1 b a g i b4 b5 s2 n l b6 b7 r k m q o j p f d c s3 s4 v1 s5 e)))))))) (BId (d≠0) (K 0 [] [] .nilSlice [] f d e) (need (List.all [.int .i64 c,.str s3,.str s4,v1,.str s5] Ap) (K c s3 s4 v1 s5 0 0 e)))) (BId (d≠0) (K 0 [] [] .nilSlice [] f d e) (need (List.all [.int .i64 c,.str s3,.str s4,v1,.str s5] Ap) (K c s3 s4 v1 s5 0 0 e)))))))))):CallT PR Cw [.str src,(.agg [.int .u8 d_0,.int .u8 d_1,.bool d_2,.bool d_3]),(.agg [.int .i64 l_0,.int .i64 l_1,.int .i64 l_2,.int .i64 l_3,.int .i64 l_4])] [.agg [.int .i64,.str,.str,.tv,.str],.one (.int .i64),.one (.int .i64)] st K:=
 Ae (cfg:=⟨[4,5,6,11,12,14],[],[]⟩) (h:=(.seq .none (.seq .none (.seq .none (.seq .none (.seq .none (.seq .none (.seq (.block (.loop ⟨[(13,.int .i64),(0,.str)],[(4,0,0),(6,2,0),(11,3,0),(12,4,0)],[(0,4),(2,5),(3,14),(4,5)],[(0,0,.int .u8),(0,1,.int .u8),(0,2,.bool),(0,3,.bool),(3,0,.str),(3,1,.int .u8),(3,2,.int .u8),(3,3,.bool),(3,4,.bool),(3,5,.int .i64),(3,6,.int .i64),(3,7,.int .i64),(3,8,.int .i64),(3,9,.int .i64),(3,10,.int .i64),(3,11,.int .i64),(3,12,.int .i64),(3,13,.int .i64),(4,0,.int .i64),(4,1,.str),(4,2,.str),(4,3,.tv),(4,4,.str)]⟩ .none)) .none)))))))) mixed (fun _ _=>Tryz.call73 _ _) Tryz.func73 (by kernel_rfl) (by kernel_rfl) h
theorem HT (st:St) (K:Int->Int->Int->Int->Int->St->Prop) (h:CallT PR CA [] [.agg [.int .i64,.int .i64,.int .i64,.int .i64,.int .i64]] st (fun (n1 n2 n3 n4 n5:Int) a=>K n1 n2 n3 n4 n5 a)):CallT PR Cy [] [.agg [.int .i64,.int .i64,.int .i64,.int .i64,.int .i64]] st K:=
 Ae (cfg:=⟨[0],[],[]⟩) (h:= .none) mixed (fun _ _=>Tryz.call86 _ _) Tryz.func86 (by kernel_rfl) (by kernel_rfl) h
theorem K5 (n_0:Int) (b:B8) (f:B8) (a:TV) (c:B8) (d_0:Int) (d_1:Int) (d_2:Bool) (d_3:Bool) (st:St) (K:TV->Int->St->Prop) (h:CallT PR Et [(.agg [.int .i64 n_0,.str b,.str f,a,.str c]),(.agg [.int .u8 d_0,.int .u8 d_1,.bool d_2,.bool d_3])] [.one .bool] st (fun (b1:Bool) p=>BIf (!b1) (K .nilSlice 1 p) (need (isSl a) (∃(I1:TV->Int->TV->Int->Int->Int->Bool->Bool->St->Prop) (M1:TV->Int->TV->Int->Int->Int->Bool->Bool->St->Nat),(I1 .nilSlice 0 a ((lenS a:Int)) d_0 d_1 d_2 d_3 p)/\∀e b m f n1 n2 b2 b3 n,I1 e b m f n1 n2 b2 b3 n->(BId (b<f) (((0<=b/\b<(lenZ 5 m:Int))/\Ag ((Aj n [] (.t (ixT 5 m b.toNat)) 0 5).map TV.agg) (fun (x1:TV)=>A1 [.int .i64,.str,.str,.tv,.str] x1 (fun (n3:Int) (s1 s2:B8) (v1:TV) (s3:B8)=>need (List.all [.int .i64 n3,.str s1,.str s2,v1,.str s3] Ap) (need (isSl v1) (∃(I2:TV->Int->TV->TV->Int->Int->TV->Int->Int->Int->Bool->Bool->St->Prop) (M2:TV->Int->TV->TV->Int->Int->TV->Int->Int->Int->Bool->Bool->St->Nat),(I2 .nilSlice 0 e m f b v1 ((lenS v1:Int)) n1 n2 b2 b3 n)/\∀k a d i c j g l n4 n5 b4 b5 o,I2 k a d i c j g l n4 n5 b4 b5 o->(BId (a<l) (((0<=a/\a<(lenZ 5 g:Int))/\Ag ((Aj o [] (.t (ixT 5 g a.toNat)) 0 5).map TV.agg) (fun (x2:TV)=>A1 [.int .i64,.str,.str,.tv,.str] x2 (fun (n6:Int) (s4 s5:B8) (v2:TV) (s6:B8)=>need (List.all [.int .i64 n6,.str s4,.str s5,v2,.str s6] Ap) (((0<=(0:Int)/\(0:Int)<(lenZ 5 v2:Int))/\need (isPtr (ixT 5 v2 (Int.toNat (0:Int)))) (Ag (Ac F8 [] (.t (Ao (ixT 5 v2 (Int.toNat (0:Int))) 2)) 0) (fun (x3:TV)=>Af .str x3 (fun (s7:B8)=>CallT PR Ct [.str s7,(.agg [.int .u8 n4,.int .u8 n5,.bool b4,.bool b5])] [.one .str,.one .bool] o (fun (s8:B8) (b6:Bool) s=>AT 9 1 16 k 1 [.str s8] s (fun (v3:TV) r=>(I2 v3 ((i64.wrap (a+(1:Int)))) d i c j g l n4 n5 b4 b5 r/\M2 v3 ((i64.wrap (a+(1:Int)))) d i c j g l n4 n5 b4 b5 r<M2 k a d i c j g l n4 n5 b4 b5 o)))))))))))) (need (List.all [k] Ap) (need (List.all [k] Ap) (AT 22 1 24 d 1 [k] o (fun (v4:TV) q=>(I1 v4 ((i64.wrap (j+(1:Int)))) i c n4 n5 b4 b5 q/\M1 v4 ((i64.wrap (j+(1:Int)))) i c n4 n5 b4 b5 q<M1 e b m f n1 n2 b2 b3 n)))))))))))) (K e 0 n)))))):CallT PR Ek [(.agg [.int .i64 n_0,.str b,.str f,a,.str c]),(.agg [.int .u8 d_0,.int .u8 d_1,.bool d_2,.bool d_3])] [.one .tv,.one (.int .i64)] st K:=
 Ae (cfg:=⟨[2,3,8,11],[],[]⟩) (h:=(.seq .none (.seq .none (.seq .none (.seq (.seq .none (.block (.loop ⟨[(6,.tv),(21,.int .i64),(19,.tv),(20,.int .i64)],[(3,1,0)],[(1,4)],[(1,0,.int .u8),(1,1,.int .u8),(1,2,.bool),(1,3,.bool)]⟩ (.seq .none (.seq .none (.seq (.block (.seq .none (.seq .none (.seq (.seq .none (.block (.loop ⟨[(9,.tv),(28,.int .i64),(6,.tv),(19,.tv),(20,.int .i64),(21,.int .i64),(26,.tv),(27,.int .i64)],[(3,1,0)],[(1,4)],[(1,0,.int .u8),(1,1,.int .u8),(1,2,.bool),(1,3,.bool)]⟩ .none))) .none)))) .none)))))) .none))))) mixed (fun _ _=>Tryz.call105 _ _) Tryz.func105 (by kernel_rfl) (by kernel_rfl) h
theorem Mm (n_0:Int) (b:B8) (f:B8) (a:TV) (c:B8) (d_0:Int) (d_1:Int) (d_2:Bool) (d_3:Bool) (st:St) (K:TV->Int->St->Prop) (h:CallT PR Et [(.agg [.int .i64 n_0,.str b,.str f,a,.str c]),(.agg [.int .u8 d_0,.int .u8 d_1,.bool d_2,.bool d_3])] [.one .bool] st (fun (b1:Bool) p=>BIf (!b1) (K .nilSlice 1 p) (need (isSl a) (∃(I1:TV->Int->TV->Int->Int->Int->Bool->Bool->St->Prop) (M1:TV->Int->TV->Int->Int->Int->Bool->Bool->St->Nat),(I1 .nilSlice 0 a ((lenS a:Int)) d_0 d_1 d_2 d_3 p)/\∀e b m f n1 n2 b2 b3 n,I1 e b m f n1 n2 b2 b3 n->(BId (b<f) (((0<=b/\b<(lenZ 5 m:Int))/\Ag ((Aj n [] (.t (ixT 5 m b.toNat)) 0 5).map TV.agg) (fun (x1:TV)=>A1 [.int .i64,.str,.str,.tv,.str] x1 (fun (n3:Int) (s1 s2:B8) (v1:TV) (s3:B8)=>need (List.all [.int .i64 n3,.str s1,.str s2,v1,.str s3] Ap) (need (isSl v1) (∃(I2:TV->Int->TV->TV->Int->Int->TV->Int->Int->Int->Bool->Bool->St->Prop) (M2:TV->Int->TV->TV->Int->Int->TV->Int->Int->Int->Bool->Bool->St->Nat),(I2 .nilSlice 0 e m f b v1 ((lenS v1:Int)) n1 n2 b2 b3 n)/\∀k a d i c j g l n4 n5 b4 b5 o,I2 k a d i c j g l n4 n5 b4 b5 o->(BId (a<l) (((0<=a/\a<(lenZ 5 g:Int))/\Ag ((Aj o [] (.t (ixT 5 g a.toNat)) 0 5).map TV.agg) (fun (x2:TV)=>A1 [.int .i64,.str,.str,.tv,.str] x2 (fun (n6:Int) (s4 s5:B8) (v2:TV) (s6:B8)=>need (List.all [.int .i64 n6,.str s4,.str s5,v2,.str s6] Ap) (((0<=(0:Int)/\(0:Int)<(lenZ 5 v2:Int))/\need (isPtr (ixT 5 v2 (Int.toNat (0:Int)))) (Ag (Ac F8 [] (.t (Ao (ixT 5 v2 (Int.toNat (0:Int))) 2)) 0) (fun (x3:TV)=>Af .str x3 (fun (s7:B8)=>CallT PR Ct [.str s7,(.agg [.int .u8 n4,.int .u8 n5,.bool b4,.bool b5])] [.one .str,.one .bool] o (fun (s8:B8) (b6:Bool) s=>AT 4 1 1 k 1 [.bool b6] s (fun (v3:TV) r=>(I2 v3 ((i64.wrap (a+(1:Int)))) d i c j g l n4 n5 b4 b5 r/\M2 v3 ((i64.wrap (a+(1:Int)))) d i c j g l n4 n5 b4 b5 r<M2 k a d i c j g l n4 n5 b4 b5 o)))))))))))) (need (List.all [k] Ap) (need (List.all [k] Ap) (AT 164 1 24 d 1 [k] o (fun (v4:TV) q=>(I1 v4 ((i64.wrap (j+(1:Int)))) i c n4 n5 b4 b5 q/\M1 v4 ((i64.wrap (j+(1:Int)))) i c n4 n5 b4 b5 q<M1 e b m f n1 n2 b2 b3 n)))))))))))) (K e 0 n)))))):CallT PR EK [(.agg [.int .i64 n_0,.str b,.str f,a,.str c]),(.agg [.int .u8 d_0,.int .u8 d_1,.bool d_2,.bool d_3])] [.one .tv,.one (.int .i64)] st K:=
 Ae (cfg:=⟨[2,3,8,11],[],[]⟩) (h:=(.seq .none (.seq .none (.seq .none (.seq (.seq .none (.block (.loop ⟨[(6,.tv),(21,.int .i64),(19,.tv),(20,.int .i64)],[(3,1,0)],[(1,4)],[(1,0,.int .u8),(1,1,.int .u8),(1,2,.bool),(1,3,.bool)]⟩ (.seq .none (.seq .none (.seq (.block (.seq .none (.seq .none (.seq (.seq .none (.block (.loop ⟨[(9,.tv),(28,.int .i64),(6,.tv),(19,.tv),(20,.int .i64),(21,.int .i64),(26,.tv),(27,.int .i64)],[(3,1,0)],[(1,4)],[(1,0,.int .u8),(1,1,.int .u8),(1,2,.bool),(1,3,.bool)]⟩ .none))) .none)))) .none)))))) .none))))) mixed (fun _ _=>Tryz.call106 _ _) Tryz.func106 (by kernel_rfl) (by kernel_rfl) h
theorem K4 (src:B8) (st:St) (K:Int->St->Prop) (h:∃(I1:Int->B8->St->Prop) (M1:Int->B8->St->Nat),(I1 0 src st)/\∀b a c,I1 b a c->(BId (b<(a.length:Int)) (CallT PR Dp [.str a,.int .i64 b] [.one (.int .i64),.one (.int .i64)] c (fun (n1 n2:Int) d=>BId (n2=0) (K b d) ((I1 ((i64.wrap (b+n2))) a d/\M1 ((i64.wrap (b+n2))) a d<M1 b a c)))) (K (-1) c))):CallT PR Ej [.str src] [.one (.int .i64)] st K:=
 Ae (cfg:=⟨[],[],[]⟩) (h:=(.seq .none (.seq (.seq .none (.block (.loop ⟨[(3,.int .i64),(0,.str)],[],[],[]⟩ .none))) .none))) mixed (fun _ _=>Tryz.call118 _ _) Tryz.func118 (by kernel_rfl) (by kernel_rfl) h
theorem G0 (p:Nat) (number:Int) (st:St) (K:Int->B8->B8->TV->B8->Bool->St->Prop) (h:BId (number=0) (Ag (Ac st [] (.t (.box p 3)) 0) (fun (x1:TV)=>Af .bool x1 (fun (b1:Bool)=>stB (st.push (.cells [.int .i64 0,(.str []),(.str []),.nilSlice,(.str [])]) (some 79)) (.box st.nb 0) [.int .i64 8,(.str []),(.str []),.nilSlice,(.str [])] (fun st1=>BIf (!b1) (CallT PR Bb [(.box p 0),.int .i64 2] [.one .bool] st1 (fun (b2:Bool) j2=>BIf (!b2) (Ag ((Aj j2 [] (.t (.box st.nb 0)) 0 5).map TV.agg) (fun (x2:TV)=>A1 [.int .i64,.str,.str,.tv,.str] x2 (fun (n1:Int) (s1 s2:B8) (v1:TV) (s3:B8)=>need (List.all [.int .i64 n1,.str s1,.str s2,v1,.str s3] Ap) (K n1 s1 s2 v1 s3 false j2)))) (∃(I1:TV->Int->Bool->TV->St->Prop) (M1:TV->Int->Bool->TV->St->Nat),(I1 ((.box p 0)) number b1 ((.box st.nb 0)) j2)/\∀d j m c x,I1 d j m c x->(BId ((0:Int)<j) (need (isPtr c) (Ag (Ac x [] (.t (Ao c 3)) 0) (fun (v2:TV)=>need (isSl v2) (need (isPtr d) (need (isPtr d) (Ag (Ac x [] (.t (Ao d 12)) 0) (fun (x4:TV)=>Af (.int .i64) x4 (fun (n2:Int)=>BId (n2<=(lenS v2:Int)) (Ag ((Aj x [] (.t c) 0 5).map TV.agg) (fun (x5:TV)=>A1 [.int .i64,.str,.str,.tv,.str] x5 (fun (n3:Int) (s4 s5:B8) (v3:TV) (s6:B8)=>need (isPtr d) (need (isPtr d) (Ag (Ac x [] (.t (Ao d 10)) 0) (fun (x6:TV)=>Af (.int .i64) x6 (fun (n4:Int)=>CallT PR Ak [d,.int .i64 n4,.int .i64 10] [.one .bool] x (fun (b3:Bool) z1=>(Aj z1 [] (.t c) 0 5=some [.int .i64 n3,.str s4,.str s5,v3,.str s6]/\need (List.all [.int .i64 n3,.str s4,.str s5,v3,.str s6] Ap) (K n3 s4 s5 v3 s6 b3 z1)))))))))) (CallT PR AN [d,.bool m] [.agg [.int .i64,.str,.str,.tv,.str],.one .bool] x (fun (n5:Int) (s7 s8:B8) (v4:TV) (s9:B8) (b4:Bool) f1=>need (List.all [.int .i64 n5,.str s7,.str s8,v4,.str s9] Ap) (BIf (!b4) (Ag ((Aj f1 [] (.t c) 0 5).map TV.agg) (fun (x7:TV)=>A1 [.int .i64,.str,.str,.tv,.str] x7 (fun (n6:Int) (s10 s11:B8) (v5:TV) (y6:B8)=>need (List.all [.int .i64 n6,.str s10,.str s11,v5,.str y6] Ap) (K n6 s10 s11 v5 y6 false f1)))) (need (isPtr c) (Ag (Ac f1 [] (.t (Ao c 3)) 0) (fun (v6:TV)=>need (isSl v6) (need (isPtr c) (need (List.all [.int .i64 n5,.str s7,.str s8,v4,.str s9] Ap) ((((lenS v6:Int)=(lenS v6:Int))/\AT 79 5 80 v6 1 [.int .i64 n5,.str s7,.str s8,v4,.str s9] f1 (fun (v7:TV) st6=>stB st6 (Ao c 3) [v7] (fun f2=>need (isSl v4) (BId ((lenS v4:Int)=(1:Int)) (need (isPtr d) (need (isPtr d) (Ag (Ac f2 [] (.t (Ao d 10)) 0) (fun (x9:TV)=>Af (.int .i64) x9 (fun (n7:Int)=>CallT PR AH [d,c] [.one .bool] f2 (fun (b5:Bool) w=>BIf (!b5) (Ag ((Aj w [] (.t c) 0 5).map TV.agg) (fun (x10:TV)=>A1 [.int .i64,.str,.str,.tv,.str] x10 (fun (n8:Int) (z4 s14:B8) (v8:TV) (y9:B8)=>need (List.all [.int .i64 n8,.str z4,.str s14,v8,.str y9] Ap) (K n8 z4 s14 v8 y9 false w)))) (BId (j=0) (need (isPtr c) (Ag (Ac w [] (.t (Ao c 3)) 0) (fun (v9:TV)=>need (isSl v9) (need (isPtr d) (need (isPtr d) (stB w (Ao d 12) [(.int .i64 (lenS v9:Int))] (fun a3=>need (isPtr c) (Ag (Ac a3 [] (.t (Ao c 3)) 0) (fun (v10:TV)=>need (isSl v10) (need (isPtr d) (need (isPtr d) (Ag (Ac a3 [] (.t (Ao d 12)) 0) (fun (x13:TV)=>Af (.int .i64) x13 (fun (n9:Int)=>BId ((lenS v10:Int)<n9) (Ag ((Aj a3 [] (.t c) 0 5).map TV.agg) (fun (x14:TV)=>A1 [.int .i64,.str,.str,.tv,.str] x14 (fun (f6:Int) (o0 p3:B8) (p5:TV) (m5:B8)=>CallT PR Ak [d,.int .i64 n7,.int .i64 10] [.one .bool] a3 (fun (b6:Bool) h5=>(Aj h5 [] (.t c) 0 5=some [.int .i64 f6,.str o0,.str p3,p5,.str m5]/\need (List.all [.int .i64 f6,.str o0,.str p3,p5,.str m5] Ap) (K f6 o0 p3 p5 m5 b6 h5)))))) (Ag ((Aj a3 [] (.t c) 0 5).map TV.agg) (fun (x15:TV)=>A1 [.int .i64,.str,.str,.tv,.str] x15 (fun (n11:Int) (z7 s20:B8) (v12:TV) (s21:B8)=>need (List.all [.int .i64 n11,.str z7,.str s20,v12,.str s21] Ap) (K n11 z7 s20 v12 s21 true a3)))))))))))))))))) (need (isPtr c) (Ag (Ac w [] (.t (Ao c 3)) 0) (fun (r9:TV)=>need (isSl r9) (need (isPtr d) (need (isPtr d) (Ag (Ac w [] (.t (Ao d 12)) 0) (fun (x17:TV)=>Af (.int .i64) x17 (fun (n12:Int)=>BId ((lenS r9:Int)<n12) (Ag ((Aj w [] (.t c) 0 5).map TV.agg) (fun (x18:TV)=>A1 [.int .i64,.str,.str,.tv,.str] x18 (fun (m2:Int) (m9 j1:B8) (l6:TV) (q9:B8)=>CallT PR Ak [d,.int .i64 n7,.int .i64 10] [.one .bool] w (fun (b7:Bool) l2=>(Aj l2 [] (.t c) 0 5=some [.int .i64 m2,.str m9,.str j1,l6,.str q9]/\need (List.all [.int .i64 m2,.str m9,.str j1,l6,.str q9] Ap) (K m2 m9 j1 l6 q9 b7 l2)))))) (Ag ((Aj w [] (.t c) 0 5).map TV.agg) (fun (x19:TV)=>A1 [.int .i64,.str,.str,.tv,.str] x19 (fun (u5:Int) (s25 s26:B8) (v15:TV) (t1:B8)=>need (List.all [.int .i64 u5,.str s25,.str s26,v15,.str t1] Ap) (K u5 s25 s26 v15 t1 true w))))))))))))))))))) ((I1 d j m c f2/\M1 d j m c f2<M1 d j m c x))))))))))))))))))))))) (CallT PR AN [d,.bool m] [.agg [.int .i64,.str,.str,.tv,.str],.one .bool] x (fun (l3:Int) (i4 h0:B8) (c5:TV) (i9:B8) (b8:Bool) b0=>need (List.all [.int .i64 l3,.str i4,.str h0,c5,.str i9] Ap) (BIf (!b8) (Ag ((Aj b0 [] (.t c) 0 5).map TV.agg) (fun (x20:TV)=>A1 [.int .i64,.str,.str,.tv,.str] x20 (fun (n16:Int) (s31 z0:B8) (v17:TV) (r8:B8)=>need (List.all [.int .i64 n16,.str s31,.str z0,v17,.str r8] Ap) (K n16 s31 z0 v17 r8 false b0)))) (need (isPtr c) (Ag (Ac b0 [] (.t (Ao c 3)) 0) (fun (f3:TV)=>need (isSl f3) (need (isPtr c) (need (List.all [.int .i64 l3,.str i4,.str h0,c5,.str i9] Ap) ((((lenS f3:Int)=(lenS f3:Int))/\AT 79 5 80 f3 1 [.int .i64 l3,.str i4,.str h0,c5,.str i9] b0 (fun (v19:TV) st13=>stB st13 (Ao c 3) [v19] (fun c2=>need (isSl c5) (BId ((lenS c5:Int)=(1:Int)) (need (isPtr d) (need (isPtr d) (Ag (Ac c2 [] (.t (Ao d 10)) 0) (fun (x22:TV)=>Af (.int .i64) x22 (fun (y5:Int)=>CallT PR AH [d,c] [.one .bool] c2 (fun (b9:Bool) s=>BIf (!b9) (Ag ((Aj s [] (.t c) 0 5).map TV.agg) (fun (x23:TV)=>A1 [.int .i64,.str,.str,.tv,.str] x23 (fun (n18:Int) (w9 x0:B8) (r6:TV) (s36:B8)=>need (List.all [.int .i64 n18,.str w9,.str x0,r6,.str s36] Ap) (K n18 w9 x0 r6 s36 false s)))) (BId (j=0) (need (isPtr c) (Ag (Ac s [] (.t (Ao c 3)) 0) (fun (v21:TV)=>need (isSl v21) (need (isPtr d) (need (isPtr d) (stB s (Ao d 12) [(.int .i64 (lenS v21:Int))] (fun z=>need (isPtr c) (Ag (Ac z [] (.t (Ao c 3)) 0) (fun (v22:TV)=>need (isSl v22) (need (isPtr d) (need (isPtr d) (Ag (Ac z [] (.t (Ao d 12)) 0) (fun (x26:TV)=>Af (.int .i64) x26 (fun (n19:Int)=>BId ((lenS v22:Int)<n19) (Ag ((Aj z [] (.t c) 0 5).map TV.agg) (fun (x27:TV)=>A1 [.int .i64,.str,.str,.tv,.str] x27 (fun (j7:Int) (j5 o1:B8) (l8:TV) (k0:B8)=>CallT PR Ak [d,.int .i64 y5,.int .i64 10] [.one .bool] z (fun (b10:Bool) f4=>(Aj f4 [] (.t c) 0 5=some [.int .i64 j7,.str j5,.str o1,l8,.str k0]/\need (List.all [.int .i64 j7,.str j5,.str o1,l8,.str k0] Ap) (K j7 j5 o1 l8 k0 b10 f4)))))) (Ag ((Aj z [] (.t c) 0 5).map TV.agg) (fun (x28:TV)=>A1 [.int .i64,.str,.str,.tv,.str] x28 (fun (n21:Int) (s40 s41:B8) (w1:TV) (r5:B8)=>need (List.all [.int .i64 n21,.str s40,.str s41,w1,.str r5] Ap) (K n21 s40 s41 w1 r5 true z)))))))))))))))))) (need (isPtr c) (Ag (Ac s [] (.t (Ao c 3)) 0) (fun (x8:TV)=>need (isSl x8) (need (isPtr d) (need (isPtr d) (Ag (Ac s [] (.t (Ao d 12)) 0) (fun (x30:TV)=>Af (.int .i64) x30 (fun (n22:Int)=>BId ((lenS x8:Int)<n22) (Ag ((Aj s [] (.t c) 0 5).map TV.agg) (fun (x31:TV)=>A1 [.int .i64,.str,.str,.tv,.str] x31 (fun (g1:Int) (p9 g3:B8) (h9:TV) (h6:B8)=>CallT PR Ak [d,.int .i64 y5,.int .i64 10] [.one .bool] s (fun (b11:Bool) h2=>(Aj h2 [] (.t c) 0 5=some [.int .i64 g1,.str p9,.str g3,h9,.str h6]/\need (List.all [.int .i64 g1,.str p9,.str g3,h9,.str h6] Ap) (K g1 p9 g3 h9 h6 b11 h2)))))) (Ag ((Aj s [] (.t c) 0 5).map TV.agg) (fun (x32:TV)=>A1 [.int .i64,.str,.str,.tv,.str] x32 (fun (u6:Int) (v0 s47:B8) (u1:TV) (s48:B8)=>need (List.all [.int .i64 u6,.str v0,.str s47,u1,.str s48] Ap) (K u6 v0 s47 u1 s48 true s))))))))))))))))))) ((I1 d j m c c2/\M1 d j m c c2<M1 d j m c x))))))))))))))))))) (∃(I2:TV->Int->Bool->TV->St->Prop) (M2:TV->Int->Bool->TV->St->Nat),(I2 ((.box p 0)) number b1 ((.box st.nb 0)) st1)/\∀e g k a q,I2 e g k a q->(BId ((0:Int)<g) (need (isPtr a) (Ag (Ac q [] (.t (Ao a 3)) 0) (fun (s0:TV)=>need (isSl s0) (need (isPtr e) (need (isPtr e) (Ag (Ac q [] (.t (Ao e 12)) 0) (fun (x34:TV)=>Af (.int .i64) x34 (fun (n25:Int)=>BId (n25<=(lenS s0:Int)) (Ag ((Aj q [] (.t a) 0 5).map TV.agg) (fun (x35:TV)=>A1 [.int .i64,.str,.str,.tv,.str] x35 (fun (i7:Int) (f5 q3:B8) (h3:TV) (q6:B8)=>need (isPtr e) (need (isPtr e) (Ag (Ac q [] (.t (Ao e 10)) 0) (fun (x36:TV)=>Af (.int .i64) x36 (fun (n27:Int)=>CallT PR Ak [e,.int .i64 n27,.int .i64 10] [.one .bool] q (fun (b12:Bool) p2=>(Aj p2 [] (.t a) 0 5=some [.int .i64 i7,.str f5,.str q3,h3,.str q6]/\need (List.all [.int .i64 i7,.str f5,.str q3,h3,.str q6] Ap) (K i7 f5 q3 h3 q6 b12 p2)))))))))) (CallT PR AN [e,.bool k] [.agg [.int .i64,.str,.str,.tv,.str],.one .bool] q (fun (i5:Int) (q4 n0:B8) (c3:TV) (l9:B8) (b13:Bool) a5=>need (List.all [.int .i64 i5,.str q4,.str n0,c3,.str l9] Ap) (BIf (!b13) (Ag ((Aj a5 [] (.t a) 0 5).map TV.agg) (fun (x37:TV)=>A1 [.int .i64,.str,.str,.tv,.str] x37 (fun (n29:Int) (s55 z9:B8) (u4:TV) (s57:B8)=>need (List.all [.int .i64 n29,.str s55,.str z9,u4,.str s57] Ap) (K n29 s55 z9 u4 s57 false a5)))) (need (isPtr a) (Ag (Ac a5 [] (.t (Ao a 3)) 0) (fun (e7:TV)=>need (isSl e7) (need (isPtr a) (need (List.all [.int .i64 i5,.str q4,.str n0,c3,.str l9] Ap) ((((lenS e7:Int)=(lenS e7:Int))/\AT 79 5 80 e7 1 [.int .i64 i5,.str q4,.str n0,c3,.str l9] a5 (fun (v33:TV) st22=>stB st22 (Ao a 3) [v33] (fun a6=>need (isSl c3) (BId ((lenS c3:Int)=(1:Int)) (need (isPtr e) (need (isPtr e) (Ag (Ac a6 [] (.t (Ao e 10)) 0) (fun (x39:TV)=>Af (.int .i64) x39 (fun (n30:Int)=>CallT PR AH [e,a] [.one .bool] a6 (fun (b14:Bool) u=>BIf (!b14) (Ag ((Aj u [] (.t a) 0 5).map TV.agg) (fun (x40:TV)=>A1 [.int .i64,.str,.str,.tv,.str] x40 (fun (w2:Int) (s58 s59:B8) (u3:TV) (y8:B8)=>need (List.all [.int .i64 w2,.str s58,.str s59,u3,.str y8] Ap) (K w2 s58 s59 u3 y8 false u)))) (BId (g=0) (need (isPtr a) (Ag (Ac u [] (.t (Ao a 3)) 0) (fun (v35:TV)=>need (isSl v35) (need (isPtr e) (need (isPtr e) (stB u (Ao e 12) [(.int .i64 (lenS v35:Int))] (fun a0=>need (isPtr a) (Ag (Ac a0 [] (.t (Ao a 3)) 0) (fun (t0:TV)=>need (isSl t0) (need (isPtr e) (need (isPtr e) (Ag (Ac a0 [] (.t (Ao e 12)) 0) (fun (x43:TV)=>Af (.int .i64) x43 (fun (n32:Int)=>BId ((lenS t0:Int)<n32) (Ag ((Aj a0 [] (.t a) 0 5).map TV.agg) (fun (x44:TV)=>A1 [.int .i64,.str,.str,.tv,.str] x44 (fun (q2:Int) (k3 i8:B8) (m7:TV) (h4:B8)=>CallT PR Ak [e,.int .i64 n30,.int .i64 10] [.one .bool] a0 (fun (b15:Bool) j6=>(Aj j6 [] (.t a) 0 5=some [.int .i64 q2,.str k3,.str i8,m7,.str h4]/\need (List.all [.int .i64 q2,.str k3,.str i8,m7,.str h4] Ap) (K q2 k3 i8 m7 h4 b15 j6)))))) (Ag ((Aj a0 [] (.t a) 0 5).map TV.agg) (fun (x45:TV)=>A1 [.int .i64,.str,.str,.tv,.str] x45 (fun (n34:Int) (u0 s65:B8) (w7:TV) (w5:B8)=>need (List.all [.int .i64 n34,.str u0,.str s65,w7,.str w5] Ap) (K n34 u0 s65 w7 w5 true a0)))))))))))))))))) (need (isPtr a) (Ag (Ac u [] (.t (Ao a 3)) 0) (fun (u2:TV)=>need (isSl u2) (need (isPtr e) (need (isPtr e) (Ag (Ac u [] (.t (Ao e 12)) 0) (fun (x47:TV)=>Af (.int .i64) x47 (fun (n35:Int)=>BId ((lenS u2:Int)<n35) (Ag ((Aj u [] (.t a) 0 5).map TV.agg) (fun (x48:TV)=>A1 [.int .i64,.str,.str,.tv,.str] x48 (fun (g6:Int) (g7 k6:B8) (m1:TV) (h1:B8)=>CallT PR Ak [e,.int .i64 n30,.int .i64 10] [.one .bool] u (fun (b16:Bool) o6=>(Aj o6 [] (.t a) 0 5=some [.int .i64 g6,.str g7,.str k6,m1,.str h1]/\need (List.all [.int .i64 g6,.str g7,.str k6,m1,.str h1] Ap) (K g6 g7 k6 m1 h1 b16 o6)))))) (Ag ((Aj u [] (.t a) 0 5).map TV.agg) (fun (x49:TV)=>A1 [.int .i64,.str,.str,.tv,.str] x49 (fun (n37:Int) (s70 z8:B8) (v41:TV) (s72:B8)=>need (List.all [.int .i64 n37,.str s70,.str z8,v41,.str s72] Ap) (K n37 s70 z8 v41 s72 true u))))))))))))))))))) ((I2 e g k a a6/\M2 e g k a a6<M2 e g k a q))))))))))))))))))))))) (CallT PR AN [e,.bool k] [.agg [.int .i64,.str,.str,.tv,.str],.one .bool] q (fun (o7:Int) (m4 p7:B8) (c4:TV) (p8:B8) (b17:Bool) a8=>need (List.all [.int .i64 o7,.str m4,.str p7,c4,.str p8] Ap) (BIf (!b17) (Ag ((Aj a8 [] (.t a) 0 5).map TV.agg) (fun (x50:TV)=>A1 [.int .i64,.str,.str,.tv,.str] x50 (fun (n39:Int) (s76 z3:B8) (y0:TV) (s78:B8)=>need (List.all [.int .i64 n39,.str s76,.str z3,y0,.str s78] Ap) (K n39 s76 z3 y0 s78 false a8)))) (need (isPtr a) (Ag (Ac a8 [] (.t (Ao a 3)) 0) (fun (f0:TV)=>need (isSl f0) (need (isPtr a) (need (List.all [.int .i64 o7,.str m4,.str p7,c4,.str p8] Ap) ((((lenS f0:Int)=(lenS f0:Int))/\AT 79 5 80 f0 1 [.int .i64 o7,.str m4,.str p7,c4,.str p8] a8 (fun (v45:TV) st29=>stB st29 (Ao a 3) [v45] (fun a7=>need (isSl c4) (BId ((lenS c4:Int)=(1:Int)) (need (isPtr e) (need (isPtr e) (Ag (Ac a7 [] (.t (Ao e 10)) 0) (fun (x52:TV)=>Af (.int .i64) x52 (fun (n40:Int)=>CallT PR AH [e,a] [.one .bool] a7 (fun (b18:Bool) n=>BIf (!b18) (Ag ((Aj n [] (.t a) 0 5).map TV.agg) (fun (x53:TV)=>A1 [.int .i64,.str,.str,.tv,.str] x53 (fun (n41:Int) (u8 s80:B8) (w4:TV) (s81:B8)=>need (List.all [.int .i64 n41,.str u8,.str s80,w4,.str s81] Ap) (K n41 u8 s80 w4 s81 false n)))) (BId (g=0) (need (isPtr a) (Ag (Ac n [] (.t (Ao a 3)) 0) (fun (v47:TV)=>need (isSl v47) (need (isPtr e) (need (isPtr e) (stB n (Ao e 12) [(.int .i64 (lenS v47:Int))] (fun y=>need (isPtr a) (Ag (Ac y [] (.t (Ao a 3)) 0) (fun (t9:TV)=>need (isSl t9) (need (isPtr e) (need (isPtr e) (Ag (Ac y [] (.t (Ao e 12)) 0) (fun (x56:TV)=>Af (.int .i64) x56 (fun (n42:Int)=>BId ((lenS t9:Int)<n42) (Ag ((Aj y [] (.t a) 0 5).map TV.agg) (fun (x57:TV)=>A1 [.int .i64,.str,.str,.tv,.str] x57 (fun (o2:Int) (m8 p4:B8) (g2:TV) (p0:B8)=>CallT PR Ak [e,.int .i64 n40,.int .i64 10] [.one .bool] y (fun (b19:Bool) h8=>(Aj h8 [] (.t a) 0 5=some [.int .i64 o2,.str m8,.str p4,g2,.str p0]/\need (List.all [.int .i64 o2,.str m8,.str p4,g2,.str p0] Ap) (K o2 m8 p4 g2 p0 b19 h8)))))) (Ag ((Aj y [] (.t a) 0 5).map TV.agg) (fun (x58:TV)=>A1 [.int .i64,.str,.str,.tv,.str] x58 (fun (w3:Int) (t4 s86:B8) (y7:TV) (w8:B8)=>need (List.all [.int .i64 w3,.str t4,.str s86,y7,.str w8] Ap) (K w3 t4 s86 y7 w8 true y)))))))))))))))))) (need (isPtr a) (Ag (Ac n [] (.t (Ao a 3)) 0) (fun (r7:TV)=>need (isSl r7) (need (isPtr e) (need (isPtr e) (Ag (Ac n [] (.t (Ao e 12)) 0) (fun (x60:TV)=>Af (.int .i64) x60 (fun (n45:Int)=>BId ((lenS r7:Int)<n45) (Ag ((Aj n [] (.t a) 0 5).map TV.agg) (fun (x61:TV)=>A1 [.int .i64,.str,.str,.tv,.str] x61 (fun (r3:Int) (f9 h7:B8) (r2:TV) (k4:B8)=>CallT PR Ak [e,.int .i64 n40,.int .i64 10] [.one .bool] n (fun (b20:Bool) i6=>(Aj i6 [] (.t a) 0 5=some [.int .i64 r3,.str f9,.str h7,r2,.str k4]/\need (List.all [.int .i64 r3,.str f9,.str h7,r2,.str k4] Ap) (K r3 f9 h7 r2 k4 b20 i6)))))) (Ag ((Aj n [] (.t a) 0 5).map TV.agg) (fun (x62:TV)=>A1 [.int .i64,.str,.str,.tv,.str] x62 (fun (n47:Int) (s91 u7:B8) (t7:TV) (t3:B8)=>need (List.all [.int .i64 n47,.str s91,.str u7,t7,.str t3] Ap) (K n47 s91 u7 t7 t3 true n))))))))))))))))))) ((I2 e g k a a7/\M2 e g k a a7<M2 e g k a q))))))))))))))))))))) (stB (st.push (.cells [.int .i64 0,(.str []),(.str []),.nilSlice,(.str [])]) (some 79)) (.box st.nb 0) [.int .i64 8,(.str []),(.str []),.nilSlice,(.str [])] (fun st35=>CallT PR Bb [(.box p 0),.int .i64 2] [.one .bool] st35 (fun (b21:Bool) e0=>BIf (!b21) (Ag ((Aj e0 [] (.t (.box st.nb 0)) 0 5).map TV.agg) (fun (x63:TV)=>A1 [.int .i64,.str,.str,.tv,.str] x63 (fun (t2:Int) (s94 y3:B8) (w6:TV) (s96:B8)=>need (List.all [.int .i64 t2,.str s94,.str y3,w6,.str s96] Ap) (K t2 s94 y3 w6 s96 false e0)))) (∃(I3:TV->Int->Bool->TV->St->Prop) (M3:TV->Int->Bool->TV->St->Nat),(I3 ((.box p 0)) number false ((.box st.nb 0)) e0)/\∀f i l b r,I3 f i l b r->(BId ((0:Int)<i) (need (isPtr b) (Ag (Ac r [] (.t (Ao b 3)) 0) (fun (v55:TV)=>need (isSl v55) (need (isPtr f) (need (isPtr f) (Ag (Ac r [] (.t (Ao f 12)) 0) (fun (x65:TV)=>Af (.int .i64) x65 (fun (n49:Int)=>BId (n49<=(lenS v55:Int)) (Ag ((Aj r [] (.t b) 0 5).map TV.agg) (fun (x66:TV)=>A1 [.int .i64,.str,.str,.tv,.str] x66 (fun (p1:Int) (p6 k2:B8) (q5:TV) (k5:B8)=>need (isPtr f) (need (isPtr f) (Ag (Ac r [] (.t (Ao f 10)) 0) (fun (x67:TV)=>Af (.int .i64) x67 (fun (n51:Int)=>CallT PR Ak [f,.int .i64 n51,.int .i64 10] [.one .bool] r (fun (b22:Bool) r1=>(Aj r1 [] (.t b) 0 5=some [.int .i64 p1,.str p6,.str k2,q5,.str k5]/\need (List.all [.int .i64 p1,.str p6,.str k2,q5,.str k5] Ap) (K p1 p6 k2 q5 k5 b22 r1)))))))))) (CallT PR AN [f,.bool l] [.agg [.int .i64,.str,.str,.tv,.str],.one .bool] r (fun (g9:Int) (d4 d1:B8) (c6:TV) (c8:B8) (b23:Bool) a4=>need (List.all [.int .i64 g9,.str d4,.str d1,c6,.str c8] Ap) (BIf (!b23) (Ag ((Aj a4 [] (.t b) 0 5).map TV.agg) (fun (x68:TV)=>A1 [.int .i64,.str,.str,.tv,.str] x68 (fun (y1:Int) (l7 q1:B8) (u9:TV) (l0:B8)=>need (List.all [.int .i64 y1,.str l7,.str q1,u9,.str l0] Ap) (K y1 l7 q1 u9 l0 false a4)))) (need (isPtr b) (Ag (Ac a4 [] (.t (Ao b 3)) 0) (fun (e9:TV)=>need (isSl e9) (need (isPtr b) (need (List.all [.int .i64 g9,.str d4,.str d1,c6,.str c8] Ap) ((((lenS e9:Int)=(lenS e9:Int))/\AT 79 5 80 e9 1 [.int .i64 g9,.str d4,.str d1,c6,.str c8] a4 (fun (v60:TV) st40=>stB st40 (Ao b 3) [v60] (fun a9=>need (isSl c6) (BId ((lenS c6:Int)=(1:Int)) (need (isPtr f) (need (isPtr f) (Ag (Ac a9 [] (.t (Ao f 10)) 0) (fun (x70:TV)=>Af (.int .i64) x70 (fun (z6:Int)=>CallT PR AH [f,b] [.one .bool] a9 (fun (b24:Bool) v=>BIf (!b24) (Ag ((Aj v [] (.t b) 0 5).map TV.agg) (fun (x71:TV)=>A1 [.int .i64,.str,.str,.tv,.str] x71 (fun (t8:Int) (q7 o3:B8) (x3:TV) (j0:B8)=>need (List.all [.int .i64 t8,.str q7,.str o3,x3,.str j0] Ap) (K t8 q7 o3 x3 j0 false v)))) (BId (i=0) (need (isPtr b) (Ag (Ac v [] (.t (Ao b 3)) 0) (fun (v62:TV)=>need (isSl v62) (need (isPtr f) (need (isPtr f) (stB v (Ao f 12) [(.int .i64 (lenS v62:Int))] (fun a1=>need (isPtr b) (Ag (Ac a1 [] (.t (Ao b 3)) 0) (fun (t5:TV)=>need (isSl t5) (need (isPtr f) (need (isPtr f) (Ag (Ac a1 [] (.t (Ao f 12)) 0) (fun (x74:TV)=>Af (.int .i64) x74 (fun (n56:Int)=>BId ((lenS t5:Int)<n56) (Ag ((Aj a1 [] (.t b) 0 5).map TV.agg) (fun (x75:TV)=>A1 [.int .i64,.str,.str,.tv,.str] x75 (fun (j9:Int) (c9 e1:B8) (q0:TV) (e3:B8)=>CallT PR Ak [f,.int .i64 z6,.int .i64 10] [.one .bool] a1 (fun (b25:Bool) g8=>(Aj g8 [] (.t b) 0 5=some [.int .i64 j9,.str c9,.str e1,q0,.str e3]/\need (List.all [.int .i64 j9,.str c9,.str e1,q0,.str e3] Ap) (K j9 c9 e1 q0 e3 b25 g8)))))) (Ag ((Aj a1 [] (.t b) 0 5).map TV.agg) (fun (x76:TV)=>A1 [.int .i64,.str,.str,.tv,.str] x76 (fun (n58:Int) (i2 o5:B8) (z5:TV) (k9:B8)=>need (List.all [.int .i64 n58,.str i2,.str o5,z5,.str k9] Ap) (K n58 i2 o5 z5 k9 true a1)))))))))))))))))) (need (isPtr b) (Ag (Ac v [] (.t (Ao b 3)) 0) (fun (y2:TV)=>need (isSl y2) (need (isPtr f) (need (isPtr f) (Ag (Ac v [] (.t (Ao f 12)) 0) (fun (x78:TV)=>Af (.int .i64) x78 (fun (n59:Int)=>BId ((lenS y2:Int)<n59) (Ag ((Aj v [] (.t b) 0 5).map TV.agg) (fun (x79:TV)=>A1 [.int .i64,.str,.str,.tv,.str] x79 (fun (j3:Int) (d8 d3:B8) (k8:TV) (d0:B8)=>CallT PR Ak [f,.int .i64 z6,.int .i64 10] [.one .bool] v (fun (b26:Bool) o9=>(Aj o9 [] (.t b) 0 5=some [.int .i64 j3,.str d8,.str d3,k8,.str d0]/\need (List.all [.int .i64 j3,.str d8,.str d3,k8,.str d0] Ap) (K j3 d8 d3 k8 d0 b26 o9)))))) (Ag ((Aj v [] (.t b) 0 5).map TV.agg) (fun (x80:TV)=>A1 [.int .i64,.str,.str,.tv,.str] x80 (fun (n61:Int) (g4 g5:B8) (r4:TV) (m6:B8)=>need (List.all [.int .i64 n61,.str g4,.str g5,r4,.str m6] Ap) (K n61 g4 g5 r4 m6 true v))))))))))))))))))) ((I3 f i l b a9/\M3 f i l b a9<M3 f i l b r))))))))))))))))))))))) (CallT PR AN [f,.bool l] [.agg [.int .i64,.str,.str,.tv,.str],.one .bool] r (fun (f7:Int) (e2 e5:B8) (c7:TV) (d6:B8) (b27:Bool) c1=>need (List.all [.int .i64 f7,.str e2,.str e5,c7,.str d6] Ap) (BIf (!b27) (Ag ((Aj c1 [] (.t b) 0 5).map TV.agg) (fun (x81:TV)=>A1 [.int .i64,.str,.str,.tv,.str] x81 (fun (n63:Int) (q8 r0:B8) (y4:TV) (f8:B8)=>need (List.all [.int .i64 n63,.str q8,.str r0,y4,.str f8] Ap) (K n63 q8 r0 y4 f8 false c1)))) (need (isPtr b) (Ag (Ac c1 [] (.t (Ao b 3)) 0) (fun (e8:TV)=>need (isSl e8) (need (isPtr b) (need (List.all [.int .i64 f7,.str e2,.str e5,c7,.str d6] Ap) ((((lenS e8:Int)=(lenS e8:Int))/\AT 79 5 80 e8 1 [.int .i64 f7,.str e2,.str e5,c7,.str d6] c1 (fun (v72:TV) st47=>stB st47 (Ao b 3) [v72] (fun c0=>need (isSl c7) (BId ((lenS c7:Int)=(1:Int)) (need (isPtr f) (need (isPtr f) (Ag (Ac c0 [] (.t (Ao f 10)) 0) (fun (x83:TV)=>Af (.int .i64) x83 (fun (t6:Int)=>CallT PR AH [f,b] [.one .bool] c0 (fun (b28:Bool) o=>BIf (!b28) (Ag ((Aj o [] (.t b) 0 5).map TV.agg) (fun (x84:TV)=>A1 [.int .i64,.str,.str,.tv,.str] x84 (fun (w0:Int) (j4 m3:B8) (v73:TV) (l1:B8)=>need (List.all [.int .i64 w0,.str j4,.str m3,v73,.str l1] Ap) (K w0 j4 m3 v73 l1 false o)))) (BId (i=0) (need (isPtr b) (Ag (Ac o [] (.t (Ao b 3)) 0) (fun (v74:TV)=>need (isSl v74) (need (isPtr f) (need (isPtr f) (stB o (Ao f 12) [(.int .i64 (lenS v74:Int))] (fun a2=>need (isPtr b) (Ag (Ac a2 [] (.t (Ao b 3)) 0) (fun (v75:TV)=>need (isSl v75) (need (isPtr f) (need (isPtr f) (Ag (Ac a2 [] (.t (Ao f 12)) 0) (fun (x87:TV)=>Af (.int .i64) x87 (fun (n66:Int)=>BId ((lenS v75:Int)<n66) (Ag ((Aj a2 [] (.t b) 0 5).map TV.agg) (fun (x88:TV)=>A1 [.int .i64,.str,.str,.tv,.str] x88 (fun (i0:Int) (e4 d5:B8) (i1:TV) (e6:B8)=>CallT PR Ak [f,.int .i64 t6,.int .i64 10] [.one .bool] a2 (fun (b29:Bool) k1=>(Aj k1 [] (.t b) 0 5=some [.int .i64 i0,.str e4,.str d5,i1,.str e6]/\need (List.all [.int .i64 i0,.str e4,.str d5,i1,.str e6] Ap) (K i0 e4 d5 i1 e6 b29 k1)))))) (Ag ((Aj a2 [] (.t b) 0 5).map TV.agg) (fun (x89:TV)=>A1 [.int .i64,.str,.str,.tv,.str] x89 (fun (n68:Int) (l4 o4:B8) (v77:TV) (g0:B8)=>need (List.all [.int .i64 n68,.str l4,.str o4,v77,.str g0] Ap) (K n68 l4 o4 v77 g0 true a2)))))))))))))))))) (need (isPtr b) (Ag (Ac o [] (.t (Ao b 3)) 0) (fun (z2:TV)=>need (isSl z2) (need (isPtr f) (need (isPtr f) (Ag (Ac o [] (.t (Ao f 12)) 0) (fun (x91:TV)=>Af (.int .i64) x91 (fun (n69:Int)=>BId ((lenS z2:Int)<n69) (Ag ((Aj o [] (.t b) 0 5).map TV.agg) (fun (x92:TV)=>A1 [.int .i64,.str,.str,.tv,.str] x92 (fun (k7:Int) (d9 d7:B8) (l5:TV) (d2:B8)=>CallT PR Ak [f,.int .i64 t6,.int .i64 10] [.one .bool] o (fun (b30:Bool) i3=>(Aj i3 [] (.t b) 0 5=some [.int .i64 k7,.str d9,.str d7,l5,.str d2]/\need (List.all [.int .i64 k7,.str d9,.str d7,l5,.str d2] Ap) (K k7 d9 d7 l5 d2 b30 i3)))))) (Ag ((Aj o [] (.t b) 0 5).map TV.agg) (fun (x93:TV)=>A1 [.int .i64,.str,.str,.tv,.str] x93 (fun (n71:Int) (j8 o8:B8) (v80:TV) (m0:B8)=>need (List.all [.int .i64 n71,.str j8,.str o8,v80,.str m0] Ap) (K n71 j8 o8 v80 m0 true o))))))))))))))))))) ((I3 f i l b c0/\M3 f i l b c0<M3 f i l b r))))))))))))))))))))):CallT PR Cf [(.box p 0),.int .i64 number] [.agg [.int .i64,.str,.str,.tv,.str],.one .bool] st K:=
 Ae (cfg:=⟨[4,8],[],[41,46,93]⟩) (h:=(.seq .none (.seq .none (.seq .none (.seq .none (.seq (.block (.loop ⟨[(0,.tv),(1,.int .i64),(6,.bool),(7,.tv)],[(4,0,0)],[(0,5)],[]⟩ .none)) .none)))))) mixed (fun _ _=>Tryz.call119 _ _) Tryz.func119 (by kernel_rfl) (by kernel_rfl) h
theorem Oh (n_0:Int) (f:B8) (i:B8) (a:TV) (g:B8) (depth:Int) (seen:Nat) (st:St) (K:Int->St->Prop) (h:BId ((192:Int)<depth) (K 9 st) (Ag (Ac st [] (.t (.box seen 0)) 0) (fun (x1:TV)=>Af (.int .i64) x1 (fun (n1:Int)=>stB st (.box seen 0) [(.int .i64 (i64.wrap (n1+(1:Int))))] (fun l=>Ag (Ac l [] (.t (.box seen 0)) 0) (fun (x2:TV)=>Af (.int .i64) x2 (fun (n2:Int)=>BId ((524288:Int)<n2) (K 10 l) (BId (n_0<1) (K 6 l) (BId ((12:Int)<=n_0) (K 6 l) (CallT PR Hr [.int .i64 n_0] [.one .bool] l (fun (b1:Bool) o=>BIf b1 (need (isSl a) (BId ((0:Int)<(lenS a:Int)) (K 1 o) (BId (g≠([]:B8)) (K 1 o) (need (isSl a) (∃(I1:Int->Int->TV->TV->Int->St->Prop) (M1:Int->Int->TV->TV->Int->St->Nat),(I1 0 depth ((.box seen 0)) a ((lenS a:Int)) o)/\∀f c e j i m,I1 f c e j i m->(BId (f<i) (((0<=f/\f<(lenZ 5 j:Int))/\Ag ((Aj m [] (.t (ixT 5 j f.toNat)) 0 5).map TV.agg) (fun (x3:TV)=>A1 [.int .i64,.str,.str,.tv,.str] x3 (fun (n3:Int) (s1 s2:B8) (v1:TV) (s3:B8)=>need (List.all [.int .i64 n3,.str s1,.str s2,v1,.str s3] Ap) (CallT PR Dq [(.agg [.int .i64 n3,.str s1,.str s2,v1,.str s3]),(.int .i64 (i64.wrap (c+(1:Int)))),e] [.one (.int .i64)] m (fun (n4:Int) p=>BId (n4≠0) (K n4 p) ((I1 ((i64.wrap (f+(1:Int)))) c e j i p/\M1 ((i64.wrap (f+(1:Int)))) c e j i p<M1 f c e j i m)))))))) (K 0 m))))))) (need (isSl a) (∃(I2:Int->Int->TV->TV->Int->St->Prop) (M2:Int->Int->TV->TV->Int->St->Nat),(I2 0 depth ((.box seen 0)) a ((lenS a:Int)) o)/\∀a b d k g n,I2 a b d k g n->(BId (a<g) (((0<=a/\a<(lenZ 5 k:Int))/\Ag ((Aj n [] (.t (ixT 5 k a.toNat)) 0 5).map TV.agg) (fun (x4:TV)=>A1 [.int .i64,.str,.str,.tv,.str] x4 (fun (n5:Int) (s4 s5:B8) (v2:TV) (s6:B8)=>need (List.all [.int .i64 n5,.str s4,.str s5,v2,.str s6] Ap) (CallT PR Dq [(.agg [.int .i64 n5,.str s4,.str s5,v2,.str s6]),(.int .i64 (i64.wrap (b+(1:Int)))),d] [.one (.int .i64)] n (fun (n6:Int) q=>BId (n6≠0) (K n6 q) ((I2 ((i64.wrap (a+(1:Int)))) b d k g q/\M2 ((i64.wrap (a+(1:Int)))) b d k g q<M2 a b d k g n)))))))) (K 0 n))))))))))))))):CallT PR Dq [(.agg [.int .i64 n_0,.str f,.str i,a,.str g]),.int .i64 depth,(.box seen 0)] [.one (.int .i64)] st K:=
 Ae (cfg:=⟨[3,8],[],[]⟩) (h:=(.seq .none (.seq .none (.seq .none (.seq .none (.seq .none (.seq (.seq .none (.block (.loop ⟨[(46,.int .i64),(1,.int .i64),(2,.tv),(44,.tv),(45,.int .i64)],[],[],[]⟩ .none))) .none))))))) mixed (fun _ _=>Tryz.call120 _ _) Tryz.func120 (by kernel_rfl) (by kernel_rfl) h
theorem QK (n_0:Int) (a:B8) (c:B8) (n_3:TV) (n_4:B8) (st:St) (K:Int->St->Prop) (h:need (isSl n_3) (∃(I1:Int->Int->TV->Int->St->Prop) (M1:Int->Int->TV->Int->St->Nat),(I1 ((i64.wrap ((i64.wrap ((a.length:Int)+(c.length:Int)))+(n_4.length:Int)))) 0 n_3 ((lenS n_3:Int)) st)/\∀b a d c e,I1 b a d c e->(BId (a<c) (((0<=a/\a<(lenZ 5 d:Int))/\Ag ((Aj e [] (.t (ixT 5 d a.toNat)) 0 5).map TV.agg) (fun (x1:TV)=>A1 [.int .i64,.str,.str,.tv,.str] x1 (fun (n1:Int) (s1 s2:B8) (v1:TV) (s3:B8)=>need (List.all [.int .i64 n1,.str s1,.str s2,v1,.str s3] Ap) (CallT PR F0 [(.agg [.int .i64 n1,.str s1,.str s2,v1,.str s3])] [.one (.int .i64)] e (fun (n2:Int) f=>(I1 ((i64.wrap (b+n2))) ((i64.wrap (a+(1:Int)))) d c f/\M1 ((i64.wrap (b+n2))) ((i64.wrap (a+(1:Int)))) d c f<M1 b a d c e))))))) (K b e)))):CallT PR F0 [(.agg [.int .i64 n_0,.str a,.str c,n_3,.str n_4])] [.one (.int .i64)] st K:=
 Ae (cfg:=⟨[1,5],[],[]⟩) (h:=(.seq .none (.seq .none (.seq (.seq .none (.block (.loop ⟨[(3,.int .i64),(20,.int .i64),(18,.tv),(19,.int .i64)],[],[],[]⟩ .none))) .none)))) mixed (fun _ _=>Tryz.call121 _ _) Tryz.func121 (by kernel_rfl) (by kernel_rfl) h
theorem Og (b:Nat) (n_0:Int) (a:B8) (c:B8) (n_3:TV) (n_4:B8) (st:St) (K:St->Prop) (h:CallT PR AO [(.box b 0),.str a] [.one (.int .i64),.one .tv] st (fun (n1:Int) (v1:TV) j=>CallT PR AO [(.box b 0),.str c] [.one (.int .i64),.one .tv] j (fun (n2:Int) (v2:TV) i=>need (isSl n_3) (∃(I1:Int->TV->TV->Int->Int->B8->B8->TV->B8->St->Prop) (M1:Int->TV->TV->Int->Int->B8->B8->TV->B8->St->Nat),(I1 0 ((.box b 0)) n_3 ((lenS n_3:Int)) n_0 a c n_3 n_4 i)/\∀a e d c n3 s1 s2 v3 s3 f,I1 a e d c n3 s1 s2 v3 s3 f->(BId (a<c) (((0<=a/\a<(lenZ 5 d:Int))/\Ag ((Aj f [] (.t (ixT 5 d a.toNat)) 0 5).map TV.agg) (fun (x1:TV)=>A1 [.int .i64,.str,.str,.tv,.str] x1 (fun (n4:Int) (s4 s5:B8) (v4:TV) (s6:B8)=>need (List.all [.int .i64 n4,.str s4,.str s5,v4,.str s6] Ap) (CallT PR Es [e,(.agg [.int .i64 n4,.str s4,.str s5,v4,.str s6])] [] f (fun (g:St)=>(I1 ((i64.wrap (a+(1:Int)))) e d c n3 s1 s2 v3 s3 g/\M1 ((i64.wrap (a+(1:Int)))) e d c n3 s1 s2 v3 s3 g<M1 a e d c n3 s1 s2 v3 s3 f))))))) (CallT PR AO [e,.str s3] [.one (.int .i64),.one .tv] f (fun (n5:Int) (v5:TV) k=>K k))))))):CallT PR Es [(.box b 0),(.agg [.int .i64 n_0,.str a,.str c,n_3,.str n_4])] [] st K:=
 Ae (cfg:=⟨[3,5],[],[]⟩) (h:=(.seq .none (.seq .none (.seq .none (.seq (.seq .none (.block (.loop ⟨[(17,.int .i64),(0,.tv),(15,.tv),(16,.int .i64)],[(3,0,0)],[(0,5)],[(0,0,.int .i64),(0,1,.str),(0,2,.str),(0,3,.tv),(0,4,.str)]⟩ .none))) .none))))) mixed (fun _ _=>Tryz.call122 _ _) Tryz.func122 (by kernel_rfl) (by kernel_rfl) h
theorem K3 (b:Int) (st:St) (K:Bool->St->Prop) (h:CallT PR EJ [.int .u8 b] [.one .bool] st (fun (b1:Bool) a=>BIf b1 (K true a) (BId ((48:Int)<=b) (BId (b<=57) (K true a) (BId (b=43) (K true a) (BId (b=45) (K true a) (BId (b=46) (K true a) (K ((decide (b=58))) a))))) (BId (b=43) (K true a) (BId (b=45) (K true a) (BId (b=46) (K true a) (K ((decide (b=58))) a))))))):CallT PR BB [.int .u8 b] [.one .bool] st K:=
 Ae (cfg:=⟨[],[],[]⟩) (h:= .none) mixed (fun _ _=>Tryz.call128 _ _) Tryz.func128 (by kernel_rfl) (by kernel_rfl) h
theorem Ik (c:Int) (st:St) (K:Bool->St->Prop) (h:CallT PR Ch [.int .u8 c] [.one .bool] st (fun (b1:Bool) b=>BIf (!b1) (CallT PR BJ [.int .u8 c] [.one .bool] b (fun (b2:Bool) a=>BIf (!b2) (BId (c≠43) (BId (c≠45) (BId (c≠46) (K ((decide (c≠58))) a) (K false a)) (K false a)) (K false a)) (K false a))) (K false b))):CallT PR A3 [.int .u8 c] [.one .bool] st K:=
 Ae (cfg:=⟨[],[],[]⟩) (h:= .none) mixed (fun _ _=>Tryz.call129 _ _) Tryz.func129 (by kernel_rfl) (by kernel_rfl) h
theorem G3 (src:B8) (l_0:Int) (l_1:Int) (l_2:Int) (l_3:Int) (l_4:Int) (st:St) (K:Int->Int->St->Prop) (h:CallT PR Cz [(.agg [.int .i64 l_0,.int .i64 l_1,.int .i64 l_2,.int .i64 l_3,.int .i64 l_4])] [.one .bool] st (fun (b1:Bool) a=>BIf (!b1) (K 0 1 a) (BId (l_2<(src.length:Int)) (K 0 10 a) (CallT PR Dg [.str src] [.one (.int .i64)] a (fun (n1:Int) b=>BId (n1<(src.length:Int)) (K n1 5 b) (K 0 0 b)))))):CallT PR DX [.str src,(.agg [.int .i64 l_0,.int .i64 l_1,.int .i64 l_2,.int .i64 l_3,.int .i64 l_4])] [.one (.int .i64),.one (.int .i64)] st K:=
 Ae (cfg:=⟨[3],[],[]⟩) (h:= .none) mixed (fun _ _=>Tryz.call130 _ _) Tryz.func130 (by kernel_rfl) (by kernel_rfl) h
theorem EU (x_0:B8) (x_1:Int) (x_2:Int) (x_3:Bool) (x_4:Bool) (x_5:Int) (x_6:Int) (x_7:Int) (x_8:Int) (x_9:Int) (x_10:Int) (x_11:Int) (x_12:Int) (x_13:Int) (depth:Int) (st:St) (K:B8->Int->Int->Bool->Bool->Int->Int->Int->Int->Int->Int->Int->Int->Int->St->Prop) (h:BId (x_5<depth) (CallT PR Ai [(.agg [.str x_0,.int .u8 x_1,.int .u8 x_2,.bool x_3,.bool x_4,.int .i64 x_5,.int .i64 x_6,.int .i64 x_7,.int .i64 x_8,.int .i64 x_9,.int .i64 x_10,.int .i64 x_11,.int .i64 x_12,.int .i64 x_13]),.int .i64 x_10,.int .i64 9] [.agg [.str,.int .u8,.int .u8,.bool,.bool,.int .i64,.int .i64,.int .i64,.int .i64,.int .i64,.int .i64,.int .i64,.int .i64,.int .i64]] st (fun (s1:B8) (n1 n2:Int) (b1 b2:Bool) (n3 n4 n5 n6 n7 n8 n9 o i:Int) j=>K s1 n1 n2 b1 b2 n3 n4 n5 n6 n7 n8 n9 o i j)) (BId (x_6<=x_11) (CallT PR Ai [(.agg [.str x_0,.int .u8 x_1,.int .u8 x_2,.bool x_3,.bool x_4,.int .i64 x_5,.int .i64 x_6,.int .i64 x_7,.int .i64 x_8,.int .i64 x_9,.int .i64 x_10,.int .i64 x_11,.int .i64 x_12,.int .i64 x_13]),.int .i64 x_10,.int .i64 10] [.agg [.str,.int .u8,.int .u8,.bool,.bool,.int .i64,.int .i64,.int .i64,.int .i64,.int .i64,.int .i64,.int .i64,.int .i64,.int .i64]] st (fun (s2:B8) (n k:Int) (b3 b4:Bool) (d a e c m p b l g:Int) f=>K s2 n k b3 b4 d a e c m p b l g f)) (K x_0 x_1 x_2 x_3 x_4 x_5 x_6 x_7 x_8 x_9 x_10 ((i64.wrap (x_11+(1:Int)))) x_12 x_13 st))):CallT PR AM [(.agg [.str x_0,.int .u8 x_1,.int .u8 x_2,.bool x_3,.bool x_4,.int .i64 x_5,.int .i64 x_6,.int .i64 x_7,.int .i64 x_8,.int .i64 x_9,.int .i64 x_10,.int .i64 x_11,.int .i64 x_12,.int .i64 x_13]),.int .i64 depth] [.agg [.str,.int .u8,.int .u8,.bool,.bool,.int .i64,.int .i64,.int .i64,.int .i64,.int .i64,.int .i64,.int .i64,.int .i64,.int .i64]] st K:=
 Ae (cfg:=⟨[2,4],[],[]⟩) (h:= .none) mixed (fun _ _=>Tryz.call131 _ _) Tryz.func131 (by kernel_rfl) (by kernel_rfl) h
theorem G2 (x_0:B8) (x_1:Int) (x_2:Int) (x_3:Bool) (x_4:Bool) (x_5:Int) (x_6:Int) (x_7:Int) (x_8:Int) (x_9:Int) (x_10:Int) (x_11:Int) (x_12:Int) (x_13:Int) (many:Int) (header:Bool) (st:St) (K:B8->Int->Int->Bool->Bool->Int->Int->Int->Int->Int->Int->Int->Int->Int->Int->B8->B8->TV->B8->Int->St->Prop) (h:∃(C1:Int->Bool->TV->B8->Int->Int->Bool->Bool->Int->Int->Int->Int->Int->Int->Int->Int->Int->Int->B8->B8->TV->B8->St->Prop),(BIf (!header) (CallT PR AM [(.agg [.str x_0,.int .u8 x_1,.int .u8 x_2,.bool x_3,.bool x_4,.int .i64 x_5,.int .i64 x_6,.int .i64 x_7,.int .i64 x_8,.int .i64 x_9,.int .i64 x_10,.int .i64 x_11,.int .i64 x_12,.int .i64 x_13]),.int .i64 2] [.agg [.str,.int .u8,.int .u8,.bool,.bool,.int .i64,.int .i64,.int .i64,.int .i64,.int .i64,.int .i64,.int .i64,.int .i64,.int .i64]] st (fun (s1:B8) (n1 n2:Int) (b1 b2:Bool) (n3 n4 n5 n6 n7 n8 n9 n10 n11:Int) st1=>C1 many header .nilSlice s1 n1 n2 b1 b2 n3 n4 n5 n6 n7 n8 n9 n10 n11 8 [] [] .nilSlice [] st1)) (C1 many header .nilSlice x_0 x_1 x_2 x_3 x_4 x_5 x_6 x_7 x_8 x_9 x_10 x_11 x_12 x_13 8 [] [] .nilSlice [] st))/\∀t7 p3 q2 s2 n12 n13 b3 b4 n14 n15 n16 n17 n18 n19 n20 n21 n22 n23 s3 s4 v1 s5 st2,C1 t7 p3 q2 s2 n12 n13 b3 b4 n14 n15 n16 n17 n18 n19 n20 n21 n22 n23 s3 s4 v1 s5 st2->(∃(I1:TV->Int->Int->Bool->B8->Int->Int->Bool->Bool->Int->Int->Int->Int->Int->Int->Int->Int->Int->Int->B8->B8->TV->B8->St->Prop) (M1:TV->Int->Int->Bool->B8->Int->Int->Bool->Bool->Int->Int->Int->Int->Int->Int->Int->Int->Int->Int->B8->B8->TV->B8->St->Nat),(I1 q2 0 t7 p3 s2 n12 n13 b3 b4 n14 n15 n16 n17 n18 n19 n20 n21 n22 n23 s3 s4 v1 s5 st2)/\∀w h2 u m s6 e0 f6 b5 b6 e3 e9 e1 g0 g4 b0 d9 g8 c9 c3 s7 s8 v2 s9 f9,I1 w h2 u m s6 e0 f6 b5 b6 e3 e9 e1 g0 g4 b0 d9 g8 c9 c3 s7 s8 v2 s9 f9->(BId (c9=0) (BId ((0:Int)<u) (BId (h2=u) (CallT PR Ai [(.agg [.str s6,.int .u8 e0,.int .u8 f6,.bool b5,.bool b6,.int .i64 e3,.int .i64 e9,.int .i64 e1,.int .i64 g0,.int .i64 g4,.int .i64 b0,.int .i64 d9,.int .i64 g8,.int .i64 c9]),.int .i64 b0,.int .i64 10] [.agg [.str,.int .u8,.int .u8,.bool,.bool,.int .i64,.int .i64,.int .i64,.int .i64,.int .i64,.int .i64,.int .i64,.int .i64,.int .i64]] f9 (fun (s10:B8) (n36 n37:Int) (b7 b8:Bool) (n38 n39 n40 n41 n42 n43 n44 n45 n46:Int) st4=>need (List.all [.int .i64 c3,.str s7,.str s8,v2,.str s9] Ap) (K s10 n36 n37 b7 b8 n38 n39 n40 n41 n42 n43 n44 n45 n46 c3 s7 s8 v2 s9 0 st4))) (∃(C2:Int->Bool->TV->Int->Int->B8->Int->Int->Bool->Bool->Int->Int->Int->Int->Int->Int->Int->Int->Int->Int->B8->B8->TV->B8->St->Prop),(BIf (!m) (CallT PR AM [(.agg [.str s6,.int .u8 e0,.int .u8 f6,.bool b5,.bool b6,.int .i64 e3,.int .i64 e9,.int .i64 e1,.int .i64 g0,.int .i64 g4,.int .i64 b0,.int .i64 d9,.int .i64 g8,.int .i64 c9]),.int .i64 3] [.agg [.str,.int .u8,.int .u8,.bool,.bool,.int .i64,.int .i64,.int .i64,.int .i64,.int .i64,.int .i64,.int .i64,.int .i64,.int .i64]] f9 (fun (s11:B8) (n47 n48:Int) (b9 b10:Bool) (n49 n50 n51 n52 n53 n54 n55 n56 n57:Int) st5=>C2 u m w h2 b0 s11 n47 n48 b9 b10 n49 n50 n51 n52 n53 n54 n55 n56 n57 c3 s7 s8 v2 s9 st5)) (C2 u m w h2 b0 s6 e0 f6 b5 b6 e3 e9 e1 g0 g4 b0 d9 g8 c9 c3 s7 s8 v2 s9 f9))/\∀c6 x c0 p6 a5 s12 n58 n59 b11 b12 n60 n61 n62 n63 n64 n65 n66 n67 n68 r4 q8 r1 v3 q6 st6,C2 c6 x c0 p6 a5 s12 n58 n59 b11 b12 n60 n61 n62 n63 n64 n65 n66 n67 n68 r4 q8 r1 v3 q6 st6->(CallT PR BV [(.agg [.str s12,.int .u8 n58,.int .u8 n59,.bool b11,.bool b12,.int .i64 n60,.int .i64 n61,.int .i64 n62,.int .i64 n63,.int .i64 n64,.int .i64 n65,.int .i64 n66,.int .i64 n67,.int .i64 n68])] [.agg [.str,.int .u8,.int .u8,.bool,.bool,.int .i64,.int .i64,.int .i64,.int .i64,.int .i64,.int .i64,.int .i64,.int .i64,.int .i64],.one .str] st6 (fun (u6:B8) (q7 r6:Int) (q9 q3:Bool) (t8 u4 w3 t0 u9 t3 v0 t4 w1:Int) (r5:B8) st7=>CallT PR Bc [.str r5,(.agg [.int .u8 q7,.int .u8 r6,.bool q9,.bool q3])] [.one .str] st7 (fun (l4:B8) t6=>∃(C3:Int->Bool->TV->Int->Int->B8->B8->B8->Int->Int->Bool->Bool->Int->Int->Int->Int->Int->Int->Int->Int->Int->Int->B8->B8->TV->B8->St->Prop),(BIf x (BId ((1024:Int)<(l4.length:Int)) (CallT PR Ai [(.agg [.str u6,.int .u8 q7,.int .u8 r6,.bool q9,.bool q3,.int .i64 t8,.int .i64 u4,.int .i64 w3,.int .i64 t0,.int .i64 u9,.int .i64 t3,.int .i64 v0,.int .i64 t4,.int .i64 w1]),.int .i64 a5,.int .i64 10] [.agg [.str,.int .u8,.int .u8,.bool,.bool,.int .i64,.int .i64,.int .i64,.int .i64,.int .i64,.int .i64,.int .i64,.int .i64,.int .i64]] t6 (fun (s19:B8) (n81 n82:Int) (b15 b16:Bool) (n83 n84 n85 n86 n87 n88 n89 n90 n91:Int) st9=>C3 c6 x c0 p6 a5 r5 l4 s19 n81 n82 b15 b16 n83 n84 n85 n86 n87 n88 n89 n90 n91 r4 q8 r1 v3 q6 st9)) (BId ((65536:Int)<(l4.length:Int)) (CallT PR Ai [(.agg [.str u6,.int .u8 q7,.int .u8 r6,.bool q9,.bool q3,.int .i64 t8,.int .i64 u4,.int .i64 w3,.int .i64 t0,.int .i64 u9,.int .i64 t3,.int .i64 v0,.int .i64 t4,.int .i64 w1]),.int .i64 a5,.int .i64 10] [.agg [.str,.int .u8,.int .u8,.bool,.bool,.int .i64,.int .i64,.int .i64,.int .i64,.int .i64,.int .i64,.int .i64,.int .i64,.int .i64]] t6 (fun (s20:B8) (n92 n93:Int) (b17 b18:Bool) (n94 n95 n96 n97 n98 n99 n100 n101 n102:Int) st10=>C3 c6 x c0 p6 a5 r5 l4 s20 n92 n93 b17 b18 n94 n95 n96 n97 n98 n99 n100 n101 n102 r4 q8 r1 v3 q6 st10)) (C3 c6 x c0 p6 a5 r5 l4 u6 q7 r6 q9 q3 t8 u4 w3 t0 u9 t3 v0 t4 w1 r4 q8 r1 v3 q6 t6))) (BId ((65536:Int)<(l4.length:Int)) (CallT PR Ai [(.agg [.str u6,.int .u8 q7,.int .u8 r6,.bool q9,.bool q3,.int .i64 t8,.int .i64 u4,.int .i64 w3,.int .i64 t0,.int .i64 u9,.int .i64 t3,.int .i64 v0,.int .i64 t4,.int .i64 w1]),.int .i64 a5,.int .i64 10] [.agg [.str,.int .u8,.int .u8,.bool,.bool,.int .i64,.int .i64,.int .i64,.int .i64,.int .i64,.int .i64,.int .i64,.int .i64,.int .i64]] t6 (fun (s21:B8) (n103 n104:Int) (b19 b20:Bool) (n105 n106 n107 n108 n109 n110 n111 n112 n113:Int) st11=>C3 c6 x c0 p6 a5 r5 l4 s21 n103 n104 b19 b20 n105 n106 n107 n108 n109 n110 n111 n112 n113 r4 q8 r1 v3 q6 st11)) (C3 c6 x c0 p6 a5 r5 l4 u6 q7 r6 q9 q3 t8 u4 w3 t0 u9 t3 v0 t4 w1 r4 q8 r1 v3 q6 t6)))/\∀w0 m8 q0 k_3 u3 s_1 t_1 s22 x3 w9 b21 b22 n116 n117 w6 n119 z4 n121 n122 n123 y1 y6 s23 s24 v4 s25 st12,C3 w0 m8 q0 k_3 u3 s_1 t_1 s22 x3 w9 b21 b22 n116 n117 w6 n119 z4 n121 n122 n123 y1 y6 s23 s24 v4 s25 st12->(∃(I2:Int->Int->Bool->TV->Int->Int->B8->B8->B8->Int->Int->Bool->Bool->Int->Int->Int->Int->Int->Int->Int->Int->Int->Int->B8->B8->TV->B8->St->Prop) (M2:Int->Int->Bool->TV->Int->Int->B8->B8->B8->Int->Int->Bool->Bool->Int->Int->Int->Int->Int->Int->Int->Int->Int->Int->B8->B8->TV->B8->St->Nat),(I2 0 w0 m8 q0 k_3 u3 s_1 t_1 s22 x3 w9 b21 b22 n116 n117 w6 n119 z4 n121 n122 n123 y1 y6 s23 s24 v4 s25 st12)/\∀h0 p i k a4 a7 c2 h4 l6 d0 d1 l7 l1 f1 g6 e8 f8 d2 e6 e2 e7 d7 f l n v5 s c7,I2 h0 p i k a4 a7 c2 h4 l6 d0 d1 l7 l1 f1 g6 e8 f8 d2 e6 e2 e7 d7 f l n v5 s c7->(BIf i (need (isSl k) (BId (h0<(lenS k:Int)) (((0<=h0/\h0<(lenZ 1 k:Int))/\Ag (Ac c7 [] (.t (ixT 1 k h0.toNat)) 0) (fun (x1:TV)=>Af .str x1 (fun (s30:B8)=>BId (s30=h4) (CallT PR Ai [(.agg [.str l6,.int .u8 d0,.int .u8 d1,.bool l7,.bool l1,.int .i64 f1,.int .i64 g6,.int .i64 e8,.int .i64 f8,.int .i64 d2,.int .i64 e6,.int .i64 e2,.int .i64 e7,.int .i64 d7]),.int .i64 a7,.int .i64 8] [.agg [.str,.int .u8,.int .u8,.bool,.bool,.int .i64,.int .i64,.int .i64,.int .i64,.int .i64,.int .i64,.int .i64,.int .i64,.int .i64]] c7 (fun (s31:B8) (n138 n139:Int) (b25 b26:Bool) (n140 z9 n142 z5 n144 y4 n146 n147 n148:Int) st14=>(I2 ((i64.wrap (h0+(1:Int)))) p i k a4 a7 c2 h4 s31 n138 n139 b25 b26 n140 z9 n142 z5 n144 y4 n146 n147 n148 f l n v5 s st14/\M2 ((i64.wrap (h0+(1:Int)))) p i k a4 a7 c2 h4 s31 n138 n139 b25 b26 n140 z9 n142 z5 n144 y4 n146 n147 n148 f l n v5 s st14<M2 h0 p i k a4 a7 c2 h4 l6 d0 d1 l7 l1 f1 g6 e8 f8 d2 e6 e2 e7 d7 f l n v5 s c7))) ((I2 ((i64.wrap (h0+(1:Int)))) p i k a4 a7 c2 h4 l6 d0 d1 l7 l1 f1 g6 e8 f8 d2 e6 e2 e7 d7 f l n v5 s c7/\M2 ((i64.wrap (h0+(1:Int)))) p i k a4 a7 c2 h4 l6 d0 d1 l7 l1 f1 g6 e8 f8 d2 e6 e2 e7 d7 f l n v5 s c7<M2 h0 p i k a4 a7 c2 h4 l6 d0 d1 l7 l1 f1 g6 e8 f8 d2 e6 e2 e7 d7 f l n v5 s c7)))))) (AT 9 1 16 k 1 [.str h4] c7 (fun (v6:TV) st15=>CallT PR AS [(.agg [.str l6,.int .u8 d0,.int .u8 d1,.bool l7,.bool l1,.int .i64 f1,.int .i64 g6,.int .i64 e8,.int .i64 f8,.int .i64 d2,.int .i64 e6,.int .i64 e2,.int .i64 e7,.int .i64 d7])] [.agg [.str,.int .u8,.int .u8,.bool,.bool,.int .i64,.int .i64,.int .i64,.int .i64,.int .i64,.int .i64,.int .i64,.int .i64,.int .i64]] st15 (fun (a1:B8) (e4 i9:Int) (m6 o1:Bool) (h9 j5 j7 i3 j1 b j4 i2 d3:Int) r7=>BId (d3≠0) (need (List.all [.int .i64 f,.str l,.str n,v5,.str s] Ap) (K a1 e4 i9 m6 o1 h9 j5 j7 i3 j1 b j4 i2 d3 f l n v5 s 0 r7)) (BId (b<(a1.length:Int)) (((0<=b/\b<(a1.length:Int))/\BId (((List.getD a1 b.toNat 0).toNat:Int)=e4) (((0<=b/\b<=(i64.wrap (b+(1:Int)))/\(i64.wrap (b+(1:Int)))<=(a1.length:Int))/\AT 79 5 80 (.list 5 .full 1 [.int .i64 2,(.str []),.str c2,.nilSlice,(.str [])]) 1 [.int .i64 11,(.str []),(.str (List.drop b.toNat (List.take (Int.toNat (i64.wrap (b+(1:Int)))) a1))),.nilSlice,(.str [])] r7 (fun (v7:TV) st17=>need (List.all [v7] Ap) (need (List.all [.int .i64 5,(.str []),(.str []),v7,(.str [])] Ap) (AT 79 5 80 v5 1 [.int .i64 5,(.str []),(.str []),v7,(.str [])] st17 (fun (v8:TV) x9=>need (List.all [v8] Ap) ((I1 v6 ((i64.wrap (a4+(1:Int)))) p i a1 e4 i9 m6 o1 h9 j5 j7 i3 j1 ((i64.wrap (b+(1:Int)))) j4 i2 d3 f l n v8 s x9/\M1 v6 ((i64.wrap (a4+(1:Int)))) p i a1 e4 i9 m6 o1 h9 j5 j7 i3 j1 ((i64.wrap (b+(1:Int)))) j4 i2 d3 f l n v8 s x9<M1 w h2 u m s6 e0 f6 b5 b6 e3 e9 e1 g0 g4 b0 d9 g8 c9 c3 s7 s8 v2 s9 f9)))))))) (AT 79 5 80 v5 1 [.int .i64 5,(.str []),(.str []),(.list 5 .full 1 [.int .i64 2,(.str []),.str c2,.nilSlice,(.str [])]),(.str [])] r7 (fun (v9:TV) z1=>need (List.all [v9] Ap) (BId ((i64.wrap (a4+(1:Int)))<p) (CallT PR Ai [(.agg [.str a1,.int .u8 e4,.int .u8 i9,.bool m6,.bool o1,.int .i64 h9,.int .i64 j5,.int .i64 j7,.int .i64 i3,.int .i64 j1,.int .i64 b,.int .i64 j4,.int .i64 i2,.int .i64 d3]),.int .i64 b,.int .i64 10] [.agg [.str,.int .u8,.int .u8,.bool,.bool,.int .i64,.int .i64,.int .i64,.int .i64,.int .i64,.int .i64,.int .i64,.int .i64,.int .i64]] z1 (fun (s33:B8) (n160 n161:Int) (b29 b30:Bool) (n162 n163 n164 n165 n166 n167 n168 n169 n170:Int) st20=>need (List.all [.int .i64 f,.str l,.str n,v9,.str s] Ap) (K s33 n160 n161 b29 b30 n162 n163 n164 n165 n166 n167 n168 n169 n170 f l n v9 s 0 st20))) (CallT PR AD [.str a1,.int .i64 b] [.one (.int .i64)] z1 (fun (p1:Int) st21=>((0<=b/\b<=(i64.wrap (b+p1))/\(i64.wrap (b+p1))<=(a1.length:Int))/\need (List.all [.int .i64 f,.str l,.str n,v9,(.str (List.drop b.toNat (List.take (Int.toNat (i64.wrap (b+p1))) a1)))] Ap) (K a1 e4 i9 m6 o1 h9 j5 j7 i3 j1 ((i64.wrap (b+p1))) j4 i2 d3 f l n v9 ((List.drop b.toNat (List.take (Int.toNat (i64.wrap (b+p1))) a1))) ((i64.wrap (a4+(1:Int)))) st21))))))))) (AT 79 5 80 v5 1 [.int .i64 5,(.str []),(.str []),(.list 5 .full 1 [.int .i64 2,(.str []),.str c2,.nilSlice,(.str [])]),(.str [])] r7 (fun (u2:TV) st22=>need (List.all [u2] Ap) (BId ((i64.wrap (a4+(1:Int)))<p) (CallT PR Ai [(.agg [.str a1,.int .u8 e4,.int .u8 i9,.bool m6,.bool o1,.int .i64 h9,.int .i64 j5,.int .i64 j7,.int .i64 i3,.int .i64 j1,.int .i64 b,.int .i64 j4,.int .i64 i2,.int .i64 d3]),.int .i64 b,.int .i64 10] [.agg [.str,.int .u8,.int .u8,.bool,.bool,.int .i64,.int .i64,.int .i64,.int .i64,.int .i64,.int .i64,.int .i64,.int .i64,.int .i64]] st22 (fun (s34:B8) (n172 n173:Int) (b31 b32:Bool) (n174 n175 n176 n177 n178 n179 n180 n181 n182:Int) st23=>need (List.all [.int .i64 f,.str l,.str n,u2,.str s] Ap) (K s34 n172 n173 b31 b32 n174 n175 n176 n177 n178 n179 n180 n181 n182 f l n u2 s 0 st23))) (CallT PR AD [.str a1,.int .i64 b] [.one (.int .i64)] st22 (fun (m2:Int) st24=>((0<=b/\b<=(i64.wrap (b+m2))/\(i64.wrap (b+m2))<=(a1.length:Int))/\need (List.all [.int .i64 f,.str l,.str n,u2,(.str (List.drop b.toNat (List.take (Int.toNat (i64.wrap (b+m2))) a1)))] Ap) (K a1 e4 i9 m6 o1 h9 j5 j7 i3 j1 ((i64.wrap (b+m2))) j4 i2 d3 f l n u2 ((List.drop b.toNat (List.take (Int.toNat (i64.wrap (b+m2))) a1))) ((i64.wrap (a4+(1:Int)))) st24))))))))))))) (AT 9 1 16 k 1 [.str h4] c7 (fun (v11:TV) st25=>CallT PR AS [(.agg [.str l6,.int .u8 d0,.int .u8 d1,.bool l7,.bool l1,.int .i64 f1,.int .i64 g6,.int .i64 e8,.int .i64 f8,.int .i64 d2,.int .i64 e6,.int .i64 e2,.int .i64 e7,.int .i64 d7])] [.agg [.str,.int .u8,.int .u8,.bool,.bool,.int .i64,.int .i64,.int .i64,.int .i64,.int .i64,.int .i64,.int .i64,.int .i64,.int .i64]] st25 (fun (a0:B8) (g1 j8:Int) (m9 p0:Bool) (i8 h5 i7 j6 k5 c j3 k6 d6:Int) r9=>BId (d6≠0) (need (List.all [.int .i64 f,.str l,.str n,v5,.str s] Ap) (K a0 g1 j8 m9 p0 i8 h5 i7 j6 k5 c j3 k6 d6 f l n v5 s 0 r9)) (BId (c<(a0.length:Int)) (((0<=c/\c<(a0.length:Int))/\BId (((List.getD a0 c.toNat 0).toNat:Int)=g1) (((0<=c/\c<=(i64.wrap (c+(1:Int)))/\(i64.wrap (c+(1:Int)))<=(a0.length:Int))/\AT 79 5 80 (.list 5 .full 1 [.int .i64 2,(.str []),.str c2,.nilSlice,(.str [])]) 1 [.int .i64 11,(.str []),(.str (List.drop c.toNat (List.take (Int.toNat (i64.wrap (c+(1:Int)))) a0))),.nilSlice,(.str [])] r9 (fun (v12:TV) st27=>need (List.all [v12] Ap) (need (List.all [.int .i64 5,(.str []),(.str []),v12,(.str [])] Ap) (AT 79 5 80 v5 1 [.int .i64 5,(.str []),(.str []),v12,(.str [])] st27 (fun (w8:TV) st28=>need (List.all [w8] Ap) ((I1 v11 ((i64.wrap (a4+(1:Int)))) p i a0 g1 j8 m9 p0 i8 h5 i7 j6 k5 ((i64.wrap (c+(1:Int)))) j3 k6 d6 f l n w8 s st28/\M1 v11 ((i64.wrap (a4+(1:Int)))) p i a0 g1 j8 m9 p0 i8 h5 i7 j6 k5 ((i64.wrap (c+(1:Int)))) j3 k6 d6 f l n w8 s st28<M1 w h2 u m s6 e0 f6 b5 b6 e3 e9 e1 g0 g4 b0 d9 g8 c9 c3 s7 s8 v2 s9 f9)))))))) (AT 79 5 80 v5 1 [.int .i64 5,(.str []),(.str []),(.list 5 .full 1 [.int .i64 2,(.str []),.str c2,.nilSlice,(.str [])]),(.str [])] r9 (fun (t9:TV) y2=>need (List.all [t9] Ap) (BId ((i64.wrap (a4+(1:Int)))<p) (CallT PR Ai [(.agg [.str a0,.int .u8 g1,.int .u8 j8,.bool m9,.bool p0,.int .i64 i8,.int .i64 h5,.int .i64 i7,.int .i64 j6,.int .i64 k5,.int .i64 c,.int .i64 j3,.int .i64 k6,.int .i64 d6]),.int .i64 c,.int .i64 10] [.agg [.str,.int .u8,.int .u8,.bool,.bool,.int .i64,.int .i64,.int .i64,.int .i64,.int .i64,.int .i64,.int .i64,.int .i64,.int .i64]] y2 (fun (s36:B8) (n195 n196:Int) (b35 b36:Bool) (n197 n198 n199 n200 n201 n202 n203 n204 n205:Int) st30=>need (List.all [.int .i64 f,.str l,.str n,t9,.str s] Ap) (K s36 n195 n196 b35 b36 n197 n198 n199 n200 n201 n202 n203 n204 n205 f l n t9 s 0 st30))) (CallT PR AD [.str a0,.int .i64 c] [.one (.int .i64)] y2 (fun (m5:Int) st31=>((0<=c/\c<=(i64.wrap (c+m5))/\(i64.wrap (c+m5))<=(a0.length:Int))/\need (List.all [.int .i64 f,.str l,.str n,t9,(.str (List.drop c.toNat (List.take (Int.toNat (i64.wrap (c+m5))) a0)))] Ap) (K a0 g1 j8 m9 p0 i8 h5 i7 j6 k5 ((i64.wrap (c+m5))) j3 k6 d6 f l n t9 ((List.drop c.toNat (List.take (Int.toNat (i64.wrap (c+m5))) a0))) ((i64.wrap (a4+(1:Int)))) st31))))))))) (AT 79 5 80 v5 1 [.int .i64 5,(.str []),(.str []),(.list 5 .full 1 [.int .i64 2,(.str []),.str c2,.nilSlice,(.str [])]),(.str [])] r9 (fun (u5:TV) x8=>need (List.all [u5] Ap) (BId ((i64.wrap (a4+(1:Int)))<p) (CallT PR Ai [(.agg [.str a0,.int .u8 g1,.int .u8 j8,.bool m9,.bool p0,.int .i64 i8,.int .i64 h5,.int .i64 i7,.int .i64 j6,.int .i64 k5,.int .i64 c,.int .i64 j3,.int .i64 k6,.int .i64 d6]),.int .i64 c,.int .i64 10] [.agg [.str,.int .u8,.int .u8,.bool,.bool,.int .i64,.int .i64,.int .i64,.int .i64,.int .i64,.int .i64,.int .i64,.int .i64,.int .i64]] x8 (fun (s37:B8) (n207 n208:Int) (b37 b38:Bool) (n209 n210 n211 n212 n213 n214 n215 n216 n217:Int) st33=>need (List.all [.int .i64 f,.str l,.str n,u5,.str s] Ap) (K s37 n207 n208 b37 b38 n209 n210 n211 n212 n213 n214 n215 n216 n217 f l n u5 s 0 st33))) (CallT PR AD [.str a0,.int .i64 c] [.one (.int .i64)] x8 (fun (n0:Int) st34=>((0<=c/\c<=(i64.wrap (c+n0))/\(i64.wrap (c+n0))<=(a0.length:Int))/\need (List.all [.int .i64 f,.str l,.str n,u5,(.str (List.drop c.toNat (List.take (Int.toNat (i64.wrap (c+n0))) a0)))] Ap) (K a0 g1 j8 m9 p0 i8 h5 i7 j6 k5 ((i64.wrap (c+n0))) j3 k6 d6 f l n u5 ((List.drop c.toNat (List.take (Int.toNat (i64.wrap (c+n0))) a0))) ((i64.wrap (a4+(1:Int)))) st34)))))))))))))))))) (∃(C4:Int->Bool->TV->Int->Int->B8->Int->Int->Bool->Bool->Int->Int->Int->Int->Int->Int->Int->Int->Int->Int->B8->B8->TV->B8->St->Prop),(BIf (!m) (CallT PR AM [(.agg [.str s6,.int .u8 e0,.int .u8 f6,.bool b5,.bool b6,.int .i64 e3,.int .i64 e9,.int .i64 e1,.int .i64 g0,.int .i64 g4,.int .i64 b0,.int .i64 d9,.int .i64 g8,.int .i64 c9]),.int .i64 3] [.agg [.str,.int .u8,.int .u8,.bool,.bool,.int .i64,.int .i64,.int .i64,.int .i64,.int .i64,.int .i64,.int .i64,.int .i64,.int .i64]] f9 (fun (s38:B8) (n219 n220:Int) (b39 b40:Bool) (n221 n222 n223 n224 n225 n226 n227 n228 n229:Int) st35=>C4 u m w h2 b0 s38 n219 n220 b39 b40 n221 n222 n223 n224 n225 n226 n227 n228 n229 c3 s7 s8 v2 s9 st35)) (C4 u m w h2 b0 s6 e0 f6 b5 b6 e3 e9 e1 g0 g4 b0 d9 g8 c9 c3 s7 s8 v2 s9 f9))/\∀c5 y c1 p8 a3 s39 n230 y5 b41 b42 n232 x4 x6 n235 n236 n237 n238 n239 w4 k8 r3 r2 q5 p7 st36,C4 c5 y c1 p8 a3 s39 n230 y5 b41 b42 n232 x4 x6 n235 n236 n237 n238 n239 w4 k8 r3 r2 q5 p7 st36->(CallT PR BV [(.agg [.str s39,.int .u8 n230,.int .u8 y5,.bool b41,.bool b42,.int .i64 n232,.int .i64 x4,.int .i64 x6,.int .i64 n235,.int .i64 n236,.int .i64 n237,.int .i64 n238,.int .i64 n239,.int .i64 w4])] [.agg [.str,.int .u8,.int .u8,.bool,.bool,.int .i64,.int .i64,.int .i64,.int .i64,.int .i64,.int .i64,.int .i64,.int .i64,.int .i64],.one .str] st36 (fun (w2:B8) (k7 k9:Int) (r0 q4:Bool) (o4 o0 o9 m1 o6 o2 o5 o3 o7:Int) (p9:B8) st37=>CallT PR Bc [.str p9,(.agg [.int .u8 k7,.int .u8 k9,.bool r0,.bool q4])] [.one .str] st37 (fun (l0:B8) p5=>∃(C5:Int->Bool->TV->Int->Int->B8->B8->B8->Int->Int->Bool->Bool->Int->Int->Int->Int->Int->Int->Int->Int->Int->Int->B8->B8->TV->B8->St->Prop),(BIf y (BId ((1024:Int)<(l0.length:Int)) (CallT PR Ai [(.agg [.str w2,.int .u8 k7,.int .u8 k9,.bool r0,.bool q4,.int .i64 o4,.int .i64 o0,.int .i64 o9,.int .i64 m1,.int .i64 o6,.int .i64 o2,.int .i64 o5,.int .i64 o3,.int .i64 o7]),.int .i64 a3,.int .i64 10] [.agg [.str,.int .u8,.int .u8,.bool,.bool,.int .i64,.int .i64,.int .i64,.int .i64,.int .i64,.int .i64,.int .i64,.int .i64,.int .i64]] p5 (fun (s46:B8) (n253 n254:Int) (b45 b46:Bool) (n255 n256 n257 n258 n259 n260 n261 n262 n263:Int) st39=>C5 c5 y c1 p8 a3 p9 l0 s46 n253 n254 b45 b46 n255 n256 n257 n258 n259 n260 n261 n262 n263 k8 r3 r2 q5 p7 st39)) (BId ((65536:Int)<(l0.length:Int)) (CallT PR Ai [(.agg [.str w2,.int .u8 k7,.int .u8 k9,.bool r0,.bool q4,.int .i64 o4,.int .i64 o0,.int .i64 o9,.int .i64 m1,.int .i64 o6,.int .i64 o2,.int .i64 o5,.int .i64 o3,.int .i64 o7]),.int .i64 a3,.int .i64 10] [.agg [.str,.int .u8,.int .u8,.bool,.bool,.int .i64,.int .i64,.int .i64,.int .i64,.int .i64,.int .i64,.int .i64,.int .i64,.int .i64]] p5 (fun (s47:B8) (n264 n265:Int) (b47 b48:Bool) (n266 n267 n268 n269 n270 n271 n272 n273 n274:Int) st40=>C5 c5 y c1 p8 a3 p9 l0 s47 n264 n265 b47 b48 n266 n267 n268 n269 n270 n271 n272 n273 n274 k8 r3 r2 q5 p7 st40)) (C5 c5 y c1 p8 a3 p9 l0 w2 k7 k9 r0 q4 o4 o0 o9 m1 o6 o2 o5 o3 o7 k8 r3 r2 q5 p7 p5))) (BId ((65536:Int)<(l0.length:Int)) (CallT PR Ai [(.agg [.str w2,.int .u8 k7,.int .u8 k9,.bool r0,.bool q4,.int .i64 o4,.int .i64 o0,.int .i64 o9,.int .i64 m1,.int .i64 o6,.int .i64 o2,.int .i64 o5,.int .i64 o3,.int .i64 o7]),.int .i64 a3,.int .i64 10] [.agg [.str,.int .u8,.int .u8,.bool,.bool,.int .i64,.int .i64,.int .i64,.int .i64,.int .i64,.int .i64,.int .i64,.int .i64,.int .i64]] p5 (fun (s48:B8) (n275 n276:Int) (b49 b50:Bool) (n277 n278 n279 n280 n281 n282 n283 n284 n285:Int) st41=>C5 c5 y c1 p8 a3 p9 l0 s48 n275 n276 b49 b50 n277 n278 n279 n280 n281 n282 n283 n284 n285 k8 r3 r2 q5 p7 st41)) (C5 c5 y c1 p8 a3 p9 l0 w2 k7 k9 r0 q4 o4 o0 o9 m1 o6 o2 o5 o3 o7 k8 r3 r2 q5 p7 p5)))/\∀u1 p2 q1 k_6 t5 s_3 t_3 s49 z3 n287 b51 b52 n288 y9 n290 w7 n292 n293 x0 n295 z8 n297 s50 s51 v17 s52 st42,C5 u1 p2 q1 k_6 t5 s_3 t_3 s49 z3 n287 b51 b52 n288 y9 n290 w7 n292 n293 x0 n295 z8 n297 s50 s51 v17 s52 st42->(∃(I3:Int->Int->Bool->TV->Int->Int->B8->B8->B8->Int->Int->Bool->Bool->Int->Int->Int->Int->Int->Int->Int->Int->Int->Int->B8->B8->TV->B8->St->Prop) (M3:Int->Int->Bool->TV->Int->Int->B8->B8->B8->Int->Int->Bool->Bool->Int->Int->Int->Int->Int->Int->Int->Int->Int->Int->B8->B8->TV->B8->St->Nat),(I3 0 u1 p2 q1 k_6 t5 s_3 t_3 s49 z3 n287 b51 b52 n288 y9 n290 w7 n292 n293 x0 n295 z8 n297 s50 s51 v17 s52 st42)/\∀f5 o g j a6 a8 c4 h3 l5 g2 f2 l2 l3 g5 h1 e5 g7 f0 d4 g3 f3 g9 e q r a9 v c8,I3 f5 o g j a6 a8 c4 h3 l5 g2 f2 l2 l3 g5 h1 e5 g7 f0 d4 g3 f3 g9 e q r a9 v c8->(BIf g (need (isSl j) (BId (f5<(lenS j:Int)) (((0<=f5/\f5<(lenZ 1 j:Int))/\Ag (Ac c8 [] (.t (ixT 1 j f5.toNat)) 0) (fun (x2:TV)=>Af .str x2 (fun (s57:B8)=>BId (s57=h3) (CallT PR Ai [(.agg [.str l5,.int .u8 g2,.int .u8 f2,.bool l2,.bool l3,.int .i64 g5,.int .i64 h1,.int .i64 e5,.int .i64 g7,.int .i64 f0,.int .i64 d4,.int .i64 g3,.int .i64 f3,.int .i64 g9]),.int .i64 a8,.int .i64 8] [.agg [.str,.int .u8,.int .u8,.bool,.bool,.int .i64,.int .i64,.int .i64,.int .i64,.int .i64,.int .i64,.int .i64,.int .i64,.int .i64]] c8 (fun (s58:B8) (n310 z6:Int) (b55 b56:Bool) (n312 y0 n314 n315 n316 n317 y3 n319 z2:Int) x5=>(I3 ((i64.wrap (f5+(1:Int)))) o g j a6 a8 c4 h3 s58 n310 z6 b55 b56 n312 y0 n314 n315 n316 n317 y3 n319 z2 e q r a9 v x5/\M3 ((i64.wrap (f5+(1:Int)))) o g j a6 a8 c4 h3 s58 n310 z6 b55 b56 n312 y0 n314 n315 n316 n317 y3 n319 z2 e q r a9 v x5<M3 f5 o g j a6 a8 c4 h3 l5 g2 f2 l2 l3 g5 h1 e5 g7 f0 d4 g3 f3 g9 e q r a9 v c8))) ((I3 ((i64.wrap (f5+(1:Int)))) o g j a6 a8 c4 h3 l5 g2 f2 l2 l3 g5 h1 e5 g7 f0 d4 g3 f3 g9 e q r a9 v c8/\M3 ((i64.wrap (f5+(1:Int)))) o g j a6 a8 c4 h3 l5 g2 f2 l2 l3 g5 h1 e5 g7 f0 d4 g3 f3 g9 e q r a9 v c8<M3 f5 o g j a6 a8 c4 h3 l5 g2 f2 l2 l3 g5 h1 e5 g7 f0 d4 g3 f3 g9 e q r a9 v c8)))))) (AT 9 1 16 j 1 [.str h3] c8 (fun (v19:TV) st45=>CallT PR AS [(.agg [.str l5,.int .u8 g2,.int .u8 f2,.bool l2,.bool l3,.int .i64 g5,.int .i64 h1,.int .i64 e5,.int .i64 g7,.int .i64 f0,.int .i64 d4,.int .i64 g3,.int .i64 f3,.int .i64 g9])] [.agg [.str,.int .u8,.int .u8,.bool,.bool,.int .i64,.int .i64,.int .i64,.int .i64,.int .i64,.int .i64,.int .i64,.int .i64,.int .i64]] st45 (fun (a2:B8) (d5 j2:Int) (l8 o8:Bool) (j9 h6 h8 i6 i5 a i0 h7 d8:Int) s0=>BId (d8≠0) (need (List.all [.int .i64 e,.str q,.str r,a9,.str v] Ap) (K a2 d5 j2 l8 o8 j9 h6 h8 i6 i5 a i0 h7 d8 e q r a9 v 0 s0)) (BId (a<(a2.length:Int)) (((0<=a/\a<(a2.length:Int))/\BId (((List.getD a2 a.toNat 0).toNat:Int)=d5) (((0<=a/\a<=(i64.wrap (a+(1:Int)))/\(i64.wrap (a+(1:Int)))<=(a2.length:Int))/\AT 79 5 80 (.list 5 .full 1 [.int .i64 2,(.str []),.str c4,.nilSlice,(.str [])]) 1 [.int .i64 11,(.str []),(.str (List.drop a.toNat (List.take (Int.toNat (i64.wrap (a+(1:Int)))) a2))),.nilSlice,(.str [])] s0 (fun (w5:TV) st47=>need (List.all [w5] Ap) (need (List.all [.int .i64 5,(.str []),(.str []),w5,(.str [])] Ap) (AT 79 5 80 a9 1 [.int .i64 5,(.str []),(.str []),w5,(.str [])] st47 (fun (v21:TV) st48=>need (List.all [v21] Ap) ((I1 v19 ((i64.wrap (a6+(1:Int)))) o g a2 d5 j2 l8 o8 j9 h6 h8 i6 i5 ((i64.wrap (a+(1:Int)))) i0 h7 d8 e q r v21 v st48/\M1 v19 ((i64.wrap (a6+(1:Int)))) o g a2 d5 j2 l8 o8 j9 h6 h8 i6 i5 ((i64.wrap (a+(1:Int)))) i0 h7 d8 e q r v21 v st48<M1 w h2 u m s6 e0 f6 b5 b6 e3 e9 e1 g0 g4 b0 d9 g8 c9 c3 s7 s8 v2 s9 f9)))))))) (AT 79 5 80 a9 1 [.int .i64 5,(.str []),(.str []),(.list 5 .full 1 [.int .i64 2,(.str []),.str c4,.nilSlice,(.str [])]),(.str [])] s0 (fun (u7:TV) z0=>need (List.all [u7] Ap) (BId ((i64.wrap (a6+(1:Int)))<o) (CallT PR Ai [(.agg [.str a2,.int .u8 d5,.int .u8 j2,.bool l8,.bool o8,.int .i64 j9,.int .i64 h6,.int .i64 h8,.int .i64 i6,.int .i64 i5,.int .i64 a,.int .i64 i0,.int .i64 h7,.int .i64 d8]),.int .i64 a,.int .i64 10] [.agg [.str,.int .u8,.int .u8,.bool,.bool,.int .i64,.int .i64,.int .i64,.int .i64,.int .i64,.int .i64,.int .i64,.int .i64,.int .i64]] z0 (fun (s60:B8) (n332 n333:Int) (b59 b60:Bool) (n334 n335 n336 n337 n338 n339 n340 n341 n342:Int) st50=>need (List.all [.int .i64 e,.str q,.str r,u7,.str v] Ap) (K s60 n332 n333 b59 b60 n334 n335 n336 n337 n338 n339 n340 n341 n342 e q r u7 v 0 st50))) (CallT PR AD [.str a2,.int .i64 a] [.one (.int .i64)] z0 (fun (m4:Int) st51=>((0<=a/\a<=(i64.wrap (a+m4))/\(i64.wrap (a+m4))<=(a2.length:Int))/\need (List.all [.int .i64 e,.str q,.str r,u7,(.str (List.drop a.toNat (List.take (Int.toNat (i64.wrap (a+m4))) a2)))] Ap) (K a2 d5 j2 l8 o8 j9 h6 h8 i6 i5 ((i64.wrap (a+m4))) i0 h7 d8 e q r u7 ((List.drop a.toNat (List.take (Int.toNat (i64.wrap (a+m4))) a2))) ((i64.wrap (a6+(1:Int)))) st51))))))))) (AT 79 5 80 a9 1 [.int .i64 5,(.str []),(.str []),(.list 5 .full 1 [.int .i64 2,(.str []),.str c4,.nilSlice,(.str [])]),(.str [])] s0 (fun (u0:TV) y8=>need (List.all [u0] Ap) (BId ((i64.wrap (a6+(1:Int)))<o) (CallT PR Ai [(.agg [.str a2,.int .u8 d5,.int .u8 j2,.bool l8,.bool o8,.int .i64 j9,.int .i64 h6,.int .i64 h8,.int .i64 i6,.int .i64 i5,.int .i64 a,.int .i64 i0,.int .i64 h7,.int .i64 d8]),.int .i64 a,.int .i64 10] [.agg [.str,.int .u8,.int .u8,.bool,.bool,.int .i64,.int .i64,.int .i64,.int .i64,.int .i64,.int .i64,.int .i64,.int .i64,.int .i64]] y8 (fun (s61:B8) (n344 n345:Int) (b61 b62:Bool) (n346 n347 n348 n349 n350 n351 n352 n353 n354:Int) st53=>need (List.all [.int .i64 e,.str q,.str r,u0,.str v] Ap) (K s61 n344 n345 b61 b62 n346 n347 n348 n349 n350 n351 n352 n353 n354 e q r u0 v 0 st53))) (CallT PR AD [.str a2,.int .i64 a] [.one (.int .i64)] y8 (fun (p4:Int) st54=>((0<=a/\a<=(i64.wrap (a+p4))/\(i64.wrap (a+p4))<=(a2.length:Int))/\need (List.all [.int .i64 e,.str q,.str r,u0,(.str (List.drop a.toNat (List.take (Int.toNat (i64.wrap (a+p4))) a2)))] Ap) (K a2 d5 j2 l8 o8 j9 h6 h8 i6 i5 ((i64.wrap (a+p4))) i0 h7 d8 e q r u0 ((List.drop a.toNat (List.take (Int.toNat (i64.wrap (a+p4))) a2))) ((i64.wrap (a6+(1:Int)))) st54))))))))))))) (AT 9 1 16 j 1 [.str h3] c8 (fun (v24:TV) st55=>CallT PR AS [(.agg [.str l5,.int .u8 g2,.int .u8 f2,.bool l2,.bool l3,.int .i64 g5,.int .i64 h1,.int .i64 e5,.int .i64 g7,.int .i64 f0,.int .i64 d4,.int .i64 g3,.int .i64 f3,.int .i64 g9])] [.agg [.str,.int .u8,.int .u8,.bool,.bool,.int .i64,.int .i64,.int .i64,.int .i64,.int .i64,.int .i64,.int .i64,.int .i64,.int .i64]] st55 (fun (z:B8) (f7 k2:Int) (l9 m0:Bool) (k1 k4 i1 k0 i4 d k3 j0 f4:Int) r8=>BId (f4≠0) (need (List.all [.int .i64 e,.str q,.str r,a9,.str v] Ap) (K z f7 k2 l9 m0 k1 k4 i1 k0 i4 d k3 j0 f4 e q r a9 v 0 r8)) (BId (d<(z.length:Int)) (((0<=d/\d<(z.length:Int))/\BId (((List.getD z d.toNat 0).toNat:Int)=f7) (((0<=d/\d<=(i64.wrap (d+(1:Int)))/\(i64.wrap (d+(1:Int)))<=(z.length:Int))/\AT 79 5 80 (.list 5 .full 1 [.int .i64 2,(.str []),.str c4,.nilSlice,(.str [])]) 1 [.int .i64 11,(.str []),(.str (List.drop d.toNat (List.take (Int.toNat (i64.wrap (d+(1:Int)))) z))),.nilSlice,(.str [])] r8 (fun (z7:TV) st57=>need (List.all [z7] Ap) (need (List.all [.int .i64 5,(.str []),(.str []),z7,(.str [])] Ap) (AT 79 5 80 a9 1 [.int .i64 5,(.str []),(.str []),z7,(.str [])] st57 (fun (y7:TV) x7=>need (List.all [y7] Ap) ((I1 v24 ((i64.wrap (a6+(1:Int)))) o g z f7 k2 l9 m0 k1 k4 i1 k0 i4 ((i64.wrap (d+(1:Int)))) k3 j0 f4 e q r y7 v x7/\M1 v24 ((i64.wrap (a6+(1:Int)))) o g z f7 k2 l9 m0 k1 k4 i1 k0 i4 ((i64.wrap (d+(1:Int)))) k3 j0 f4 e q r y7 v x7<M1 w h2 u m s6 e0 f6 b5 b6 e3 e9 e1 g0 g4 b0 d9 g8 c9 c3 s7 s8 v2 s9 f9)))))))) (AT 79 5 80 a9 1 [.int .i64 5,(.str []),(.str []),(.list 5 .full 1 [.int .i64 2,(.str []),.str c4,.nilSlice,(.str [])]),(.str [])] r8 (fun (t2:TV) st59=>need (List.all [t2] Ap) (BId ((i64.wrap (a6+(1:Int)))<o) (CallT PR Ai [(.agg [.str z,.int .u8 f7,.int .u8 k2,.bool l9,.bool m0,.int .i64 k1,.int .i64 k4,.int .i64 i1,.int .i64 k0,.int .i64 i4,.int .i64 d,.int .i64 k3,.int .i64 j0,.int .i64 f4]),.int .i64 d,.int .i64 10] [.agg [.str,.int .u8,.int .u8,.bool,.bool,.int .i64,.int .i64,.int .i64,.int .i64,.int .i64,.int .i64,.int .i64,.int .i64,.int .i64]] st59 (fun (s63:B8) (n367 n368:Int) (b65 b66:Bool) (n369 n370 n371 n372 n373 n374 n375 n376 n377:Int) st60=>need (List.all [.int .i64 e,.str q,.str r,t2,.str v] Ap) (K s63 n367 n368 b65 b66 n369 n370 n371 n372 n373 n374 n375 n376 n377 e q r t2 v 0 st60))) (CallT PR AD [.str z,.int .i64 d] [.one (.int .i64)] st59 (fun (m3:Int) st61=>((0<=d/\d<=(i64.wrap (d+m3))/\(i64.wrap (d+m3))<=(z.length:Int))/\need (List.all [.int .i64 e,.str q,.str r,t2,(.str (List.drop d.toNat (List.take (Int.toNat (i64.wrap (d+m3))) z)))] Ap) (K z f7 k2 l9 m0 k1 k4 i1 k0 i4 ((i64.wrap (d+m3))) k3 j0 f4 e q r t2 ((List.drop d.toNat (List.take (Int.toNat (i64.wrap (d+m3))) z))) ((i64.wrap (a6+(1:Int)))) st61))))))))) (AT 79 5 80 a9 1 [.int .i64 5,(.str []),(.str []),(.list 5 .full 1 [.int .i64 2,(.str []),.str c4,.nilSlice,(.str [])]),(.str [])] r8 (fun (t1:TV) st62=>need (List.all [t1] Ap) (BId ((i64.wrap (a6+(1:Int)))<o) (CallT PR Ai [(.agg [.str z,.int .u8 f7,.int .u8 k2,.bool l9,.bool m0,.int .i64 k1,.int .i64 k4,.int .i64 i1,.int .i64 k0,.int .i64 i4,.int .i64 d,.int .i64 k3,.int .i64 j0,.int .i64 f4]),.int .i64 d,.int .i64 10] [.agg [.str,.int .u8,.int .u8,.bool,.bool,.int .i64,.int .i64,.int .i64,.int .i64,.int .i64,.int .i64,.int .i64,.int .i64,.int .i64]] st62 (fun (s64:B8) (n379 n380:Int) (b67 b68:Bool) (n381 n382 n383 n384 n385 n386 n387 n388 n389:Int) st63=>need (List.all [.int .i64 e,.str q,.str r,t1,.str v] Ap) (K s64 n379 n380 b67 b68 n381 n382 n383 n384 n385 n386 n387 n388 n389 e q r t1 v 0 st63))) (CallT PR AD [.str z,.int .i64 d] [.one (.int .i64)] st62 (fun (m7:Int) st64=>((0<=d/\d<=(i64.wrap (d+m7))/\(i64.wrap (d+m7))<=(z.length:Int))/\need (List.all [.int .i64 e,.str q,.str r,t1,(.str (List.drop d.toNat (List.take (Int.toNat (i64.wrap (d+m7))) z)))] Ap) (K z f7 k2 l9 m0 k1 k4 i1 k0 i4 ((i64.wrap (d+m7))) k3 j0 f4 e q r t1 ((List.drop d.toNat (List.take (Int.toNat (i64.wrap (d+m7))) z))) ((i64.wrap (a6+(1:Int)))) st64)))))))))))))))))) (need (List.all [.int .i64 c3,.str s7,.str s8,v2,.str s9] Ap) (K s6 e0 f6 b5 b6 e3 e9 e1 g0 g4 b0 d9 g8 c9 c3 s7 s8 v2 s9 0 f9))))):CallT PR Bw [(.agg [.str x_0,.int .u8 x_1,.int .u8 x_2,.bool x_3,.bool x_4,.int .i64 x_5,.int .i64 x_6,.int .i64 x_7,.int .i64 x_8,.int .i64 x_9,.int .i64 x_10,.int .i64 x_11,.int .i64 x_12,.int .i64 x_13]),.int .i64 many,.bool header] [.agg [.str,.int .u8,.int .u8,.bool,.bool,.int .i64,.int .i64,.int .i64,.int .i64,.int .i64,.int .i64,.int .i64,.int .i64,.int .i64],.agg [.int .i64,.str,.str,.tv,.str],.one (.int .i64)] st K:=
 Ae (cfg:=⟨[3,6,7,9,16],[],[]⟩) (h:=(.seq .none (.seq .none (.seq .none (.cut ⟨[(1,.int .i64),(2,.bool),(10,.tv)],[(3,0,0),(6,1,0),(7,2,0),(9,3,0)],[(0,14),(1,14),(2,5),(3,5)],[(0,0,.str),(0,1,.int .u8),(0,2,.int .u8),(0,3,.bool),(0,4,.bool),(0,5,.int .i64),(0,6,.int .i64),(0,7,.int .i64),(0,8,.int .i64),(0,9,.int .i64),(0,10,.int .i64),(0,11,.int .i64),(0,12,.int .i64),(0,13,.int .i64),(3,0,.int .i64),(3,1,.str),(3,2,.str),(3,3,.tv),(3,4,.str)]⟩ .none (.seq (.seq .none (.block (.loop ⟨[(10,.tv),(11,.int .i64),(1,.int .i64),(2,.bool)],[(3,0,0),(6,1,0),(7,2,0),(9,3,0)],[(0,14),(1,14),(2,5),(3,5)],[(0,0,.str),(0,1,.int .u8),(0,2,.int .u8),(0,3,.bool),(0,4,.bool),(0,5,.int .i64),(0,6,.int .i64),(0,7,.int .i64),(0,8,.int .i64),(0,9,.int .i64),(0,10,.int .i64),(0,11,.int .i64),(0,12,.int .i64),(0,13,.int .i64),(3,0,.int .i64),(3,1,.str),(3,2,.str),(3,3,.tv),(3,4,.str)]⟩ (.seq .none (.seq (.block (.seq .none (.seq .none (.cut ⟨[(1,.int .i64),(2,.bool),(10,.tv),(11,.int .i64),(12,.int .i64)],[(3,0,0),(6,1,0),(7,2,0),(9,3,0)],[(0,14),(1,14),(2,5),(3,5)],[(0,0,.str),(0,1,.int .u8),(0,2,.int .u8),(0,3,.bool),(0,4,.bool),(0,5,.int .i64),(0,6,.int .i64),(0,7,.int .i64),(0,8,.int .i64),(0,9,.int .i64),(0,10,.int .i64),(0,11,.int .i64),(0,12,.int .i64),(0,13,.int .i64),(3,0,.int .i64),(3,1,.str),(3,2,.str),(3,3,.tv),(3,4,.str)]⟩ .none (.seq .none (.seq .none (.seq .none (.cut ⟨[(1,.int .i64),(2,.bool),(10,.tv),(11,.int .i64),(12,.int .i64),(13,.str),(14,.str)],[(3,0,0),(6,1,0),(7,2,0),(9,3,0)],[(0,14),(1,14),(2,5),(3,5)],[(0,0,.str),(0,1,.int .u8),(0,2,.int .u8),(0,3,.bool),(0,4,.bool),(0,5,.int .i64),(0,6,.int .i64),(0,7,.int .i64),(0,8,.int .i64),(0,9,.int .i64),(0,10,.int .i64),(0,11,.int .i64),(0,12,.int .i64),(0,13,.int .i64),(3,0,.int .i64),(3,1,.str),(3,2,.str),(3,3,.tv),(3,4,.str)]⟩ .none (.seq (.seq .none (.block (.loop ⟨[(15,.int .i64),(1,.int .i64),(2,.bool),(10,.tv),(11,.int .i64),(12,.int .i64),(13,.str),(14,.str)],[(3,0,0),(6,1,0),(7,2,0),(9,3,0)],[(0,14),(1,14),(2,5),(3,5)],[(0,0,.str),(0,1,.int .u8),(0,2,.int .u8),(0,3,.bool),(0,4,.bool),(0,5,.int .i64),(0,6,.int .i64),(0,7,.int .i64),(0,8,.int .i64),(0,9,.int .i64),(0,10,.int .i64),(0,11,.int .i64),(0,12,.int .i64),(0,13,.int .i64),(3,0,.int .i64),(3,1,.str),(3,2,.str),(3,3,.tv),(3,4,.str)]⟩ .none))) .none))))))))) .none))))) .none)))))) mixed (fun _ _=>Tryz.call132 _ _) Tryz.func132 (by kernel_rfl) (by kernel_rfl) h
theorem MX (s:B8) (d_0:Int) (d_1:Int) (d_2:Bool) (d_3:Bool) (st:St) (K:B8->Int->St->Prop) (h:CallT PR CQ [(.agg [.int .u8 d_0,.int .u8 d_1,.bool d_2,.bool d_3])] [.one .bool] st (fun (b1:Bool) f=>BIf (!b1) (K [] 1 f) (CallT PR DQ [.str s] [.one .bool] f (fun (b2:Bool) e=>BIf (!b2) (K [] 5 e) (Ag ((toBytes e (.list 1 .full 1 [.int .u8 d_1])).map TV.str) (fun (x1:TV)=>Af .str x1 (fun (s1:B8)=>∃(I1:Int->B8->B8->Int->Int->Bool->Bool->St->Prop) (M1:Int->B8->B8->Int->Int->Bool->Bool->St->Nat),(I1 0 s s1 d_0 d_1 d_2 d_3 e)/\∀c b a n1 n2 b3 b4 d,I1 c b a n1 n2 b3 b4 d->(BId (c<(b.length:Int)) (((0<=c/\c<(b.length:Int))/\BId (((List.getD b c.toNat 0).toNat:Int)=n1) ((a.length+a.length<=9223372036854775807/\CallT PR AE [.str b,.str a,(.str (a++a))] [.one .str] d (fun (s2:B8) g=>(a.length+s2.length<=9223372036854775807/\(((a++s2)).length+a.length<=9223372036854775807/\K (((a++s2)++a)) 0 g))))) (BId (((List.getD b c.toNat 0).toNat:Int)=n2) ((a.length+a.length<=9223372036854775807/\CallT PR AE [.str b,.str a,(.str (a++a))] [.one .str] d (fun (s3:B8) k=>(a.length+s3.length<=9223372036854775807/\(((a++s3)).length+a.length<=9223372036854775807/\K (((a++s3)++a)) 0 k))))) (BId (((List.getD b c.toNat 0).toNat:Int)=(10:Int)) ((a.length+a.length<=9223372036854775807/\CallT PR AE [.str b,.str a,(.str (a++a))] [.one .str] d (fun (s4:B8) i=>(a.length+s4.length<=9223372036854775807/\(((a++s4)).length+a.length<=9223372036854775807/\K (((a++s4)++a)) 0 i))))) (BId (((List.getD b c.toNat 0).toNat:Int)=(13:Int)) ((a.length+a.length<=9223372036854775807/\CallT PR AE [.str b,.str a,(.str (a++a))] [.one .str] d (fun (s5:B8) j=>(a.length+s5.length<=9223372036854775807/\(((a++s5)).length+a.length<=9223372036854775807/\K (((a++s5)++a)) 0 j))))) ((I1 ((i64.wrap (c+(1:Int)))) b a n1 n2 b3 b4 d/\M1 ((i64.wrap (c+(1:Int)))) b a n1 n2 b3 b4 d<M1 c b a n1 n2 b3 b4 d))))))) (K b 0 d))))))))):CallT PR DV [.str s,(.agg [.int .u8 d_0,.int .u8 d_1,.bool d_2,.bool d_3])] [.one .str,.one (.int .i64)] st K:=
 Ae (cfg:=⟨[3],[],[]⟩) (h:=(.seq .none (.seq .none (.seq .none (.seq .none (.seq (.seq .none (.block (.loop ⟨[(7,.int .i64),(0,.str),(6,.str)],[(3,0,0)],[(0,4)],[(0,0,.int .u8),(0,1,.int .u8),(0,2,.bool),(0,3,.bool)]⟩ .none))) .none)))))) mixed (fun _ _=>Tryz.call145 _ _) Tryz.func145 (by kernel_rfl) (by kernel_rfl) h
theorem HR (s:B8) (d_0:Int) (d_1:Int) (d_2:Bool) (d_3:Bool) (st:St) (K:B8->St->Prop) (h:BId (s=([]:B8)) (K s st) (((0<=(0:Int)/\(0:Int)<(s.length:Int))/\BId (((List.getD s (Int.toNat (0:Int)) 0).toNat:Int)≠d_1) (K s st) (∃(I1:B8->Int->B8->Int->Int->Bool->Bool->St->Prop) (M1:B8->Int->B8->Int->Int->Bool->Bool->St->Nat),(I1 [] 1 s d_0 d_1 d_2 d_3 st)/\∀c a b n1 n2 b1 b2 d,I1 c a b n1 n2 b1 b2 d->(BId ((i64.wrap (a+(1:Int)))<(b.length:Int)) (((0<=a/\a<=(i64.wrap (a+(1:Int)))/\(i64.wrap (a+(1:Int)))<=(b.length:Int))/\(c.length+((List.drop a.toNat (List.take (Int.toNat (i64.wrap (a+(1:Int)))) b))).length<=9223372036854775807/\((0<=a/\a<(b.length:Int))/\BId (((List.getD b a.toNat 0).toNat:Int)=n2) ((I1 ((c++(List.drop a.toNat (List.take (Int.toNat (i64.wrap (a+(1:Int)))) b)))) ((i64.wrap ((i64.wrap (a+(1:Int)))+(1:Int)))) b n1 n2 b1 b2 d/\M1 ((c++(List.drop a.toNat (List.take (Int.toNat (i64.wrap (a+(1:Int)))) b)))) ((i64.wrap ((i64.wrap (a+(1:Int)))+(1:Int)))) b n1 n2 b1 b2 d<M1 c a b n1 n2 b1 b2 d)) ((I1 ((c++(List.drop a.toNat (List.take (Int.toNat (i64.wrap (a+(1:Int)))) b)))) ((i64.wrap (a+(1:Int)))) b n1 n2 b1 b2 d/\M1 ((c++(List.drop a.toNat (List.take (Int.toNat (i64.wrap (a+(1:Int)))) b)))) ((i64.wrap (a+(1:Int)))) b n1 n2 b1 b2 d<M1 c a b n1 n2 b1 b2 d)))))) (K c d)))))):CallT PR Bc [.str s,(.agg [.int .u8 d_0,.int .u8 d_1,.bool d_2,.bool d_3])] [.one .str] st K:=
 Ae (cfg:=⟨[3],[],[]⟩) (h:=(.seq .none (.seq .none (.seq .none (.seq (.seq .none (.block (.loop ⟨[(5,.str),(6,.int .i64),(0,.str)],[(3,0,0)],[(0,4)],[(0,0,.int .u8),(0,1,.int .u8),(0,2,.bool),(0,3,.bool)]⟩ .none))) .none))))) mixed (fun _ _=>Tryz.call172 _ _) Tryz.func172 (by kernel_rfl) (by kernel_rfl) h
theorem On (n_0:Int) (n_1:B8) (n_2:B8) (n_3:TV) (n_4:B8) (d_0:Int) (d_1:Int) (d_2:Bool) (d_3:Bool) (st:St) (K:Bool->St->Prop) (h:CallT PR Gn [(.agg [.int .i64 n_0,.str n_1,.str n_2,n_3,.str n_4])] [.one (.int .i64)] st (fun (n1:Int) b=>BId (n1≠0) (K false b) (CallT PR Gm [(.agg [.int .i64 n_0,.str n_1,.str n_2,n_3,.str n_4])] [.one .str] b (fun (s1:B8) c=>CallT PR FE [] [.agg [.int .i64,.int .i64,.int .i64,.int .i64,.int .i64]] c (fun (n2 n3 n4 n5 n6:Int) e=>CallT PR DW [.str s1,(.agg [.int .u8 d_0,.int .u8 d_1,.bool d_2,.bool d_3]),(.agg [.int .i64 n2,.int .i64 n3,.int .i64 n4,.int .i64 n5,.int .i64 n6])] [.agg [.int .i64,.str,.str,.tv,.str],.one (.int .i64),.one (.int .i64)] e (fun (n7:Int) (s2 s3:B8) (v1:TV) (s4:B8) (n8 n9:Int) a=>need (List.all [.int .i64 n7,.str s2,.str s3,v1,.str s4] Ap) (BId (n9=0) (CallT PR E9 [(.agg [.int .i64 n7,.str s2,.str s3,v1,.str s4]),(.agg [.int .i64 n_0,.str n_1,.str n_2,n_3,.str n_4])] [.one .bool] a (fun (b1:Bool) d=>K b1 d)) (K false a)))))))):CallT PR Et [(.agg [.int .i64 n_0,.str n_1,.str n_2,n_3,.str n_4]),(.agg [.int .u8 d_0,.int .u8 d_1,.bool d_2,.bool d_3])] [.one .bool] st K:=
 Ae (cfg:=⟨[2,3,5],[],[]⟩) (h:= .none) mixed (fun _ _=>Tryz.call173 _ _) Tryz.func173 (by kernel_rfl) (by kernel_rfl) h
theorem Om (cell:B8) (d_0:Int) (d_1:Int) (d_2:Bool) (d_3:Bool) (st:St) (K:B8->Bool->St->Prop) (h:BId (cell=([]:B8)) (K cell false st) (((0<=(0:Int)/\(0:Int)<(cell.length:Int))/\BId (((List.getD cell (Int.toNat (0:Int)) 0).toNat:Int)≠d_1) (K cell false st) (Ag ((toBytes st (.list 1 .full 1 [.int .u8 d_1])).map TV.str) (fun (x1:TV)=>Af .str x1 (fun (s1:B8)=>((0<=(1:Int)/\(1:Int)<=(i64.wrap ((cell.length:Int)-(1:Int)))/\(i64.wrap ((cell.length:Int)-(1:Int)))<=(cell.length:Int))/\(s1.length+s1.length<=9223372036854775807/\CallT PR AE [(.str (List.drop (Int.toNat (1:Int)) (List.take (Int.toNat (i64.wrap ((cell.length:Int)-(1:Int)))) cell))),(.str (s1++s1)),.str s1] [.one .str] st (fun (s2:B8) a=>K s2 true a))))))))):CallT PR Ct [.str cell,(.agg [.int .u8 d_0,.int .u8 d_1,.bool d_2,.bool d_3])] [.one .str,.one .bool] st K:=
 Ae (cfg:=⟨[3],[],[]⟩) (h:= .none) mixed (fun _ _=>Tryz.call174 _ _) Tryz.func174 (by kernel_rfl) (by kernel_rfl) h
theorem HN (p:Nat) (depth:Int) (st:St) (K:Bool->St->Prop) (h:Ag (Ac st [] (.t (.box p 5)) 0) (fun (x1:TV)=>Af (.int .i64) x1 (fun (n1:Int)=>BId (n1<depth) (Ag (Ac st [] (.t (.box p 10)) 0) (fun (x2:TV)=>Af (.int .i64) x2 (fun (n2:Int)=>CallT PR Ak [(.box p 0),.int .i64 n2,.int .i64 9] [.one .bool] st (fun (b1:Bool) a=>K b1 a)))) (Ag (Ac st [] (.t (.box p 11)) 0) (fun (x3:TV)=>Af (.int .i64) x3 (fun (n3:Int)=>Ag (Ac st [] (.t (.box p 6)) 0) (fun (x4:TV)=>Af (.int .i64) x4 (fun (n4:Int)=>BId (n4<=n3) (Ag (Ac st [] (.t (.box p 10)) 0) (fun (x5:TV)=>Af (.int .i64) x5 (fun (n5:Int)=>CallT PR Ak [(.box p 0),.int .i64 n5,.int .i64 10] [.one .bool] st (fun (b2:Bool) b=>K b2 b)))) (Ag (Ac st [] (.t (.box p 11)) 0) (fun (x6:TV)=>Af (.int .i64) x6 (fun (n6:Int)=>stB st (.box p 11) [(.int .i64 (i64.wrap (n6+(1:Int))))] (fun c=>K true c)))))))))))):CallT PR Bb [(.box p 0),.int .i64 depth] [.one .bool] st K:=
 Ae (cfg:=⟨[],[],[]⟩) (h:= .none) mixed (fun _ _=>Tryz.call191 _ _) Tryz.func191 (by kernel_rfl) (by kernel_rfl) h
theorem Ig (p:Nat) (atx:Int) (e:Int) (st:St) (K:Bool->St->Prop) (h:stB st (.box p 14) [.int .i64 atx] (fun a=>stB a (.box p 15) [.int .i64 e] (fun b=>K false b))):CallT PR Ak [(.box p 0),.int .i64 atx,.int .i64 e] [.one .bool] st K:=
 Ae (cfg:=⟨[],[],[]⟩) (h:= .none) mixed (fun _ _=>Tryz.call192 _ _) Tryz.func192 (by kernel_rfl) (by kernel_rfl) h
theorem HO (p:Nat) (header:Bool) (st:St) (K:Int->B8->B8->TV->B8->Bool->St->Prop) (h:BIf (!header) (CallT PR Bb [(.box p 0),.int .i64 3] [.one .bool] st (fun (b1:Bool) c2=>BIf (!b1) (K 5 [] [] .nilSlice [] false c2) (Ag (Ac c2 [] (.t (.box p 10)) 0) (fun (x1:TV)=>Af (.int .i64) x1 (fun (n1:Int)=>CallT PR BT [(.box p 0)] [.one .bool] c2 (fun (b2:Bool) a0=>BIf (!b2) (K 5 [] [] .nilSlice [] false a0) (Ag (Ac a0 [] (.t (.box p 0)) 0) (fun (x2:TV)=>Af .str x2 (fun (s1:B8)=>Ag (Ac a0 [] (.t (.box p 10)) 0) (fun (x3:TV)=>Af (.int .i64) x3 (fun (n2:Int)=>((0<=n1/\n1<=n2/\n2<=(s1.length:Int))/\Ag ((Aj a0 [] (.t (.box p 1)) 0 4).map TV.agg) (fun (x4:TV)=>A1 [.int .u8,.int .u8,.bool,.bool] x4 (fun (n3 n4:Int) (b3 b4:Bool)=>CallT PR Ct [(.str (List.drop n1.toNat (List.take n2.toNat s1))),(.agg [.int .u8 n3,.int .u8 n4,.bool b3,.bool b4])] [.one .str,.one .bool] a0 (fun (s2:B8) (b5:Bool) d0=>∃(C1:Int->TV->Bool->Int->B8->B8->Int->B8->B8->TV->B8->St->Prop),(BIf header (C1 1024 ((.box p 0)) header n1 ((List.drop n1.toNat (List.take n2.toNat s1))) s2 5 [] [] .nilSlice [] d0) (C1 65536 ((.box p 0)) header n1 ((List.drop n1.toNat (List.take n2.toNat s1))) s2 5 [] [] .nilSlice [] d0))/\∀a1 a w n q a7 n5 s3 s4 v1 s5 m,C1 a1 a w n q a7 n5 s3 s4 v1 s5 m->(BId (a1<(a7.length:Int)) (CallT PR Ak [a,.int .i64 n,.int .i64 10] [.one .bool] m (fun (b6:Bool) i3=>need (List.all [.int .i64 n5,.str s3,.str s4,v1,.str s5] Ap) (K n5 s3 s4 v1 s5 b6 i3))) (BIf w (need (isPtr a) (need (isPtr a) (Ag (Ac m [] (.t (Ao a 13)) 0) (fun (v2:TV)=>Ag (IE m v2) (fun (es1:List (B8×TV))=>Af .bool (Lw (.bool false) (CT a7 es1)) (fun (b7:Bool)=>BIf b7 (CallT PR Ak [a,.int .i64 n,.int .i64 8] [.one .bool] m (fun (b8:Bool) f2=>need (List.all [.int .i64 n5,.str s3,.str s4,v1,.str s5] Ap) (K n5 s3 s4 v1 s5 b8 f2))) (need (isPtr a) (need (isPtr a) (Ag (Ac m [] (.t (Ao a 13)) 0) (fun (v3:TV)=>muK v3 a7 (.bool true) m (fun h3=>AT 79 5 80 v1 1 [.int .i64 2,(.str []),.str q,.nilSlice,(.str [])] h3 (fun (v4:TV) l=>need (List.all [v4] Ap) (need (isPtr a) (need (isPtr a) (Ag (Ac l [] (.t (Ao a 10)) 0) (fun (x7:TV)=>Af (.int .i64) x7 (fun (n6:Int)=>need (isPtr a) (need (isPtr a) (Ag (Ac l [] (.t (Ao a 0)) 0) (fun (x8:TV)=>Af .str x8 (fun (s6:B8)=>BId (n6<(s6.length:Int)) (need (isPtr a) (need (isPtr a) (Ag (Ac l [] (.t (Ao a 0)) 0) (fun (x9:TV)=>Af .str x9 (fun (s7:B8)=>need (isPtr a) (need (isPtr a) (Ag (Ac l [] (.t (Ao a 10)) 0) (fun (g4:TV)=>Af (.int .i64) g4 (fun (n7:Int)=>((0<=n7/\n7<(s7.length:Int))/\need (isPtr a) (need (isPtr a) (need (isPtr (Ao a 1)) (Ag (Ac l [] (.t (Ao (Ao a 1) 0)) 0) (fun (h5:TV)=>Af (.int .u8) h5 (fun (n8:Int)=>BId (((List.getD s7 n7.toNat 0).toNat:Int)=n8) (need (isPtr a) (need (isPtr a) (Ag (Ac l [] (.t (Ao a 10)) 0) (fun (j8:TV)=>Af (.int .i64) j8 (fun (n9:Int)=>need (isPtr a) (need (isPtr a) (stB l (Ao a 10) [(.int .i64 (i64.wrap (n9+(1:Int))))] (fun b0=>need (isPtr a) (need (isPtr a) (need (isPtr (Ao a 1)) (Ag (Ac b0 [] (.t (Ao (Ao a 1) 0)) 0) (fun (h8:TV)=>Af (.int .u8) h8 (fun (e2:Int)=>Ag ((toBytes b0 (.list 1 .full 1 [.int .u8 e2])).map TV.str) (fun (g1:TV)=>Af .str g1 (fun (s8:B8)=>AT 79 5 80 v4 1 [.int .i64 11,(.str []),.str s8,.nilSlice,(.str [])] b0 (fun (v5:TV) d7=>need (List.all [v5] Ap) (need (List.all [.int .i64 n5,.str s3,.str s4,v5,.str s5] Ap) (K n5 s3 s4 v5 s5 true d7)))))))))))))))))) (need (List.all [.int .i64 n5,.str s3,.str s4,v4,.str s5] Ap) (K n5 s3 s4 v4 s5 true l))))))))))))))))) (need (List.all [.int .i64 n5,.str s3,.str s4,v4,.str s5] Ap) (K n5 s3 s4 v4 s5 true l))))))))))))))))))))))) (AT 79 5 80 v1 1 [.int .i64 2,(.str []),.str q,.nilSlice,(.str [])] m (fun (v6:TV) g=>need (List.all [v6] Ap) (need (isPtr a) (need (isPtr a) (Ag (Ac g [] (.t (Ao a 10)) 0) (fun (g5:TV)=>Af (.int .i64) g5 (fun (j4:Int)=>need (isPtr a) (need (isPtr a) (Ag (Ac g [] (.t (Ao a 0)) 0) (fun (i2:TV)=>Af .str i2 (fun (s9:B8)=>BId (j4<(s9.length:Int)) (need (isPtr a) (need (isPtr a) (Ag (Ac g [] (.t (Ao a 0)) 0) (fun (g8:TV)=>Af .str g8 (fun (c6:B8)=>need (isPtr a) (need (isPtr a) (Ag (Ac g [] (.t (Ao a 10)) 0) (fun (f6:TV)=>Af (.int .i64) f6 (fun (c3:Int)=>((0<=c3/\c3<(c6.length:Int))/\need (isPtr a) (need (isPtr a) (need (isPtr (Ao a 1)) (Ag (Ac g [] (.t (Ao (Ao a 1) 0)) 0) (fun (h7:TV)=>Af (.int .u8) h7 (fun (f9:Int)=>BId (((List.getD c6 c3.toNat 0).toNat:Int)=f9) (need (isPtr a) (need (isPtr a) (Ag (Ac g [] (.t (Ao a 10)) 0) (fun (h0:TV)=>Af (.int .i64) h0 (fun (i8:Int)=>need (isPtr a) (need (isPtr a) (stB g (Ao a 10) [(.int .i64 (i64.wrap (i8+(1:Int))))] (fun a3=>need (isPtr a) (need (isPtr a) (need (isPtr (Ao a 1)) (Ag (Ac a3 [] (.t (Ao (Ao a 1) 0)) 0) (fun (g7:TV)=>Af (.int .u8) g7 (fun (e6:Int)=>Ag ((toBytes a3 (.list 1 .full 1 [.int .u8 e6])).map TV.str) (fun (i5:TV)=>Af .str i5 (fun (g9:B8)=>AT 79 5 80 v6 1 [.int .i64 11,(.str []),.str g9,.nilSlice,(.str [])] a3 (fun (v7:TV) d3=>need (List.all [v7] Ap) (need (List.all [.int .i64 n5,.str s3,.str s4,v7,.str s5] Ap) (K n5 s3 s4 v7 s5 true d3)))))))))))))))))) (need (List.all [.int .i64 n5,.str s3,.str s4,v6,.str s5] Ap) (K n5 s3 s4 v6 s5 true g))))))))))))))))) (need (List.all [.int .i64 n5,.str s3,.str s4,v6,.str s5] Ap) (K n5 s3 s4 v6 s5 true g)))))))))))))))))))))))))))))) (Ag (Ac st [] (.t (.box p 10)) 0) (fun (i9:TV)=>Af (.int .i64) i9 (fun (v:Int)=>CallT PR BT [(.box p 0)] [.one .bool] st (fun (b9:Bool) r=>BIf (!b9) (K 5 [] [] .nilSlice [] false r) (Ag (Ac r [] (.t (.box p 0)) 0) (fun (d8:TV)=>Af .str d8 (fun (a8:B8)=>Ag (Ac r [] (.t (.box p 10)) 0) (fun (h2:TV)=>Af (.int .i64) h2 (fun (a2:Int)=>((0<=v/\v<=a2/\a2<=(a8.length:Int))/\Ag ((Aj r [] (.t (.box p 1)) 0 4).map TV.agg) (fun (e4:TV)=>A1 [.int .u8,.int .u8,.bool,.bool] e4 (fun (j7 f1:Int) (e8 i0:Bool)=>CallT PR Ct [(.str (List.drop v.toNat (List.take a2.toNat a8))),(.agg [.int .u8 j7,.int .u8 f1,.bool e8,.bool i0])] [.one .str,.one .bool] r (fun (c7:B8) (k0:Bool) c5=>∃(C2:Int->TV->Bool->Int->B8->B8->Int->B8->B8->TV->B8->St->Prop),(BIf header (C2 1024 ((.box p 0)) header v ((List.drop v.toNat (List.take a2.toNat a8))) c7 5 [] [] .nilSlice [] c5) (C2 65536 ((.box p 0)) header v ((List.drop v.toNat (List.take a2.toNat a8))) c7 5 [] [] .nilSlice [] c5))/\∀z b s u o a6 d c f v8 e k,C2 z b s u o a6 d c f v8 e k->(BId (z<(a6.length:Int)) (CallT PR Ak [b,.int .i64 u,.int .i64 10] [.one .bool] k (fun (e7:Bool) d1=>need (List.all [.int .i64 d,.str c,.str f,v8,.str e] Ap) (K d c f v8 e e7 d1))) (BIf s (need (isPtr b) (need (isPtr b) (Ag (Ac k [] (.t (Ao b 13)) 0) (fun (v9:TV)=>Ag (IE k v9) (fun (es2:List (B8×TV))=>Af .bool (Lw (.bool false) (CT a6 es2)) (fun (f0:Bool)=>BIf f0 (CallT PR Ak [b,.int .i64 u,.int .i64 8] [.one .bool] k (fun (j1:Bool) d5=>need (List.all [.int .i64 d,.str c,.str f,v8,.str e] Ap) (K d c f v8 e j1 d5))) (need (isPtr b) (need (isPtr b) (Ag (Ac k [] (.t (Ao b 13)) 0) (fun (g3:TV)=>muK g3 a6 (.bool true) k (fun d2=>AT 79 5 80 v8 1 [.int .i64 2,(.str []),.str o,.nilSlice,(.str [])] d2 (fun (y:TV) i=>need (List.all [y] Ap) (need (isPtr b) (need (isPtr b) (Ag (Ac i [] (.t (Ao b 10)) 0) (fun (h1:TV)=>Af (.int .i64) h1 (fun (h6:Int)=>need (isPtr b) (need (isPtr b) (Ag (Ac i [] (.t (Ao b 0)) 0) (fun (g0:TV)=>Af .str g0 (fun (f4:B8)=>BId (h6<(f4.length:Int)) (need (isPtr b) (need (isPtr b) (Ag (Ac i [] (.t (Ao b 0)) 0) (fun (j0:TV)=>Af .str j0 (fun (c9:B8)=>need (isPtr b) (need (isPtr b) (Ag (Ac i [] (.t (Ao b 10)) 0) (fun (j6:TV)=>Af (.int .i64) j6 (fun (a9:Int)=>((0<=a9/\a9<(c9.length:Int))/\need (isPtr b) (need (isPtr b) (need (isPtr (Ao b 1)) (Ag (Ac i [] (.t (Ao (Ao b 1) 0)) 0) (fun (e3:TV)=>Af (.int .u8) e3 (fun (f7:Int)=>BId (((List.getD c9 a9.toNat 0).toNat:Int)=f7) (need (isPtr b) (need (isPtr b) (Ag (Ac i [] (.t (Ao b 10)) 0) (fun (i7:TV)=>Af (.int .i64) i7 (fun (j2:Int)=>need (isPtr b) (need (isPtr b) (stB i (Ao b 10) [(.int .i64 (i64.wrap (j2+(1:Int))))] (fun a4=>need (isPtr b) (need (isPtr b) (need (isPtr (Ao b 1)) (Ag (Ac a4 [] (.t (Ao (Ao b 1) 0)) 0) (fun (i4:TV)=>Af (.int .u8) i4 (fun (g2:Int)=>Ag ((toBytes a4 (.list 1 .full 1 [.int .u8 g2])).map TV.str) (fun (j9:TV)=>Af .str j9 (fun (f3:B8)=>AT 79 5 80 y 1 [.int .i64 11,(.str []),.str f3,.nilSlice,(.str [])] a4 (fun (c0:TV) d6=>need (List.all [c0] Ap) (need (List.all [.int .i64 d,.str c,.str f,c0,.str e] Ap) (K d c f c0 e true d6)))))))))))))))))) (need (List.all [.int .i64 d,.str c,.str f,y,.str e] Ap) (K d c f y e true i))))))))))))))))) (need (List.all [.int .i64 d,.str c,.str f,y,.str e] Ap) (K d c f y e true i))))))))))))))))))))))) (AT 79 5 80 v8 1 [.int .i64 2,(.str []),.str o,.nilSlice,(.str [])] k (fun (x:TV) j=>need (List.all [x] Ap) (need (isPtr b) (need (isPtr b) (Ag (Ac j [] (.t (Ao b 10)) 0) (fun (d9:TV)=>Af (.int .i64) d9 (fun (e5:Int)=>need (isPtr b) (need (isPtr b) (Ag (Ac j [] (.t (Ao b 0)) 0) (fun (e0:TV)=>Af .str e0 (fun (j5:B8)=>BId (e5<(j5.length:Int)) (need (isPtr b) (need (isPtr b) (Ag (Ac j [] (.t (Ao b 0)) 0) (fun (g6:TV)=>Af .str g6 (fun (c8:B8)=>need (isPtr b) (need (isPtr b) (Ag (Ac j [] (.t (Ao b 10)) 0) (fun (j3:TV)=>Af (.int .i64) j3 (fun (c4:Int)=>((0<=c4/\c4<(c8.length:Int))/\need (isPtr b) (need (isPtr b) (need (isPtr (Ao b 1)) (Ag (Ac j [] (.t (Ao (Ao b 1) 0)) 0) (fun (i6:TV)=>Af (.int .u8) i6 (fun (e1:Int)=>BId (((List.getD c8 c4.toNat 0).toNat:Int)=e1) (need (isPtr b) (need (isPtr b) (Ag (Ac j [] (.t (Ao b 10)) 0) (fun (f5:TV)=>Af (.int .i64) f5 (fun (i1:Int)=>need (isPtr b) (need (isPtr b) (stB j (Ao b 10) [(.int .i64 (i64.wrap (i1+(1:Int))))] (fun a5=>need (isPtr b) (need (isPtr b) (need (isPtr (Ao b 1)) (Ag (Ac a5 [] (.t (Ao (Ao b 1) 0)) 0) (fun (f8:TV)=>Af (.int .u8) f8 (fun (e9:Int)=>Ag ((toBytes a5 (.list 1 .full 1 [.int .u8 e9])).map TV.str) (fun (h4:TV)=>Af .str h4 (fun (h9:B8)=>AT 79 5 80 x 1 [.int .i64 11,(.str []),.str h9,.nilSlice,(.str [])] a5 (fun (c1:TV) d4=>need (List.all [c1] Ap) (need (List.all [.int .i64 d,.str c,.str f,c1,.str e] Ap) (K d c f c1 e true d4)))))))))))))))))) (need (List.all [.int .i64 d,.str c,.str f,x,.str e] Ap) (K d c f x e true j))))))))))))))))) (need (List.all [.int .i64 d,.str c,.str f,x,.str e] Ap) (K d c f x e true j))))))))))))))))))))))))))))):CallT PR AN [(.box p 0),.bool header] [.agg [.int .i64,.str,.str,.tv,.str],.one .bool] st K:=
 Ae (cfg:=⟨[4,6],[],[]⟩) (h:=(.seq .none (.seq .none (.seq .none (.seq .none (.seq .none (.seq .none (.seq .none (.seq .none (.cut ⟨[(11,.int .i64),(0,.tv),(1,.bool),(7,.int .i64),(8,.str),(9,.str)],[(4,0,0),(6,1,0)],[(0,5),(1,5)],[(1,0,.int .i64),(1,1,.str),(1,2,.str),(1,3,.tv),(1,4,.str)]⟩ .none .none)))))))))) mixed (fun _ _=>Tryz.call193 _ _) Tryz.func193 (by kernel_rfl) (by kernel_rfl) h
theorem GA (p:Nat) (r:Nat) (st:St) (K:Bool->St->Prop) (h:Ag (Ac st [] (.t (.box p 10)) 0) (fun (x1:TV)=>Af (.int .i64) x1 (fun (n1:Int)=>Ag (Ac st [] (.t (.box p 10)) 0) (fun (x2:TV)=>Af (.int .i64) x2 (fun (n2:Int)=>Ag (Ac st [] (.t (.box p 0)) 0) (fun (x3:TV)=>Af .str x3 (fun (s1:B8)=>BId (n2=(s1.length:Int)) (K true st) (Ag (Ac st [] (.t (.box p 0)) 0) (fun (x4:TV)=>Af .str x4 (fun (s2:B8)=>Ag (Ac st [] (.t (.box p 10)) 0) (fun (x5:TV)=>Af (.int .i64) x5 (fun (n3:Int)=>((0<=n3/\n3<(s2.length:Int))/\BId (((List.getD s2 n3.toNat 0).toNat:Int)=(13:Int)) (Ag (Ac st [] (.t (.box p 10)) 0) (fun (x6:TV)=>Af (.int .i64) x6 (fun (n4:Int)=>stB st (.box p 10) [(.int .i64 (i64.wrap (n4+(1:Int))))] (fun a=>Ag (Ac a [] (.t (.box p 10)) 0) (fun (x7:TV)=>Af (.int .i64) x7 (fun (n5:Int)=>Ag (Ac a [] (.t (.box p 0)) 0) (fun (x8:TV)=>Af .str x8 (fun (s3:B8)=>BId (n5=(s3.length:Int)) (Ag (Ac a [] (.t (.box p 10)) 0) (fun (x9:TV)=>Af (.int .i64) x9 (fun (n6:Int)=>CallT PR Ak [(.box p 0),.int .i64 n6,.int .i64 4] [.one .bool] a (fun (b1:Bool) i=>K b1 i)))) (Ag (Ac a [] (.t (.box p 0)) 0) (fun (s:TV)=>Af .str s (fun (s4:B8)=>Ag (Ac a [] (.t (.box p 10)) 0) (fun (n:TV)=>Af (.int .i64) n (fun (n7:Int)=>((0<=n7/\n7<(s4.length:Int))/\BId (((List.getD s4 n7.toNat 0).toNat:Int)≠(10:Int)) (CallT PR Ak [(.box p 0),.int .i64 n1,.int .i64 3] [.one .bool] a (fun (b2:Bool) o=>K b2 o)) (Ag (Ac a [] (.t (.box p 10)) 0) (fun (q:TV)=>Af (.int .i64) q (fun (n8:Int)=>stB a (.box p 10) [(.int .i64 (i64.wrap (n8+(1:Int))))] (fun b=>Ag (Ac b [] (.t (.box p 0)) 0) (fun (u:TV)=>Af .str u (fun (s5:B8)=>Ag (Ac b [] (.t (.box p 10)) 0) (fun (g:TV)=>Af (.int .i64) g (fun (n9:Int)=>((0<=n1/\n1<=n9/\n9<=(s5.length:Int))/\stB b (.box r 4) [(.str (List.drop n1.toNat (List.take n9.toNat s5)))] (fun m=>K true m)))))))))))))))))))))))) (BId (((List.getD s2 n3.toNat 0).toNat:Int)=(10:Int)) (Ag (Ac st [] (.t (.box p 10)) 0) (fun (v:TV)=>Af (.int .i64) v (fun (j:Int)=>stB st (.box p 10) [(.int .i64 (i64.wrap (j+(1:Int))))] (fun d=>Ag (Ac d [] (.t (.box p 0)) 0) (fun (l:TV)=>Af .str l (fun (s6:B8)=>Ag (Ac d [] (.t (.box p 10)) 0) (fun (f:TV)=>Af (.int .i64) f (fun (c:Int)=>((0<=n1/\n1<=c/\c<=(s6.length:Int))/\stB d (.box r 4) [(.str (List.drop n1.toNat (List.take c.toNat s6)))] (fun k=>K true k)))))))))) (CallT PR Ak [(.box p 0),.int .i64 n1,.int .i64 3] [.one .bool] st (fun (b3:Bool) e=>K b3 e)))))))))))))))):CallT PR AH [(.box p 0),(.box r 0)] [.one .bool] st K:=
 Ae (cfg:=⟨[],[],[]⟩) (h:= .none) mixed (fun _ _=>Tryz.call194 _ _) Tryz.func194 (by kernel_rfl) (by kernel_rfl) h
theorem PD (kind:Int) (st:St) (K:Bool->St->Prop) (h:BId (kind=2) (BId (kind=2) (K true st) (K false st)) (BId (kind=6) (BId (kind=6) (K true st) (K false st)) (BId (kind=10) (BId (kind=10) (K true st) (K false st)) (BId (kind=11) (K true st) (K false st))))):CallT PR Hr [.int .i64 kind] [.one .bool] st K:=
 Ae (cfg:=⟨[],[],[]⟩) (h:= .none) mixed (fun _ _=>Tryz.call195 _ _) Tryz.func195 (by kernel_rfl) (by kernel_rfl) h
theorem Ml (b:Int) (st:St) (K:Bool->St->Prop) (h:BId ((97:Int)<=b) (BId (b<=122) (K true st) (BId ((65:Int)<=b) (K ((decide (b<=90))) st) (K false st))) (BId ((65:Int)<=b) (K ((decide (b<=90))) st) (K false st))):CallT PR EJ [.int .u8 b] [.one .bool] st K:=
 Ae (cfg:=⟨[],[],[]⟩) (h:= .none) mixed (fun _ _=>Tryz.call203 _ _) Tryz.func203 (by kernel_rfl) (by kernel_rfl) h
theorem Fn (x_0:B8) (x_1:Int) (x_2:Int) (x_3:Bool) (x_4:Bool) (x_5:Int) (x_6:Int) (x_7:Int) (x_8:Int) (x_9:Int) (x_10:Int) (x_11:Int) (x_12:Int) (x_13:Int) (off:Int) (e:Int) (st:St) (K:B8->Int->Int->Bool->Bool->Int->Int->Int->Int->Int->Int->Int->Int->Int->St->Prop) (h:BId (x_13=0) (K x_0 x_1 x_2 x_3 x_4 x_5 x_6 x_7 x_8 x_9 x_10 x_11 off e st) (K x_0 x_1 x_2 x_3 x_4 x_5 x_6 x_7 x_8 x_9 x_10 x_11 x_12 x_13 st)):CallT PR Ai [(.agg [.str x_0,.int .u8 x_1,.int .u8 x_2,.bool x_3,.bool x_4,.int .i64 x_5,.int .i64 x_6,.int .i64 x_7,.int .i64 x_8,.int .i64 x_9,.int .i64 x_10,.int .i64 x_11,.int .i64 x_12,.int .i64 x_13]),.int .i64 off,.int .i64 e] [.agg [.str,.int .u8,.int .u8,.bool,.bool,.int .i64,.int .i64,.int .i64,.int .i64,.int .i64,.int .i64,.int .i64,.int .i64,.int .i64]] st K:=
 Ae (cfg:=⟨[3,6],[],[]⟩) (h:= .none) mixed (fun _ _=>Tryz.call206 _ _) Tryz.func206 (by kernel_rfl) (by kernel_rfl) h
theorem Im (x_0:B8) (x_1:Int) (x_2:Int) (x_3:Bool) (x_4:Bool) (x_5:Int) (x_6:Int) (x_7:Int) (x_8:Int) (x_9:Int) (x_10:Int) (x_11:Int) (x_12:Int) (x_13:Int) (st:St) (K:B8->Int->Int->Bool->Bool->Int->Int->Int->Int->Int->Int->Int->Int->Int->B8->St->Prop) (h:BId (x_10<(x_0.length:Int)) (((0<=x_10/\x_10<(x_0.length:Int))/\BId (((List.getD x_0 x_10.toNat 0).toNat:Int)=x_2) (∃(I1:Int->B8->Int->Int->Bool->Bool->Int->Int->Int->Int->Int->Int->Int->Int->Int->St->Prop) (M1:Int->B8->Int->Int->Bool->Bool->Int->Int->Int->Int->Int->Int->Int->Int->Int->St->Nat),(I1 x_10 x_0 x_1 x_2 x_3 x_4 x_5 x_6 x_7 x_8 x_9 ((i64.wrap (x_10+(1:Int)))) x_11 x_12 x_13 st)/\∀a s1 n1 n2 b1 b2 n3 n4 n5 n6 n7 n8 n9 f i g,I1 a s1 n1 n2 b1 b2 n3 n4 n5 n6 n7 n8 n9 f i g->(BId (n8<(s1.length:Int)) (((0<=n8/\n8<(s1.length:Int))/\BId (((List.getD s1 n8.toNat 0).toNat:Int)≠n2) (((0<=n8/\n8<(s1.length:Int))/\BId (((List.getD s1 n8.toNat 0).toNat:Int)=n2) ((I1 a s1 n1 n2 b1 b2 n3 n4 n5 n6 n7 ((i64.wrap ((i64.wrap (n8+(1:Int)))+(1:Int)))) n9 f i g/\M1 a s1 n1 n2 b1 b2 n3 n4 n5 n6 n7 ((i64.wrap ((i64.wrap (n8+(1:Int)))+(1:Int)))) n9 f i g<M1 a s1 n1 n2 b1 b2 n3 n4 n5 n6 n7 n8 n9 f i g)) ((I1 a s1 n1 n2 b1 b2 n3 n4 n5 n6 n7 ((i64.wrap (n8+(1:Int)))) n9 f i g/\M1 a s1 n1 n2 b1 b2 n3 n4 n5 n6 n7 ((i64.wrap (n8+(1:Int)))) n9 f i g<M1 a s1 n1 n2 b1 b2 n3 n4 n5 n6 n7 n8 n9 f i g)))) (BId ((i64.wrap (n8+(1:Int)))<(s1.length:Int)) (((0<=(i64.wrap (n8+(1:Int)))/\(i64.wrap (n8+(1:Int)))<(s1.length:Int))/\BId (((List.getD s1 (Int.toNat (i64.wrap (n8+(1:Int)))) 0).toNat:Int)=n2) (((0<=n8/\n8<(s1.length:Int))/\BId (((List.getD s1 n8.toNat 0).toNat:Int)=n2) ((I1 a s1 n1 n2 b1 b2 n3 n4 n5 n6 n7 ((i64.wrap ((i64.wrap (n8+(1:Int)))+(1:Int)))) n9 f i g/\M1 a s1 n1 n2 b1 b2 n3 n4 n5 n6 n7 ((i64.wrap ((i64.wrap (n8+(1:Int)))+(1:Int)))) n9 f i g<M1 a s1 n1 n2 b1 b2 n3 n4 n5 n6 n7 n8 n9 f i g)) ((I1 a s1 n1 n2 b1 b2 n3 n4 n5 n6 n7 ((i64.wrap (n8+(1:Int)))) n9 f i g/\M1 a s1 n1 n2 b1 b2 n3 n4 n5 n6 n7 ((i64.wrap (n8+(1:Int)))) n9 f i g<M1 a s1 n1 n2 b1 b2 n3 n4 n5 n6 n7 n8 n9 f i g)))) (BId ((s1.length:Int)<=n8) (CallT PR Ai [(.agg [.str s1,.int .u8 n1,.int .u8 n2,.bool b1,.bool b2,.int .i64 n3,.int .i64 n4,.int .i64 n5,.int .i64 n6,.int .i64 n7,.int .i64 n8,.int .i64 n9,.int .i64 f,.int .i64 i]),(.int .i64 (s1.length:Int)),.int .i64 4] [.agg [.str,.int .u8,.int .u8,.bool,.bool,.int .i64,.int .i64,.int .i64,.int .i64,.int .i64,.int .i64,.int .i64,.int .i64,.int .i64]] g (fun (s2:B8) (g1 e6:Int) (b3 b4:Bool) (h2 c6 f8 g9 h9 d7 f7 g3 c4:Int) e4=>K s2 g1 e6 b3 b4 h2 c6 f8 g9 h9 d7 f7 g3 c4 [] e4)) (((0<=a/\a<=(i64.wrap (n8+(1:Int)))/\(i64.wrap (n8+(1:Int)))<=(s1.length:Int))/\K s1 n1 n2 b1 b2 n3 n4 n5 n6 n7 ((i64.wrap (n8+(1:Int)))) n9 f i ((List.drop a.toNat (List.take (Int.toNat (i64.wrap (n8+(1:Int)))) s1))) g))))) (BId ((s1.length:Int)<=n8) (CallT PR Ai [(.agg [.str s1,.int .u8 n1,.int .u8 n2,.bool b1,.bool b2,.int .i64 n3,.int .i64 n4,.int .i64 n5,.int .i64 n6,.int .i64 n7,.int .i64 n8,.int .i64 n9,.int .i64 f,.int .i64 i]),(.int .i64 (s1.length:Int)),.int .i64 4] [.agg [.str,.int .u8,.int .u8,.bool,.bool,.int .i64,.int .i64,.int .i64,.int .i64,.int .i64,.int .i64,.int .i64,.int .i64,.int .i64]] g (fun (s3:B8) (e1 h4:Int) (b5 b6:Bool) (f2 c5 g2 c2 g8 d4 d2 h0 g0:Int) g4=>K s3 e1 h4 b5 b6 f2 c5 g2 c2 g8 d4 d2 h0 g0 [] g4)) (((0<=a/\a<=(i64.wrap (n8+(1:Int)))/\(i64.wrap (n8+(1:Int)))<=(s1.length:Int))/\K s1 n1 n2 b1 b2 n3 n4 n5 n6 n7 ((i64.wrap (n8+(1:Int)))) n9 f i ((List.drop a.toNat (List.take (Int.toNat (i64.wrap (n8+(1:Int)))) s1))) g)))))) (BId ((s1.length:Int)<=n8) (CallT PR Ai [(.agg [.str s1,.int .u8 n1,.int .u8 n2,.bool b1,.bool b2,.int .i64 n3,.int .i64 n4,.int .i64 n5,.int .i64 n6,.int .i64 n7,.int .i64 n8,.int .i64 n9,.int .i64 f,.int .i64 i]),(.int .i64 (s1.length:Int)),.int .i64 4] [.agg [.str,.int .u8,.int .u8,.bool,.bool,.int .i64,.int .i64,.int .i64,.int .i64,.int .i64,.int .i64,.int .i64,.int .i64,.int .i64]] g (fun (s4:B8) (a9 d5:Int) (b7 b8:Bool) (e3 d1 c1 e7 f9 d0 d3 h1 d6:Int) c0=>K s4 a9 d5 b7 b8 e3 d1 c1 e7 f9 d0 d3 h1 d6 [] c0)) (((0<=a/\a<=(i64.wrap (n8+(1:Int)))/\(i64.wrap (n8+(1:Int)))<=(s1.length:Int))/\K s1 n1 n2 b1 b2 n3 n4 n5 n6 n7 ((i64.wrap (n8+(1:Int)))) n9 f i ((List.drop a.toNat (List.take (Int.toNat (i64.wrap (n8+(1:Int)))) s1))) g))))) (∃(I2:Int->B8->Int->Int->Bool->Bool->Int->Int->Int->Int->Int->Int->Int->Int->Int->St->Prop) (M2:Int->B8->Int->Int->Bool->Bool->Int->Int->Int->Int->Int->Int->Int->Int->Int->St->Nat),(I2 x_10 x_0 x_1 x_2 x_3 x_4 x_5 x_6 x_7 x_8 x_9 x_10 x_11 x_12 x_13 st)/\∀d s5 j l b9 r a3 w x t y b a0 v a2 a5,I2 d s5 j l b9 r a3 w x t y b a0 v a2 a5->(BId (b<(s5.length:Int)) (((0<=b/\b<(s5.length:Int))/\BId (((List.getD s5 b.toNat 0).toNat:Int)≠j) (((0<=b/\b<(s5.length:Int))/\BId (((List.getD s5 b.toNat 0).toNat:Int)≠(10:Int)) (((0<=b/\b<(s5.length:Int))/\BId (((List.getD s5 b.toNat 0).toNat:Int)≠(13:Int)) (((0<=b/\b<(s5.length:Int))/\BId (((List.getD s5 b.toNat 0).toNat:Int)=l) (CallT PR Ai [(.agg [.str s5,.int .u8 j,.int .u8 l,.bool b9,.bool r,.int .i64 a3,.int .i64 w,.int .i64 x,.int .i64 t,.int .i64 y,.int .i64 b,.int .i64 a0,.int .i64 v,.int .i64 a2]),.int .i64 b,.int .i64 3] [.agg [.str,.int .u8,.int .u8,.bool,.bool,.int .i64,.int .i64,.int .i64,.int .i64,.int .i64,.int .i64,.int .i64,.int .i64,.int .i64]] a5 (fun (s6:B8) (h3 g6:Int) (g7 f4:Bool) (f3 b0 e5 e8 c3 f5 f1 a8 c9:Int) d9=>K s6 h3 g6 g7 f4 f3 b0 e5 e8 c3 f5 f1 a8 c9 [] d9)) ((I2 d s5 j l b9 r a3 w x t y ((i64.wrap (b+(1:Int)))) a0 v a2 a5/\M2 d s5 j l b9 r a3 w x t y ((i64.wrap (b+(1:Int)))) a0 v a2 a5<M2 d s5 j l b9 r a3 w x t y b a0 v a2 a5)))) (((0<=d/\d<=b/\b<=(s5.length:Int))/\K s5 j l b9 r a3 w x t y b a0 v a2 ((List.drop d.toNat (List.take b.toNat s5))) a5)))) (((0<=d/\d<=b/\b<=(s5.length:Int))/\K s5 j l b9 r a3 w x t y b a0 v a2 ((List.drop d.toNat (List.take b.toNat s5))) a5)))) (((0<=d/\d<=b/\b<=(s5.length:Int))/\K s5 j l b9 r a3 w x t y b a0 v a2 ((List.drop d.toNat (List.take b.toNat s5))) a5)))) (((0<=d/\d<=b/\b<=(s5.length:Int))/\K s5 j l b9 r a3 w x t y b a0 v a2 ((List.drop d.toNat (List.take b.toNat s5))) a5)))))) (∃(I3:Int->B8->Int->Int->Bool->Bool->Int->Int->Int->Int->Int->Int->Int->Int->Int->St->Prop) (M3:Int->B8->Int->Int->Bool->Bool->Int->Int->Int->Int->Int->Int->Int->Int->Int->St->Nat),(I3 x_10 x_0 x_1 x_2 x_3 x_4 x_5 x_6 x_7 x_8 x_9 x_10 x_11 x_12 x_13 st)/\∀e s7 m k p u s n z q a1 c o a7 a6 a4,I3 e s7 m k p u s n z q a1 c o a7 a6 a4->(BId (c<(s7.length:Int)) (((0<=c/\c<(s7.length:Int))/\BId (((List.getD s7 c.toNat 0).toNat:Int)≠m) (((0<=c/\c<(s7.length:Int))/\BId (((List.getD s7 c.toNat 0).toNat:Int)≠(10:Int)) (((0<=c/\c<(s7.length:Int))/\BId (((List.getD s7 c.toNat 0).toNat:Int)≠(13:Int)) (((0<=c/\c<(s7.length:Int))/\BId (((List.getD s7 c.toNat 0).toNat:Int)=k) (CallT PR Ai [(.agg [.str s7,.int .u8 m,.int .u8 k,.bool p,.bool u,.int .i64 s,.int .i64 n,.int .i64 z,.int .i64 q,.int .i64 a1,.int .i64 c,.int .i64 o,.int .i64 a7,.int .i64 a6]),.int .i64 c,.int .i64 3] [.agg [.str,.int .u8,.int .u8,.bool,.bool,.int .i64,.int .i64,.int .i64,.int .i64,.int .i64,.int .i64,.int .i64,.int .i64,.int .i64]] a4 (fun (s8:B8) (h7 c8:Int) (h5 c7:Bool) (e9 d8 i0 e0 h6 f0 g5 e2 f6:Int) h8=>K s8 h7 c8 h5 c7 e9 d8 i0 e0 h6 f0 g5 e2 f6 [] h8)) ((I3 e s7 m k p u s n z q a1 ((i64.wrap (c+(1:Int)))) o a7 a6 a4/\M3 e s7 m k p u s n z q a1 ((i64.wrap (c+(1:Int)))) o a7 a6 a4<M3 e s7 m k p u s n z q a1 c o a7 a6 a4)))) (((0<=e/\e<=c/\c<=(s7.length:Int))/\K s7 m k p u s n z q a1 c o a7 a6 ((List.drop e.toNat (List.take c.toNat s7))) a4)))) (((0<=e/\e<=c/\c<=(s7.length:Int))/\K s7 m k p u s n z q a1 c o a7 a6 ((List.drop e.toNat (List.take c.toNat s7))) a4)))) (((0<=e/\e<=c/\c<=(s7.length:Int))/\K s7 m k p u s n z q a1 c o a7 a6 ((List.drop e.toNat (List.take c.toNat s7))) a4)))) (((0<=e/\e<=c/\c<=(s7.length:Int))/\K s7 m k p u s n z q a1 c o a7 a6 ((List.drop e.toNat (List.take c.toNat s7))) a4))))):CallT PR BV [(.agg [.str x_0,.int .u8 x_1,.int .u8 x_2,.bool x_3,.bool x_4,.int .i64 x_5,.int .i64 x_6,.int .i64 x_7,.int .i64 x_8,.int .i64 x_9,.int .i64 x_10,.int .i64 x_11,.int .i64 x_12,.int .i64 x_13])] [.agg [.str,.int .u8,.int .u8,.bool,.bool,.int .i64,.int .i64,.int .i64,.int .i64,.int .i64,.int .i64,.int .i64,.int .i64,.int .i64],.one .str] st K:=
 Ae (cfg:=⟨[1,2],[],[]⟩) (h:=(.seq .none (.seq .none (.seq (.seq .none (.cond (.seq .none (.seq (.block (.loop ⟨[(4,.int .i64)],[(1,0,0),(2,1,0)],[(0,14),(1,14)],[(0,0,.str),(0,1,.int .u8),(0,2,.int .u8),(0,3,.bool),(0,4,.bool),(0,5,.int .i64),(0,6,.int .i64),(0,7,.int .i64),(0,8,.int .i64),(0,9,.int .i64),(0,10,.int .i64),(0,11,.int .i64),(0,12,.int .i64),(0,13,.int .i64)]⟩ .none)) .none)) (.block (.loop ⟨[(4,.int .i64)],[(1,0,0),(2,1,0)],[(0,14),(1,14)],[(0,0,.str),(0,1,.int .u8),(0,2,.int .u8),(0,3,.bool),(0,4,.bool),(0,5,.int .i64),(0,6,.int .i64),(0,7,.int .i64),(0,8,.int .i64),(0,9,.int .i64),(0,10,.int .i64),(0,11,.int .i64),(0,12,.int .i64),(0,13,.int .i64)]⟩ .none)))) .none)))) mixed (fun _ _=>Tryz.call207 _ _) Tryz.func207 (by kernel_rfl) (by kernel_rfl) h
theorem Gd (x_0:B8) (x_1:Int) (x_2:Int) (x_3:Bool) (x_4:Bool) (x_5:Int) (x_6:Int) (x_7:Int) (x_8:Int) (x_9:Int) (x_10:Int) (x_11:Int) (x_12:Int) (x_13:Int) (st:St) (K:B8->Int->Int->Bool->Bool->Int->Int->Int->Int->Int->Int->Int->Int->Int->St->Prop) (h:BId (x_10<(x_0.length:Int)) (((0<=x_10/\x_10<(x_0.length:Int))/\BId (((List.getD x_0 x_10.toNat 0).toNat:Int)≠x_1) (CallT PR AD [.str x_0,.int .i64 x_10] [.one (.int .i64)] st (fun (n1:Int) a=>BId (n1=(-1:Int)) (CallT PR Ai [(.agg [.str x_0,.int .u8 x_1,.int .u8 x_2,.bool x_3,.bool x_4,.int .i64 x_5,.int .i64 x_6,.int .i64 x_7,.int .i64 x_8,.int .i64 x_9,.int .i64 x_10,.int .i64 x_11,.int .i64 x_12,.int .i64 x_13]),.int .i64 x_10,.int .i64 3] [.agg [.str,.int .u8,.int .u8,.bool,.bool,.int .i64,.int .i64,.int .i64,.int .i64,.int .i64,.int .i64,.int .i64,.int .i64,.int .i64]] a (fun (s1:B8) (n2 n3:Int) (b1 b2:Bool) (n4 n5 n6 n7 n8 n9 q k o:Int) i=>K s1 n2 n3 b1 b2 n4 n5 n6 n7 n8 n9 q k o i)) (BId (n1=(-2:Int)) (CallT PR Ai [(.agg [.str x_0,.int .u8 x_1,.int .u8 x_2,.bool x_3,.bool x_4,.int .i64 x_5,.int .i64 x_6,.int .i64 x_7,.int .i64 x_8,.int .i64 x_9,.int .i64 x_10,.int .i64 x_11,.int .i64 x_12,.int .i64 x_13]),(.int .i64 (x_0.length:Int)),.int .i64 4] [.agg [.str,.int .u8,.int .u8,.bool,.bool,.int .i64,.int .i64,.int .i64,.int .i64,.int .i64,.int .i64,.int .i64,.int .i64,.int .i64]] a (fun (s2:B8) (l f:Int) (b3 b4:Bool) (b g e n r d m j c:Int) p=>K s2 l f b3 b4 b g e n r d m j c p)) (K x_0 x_1 x_2 x_3 x_4 x_5 x_6 x_7 x_8 x_9 x_10 x_11 x_12 x_13 a)))) (K x_0 x_1 x_2 x_3 x_4 x_5 x_6 x_7 x_8 x_9 x_10 x_11 x_12 x_13 st))) (K x_0 x_1 x_2 x_3 x_4 x_5 x_6 x_7 x_8 x_9 x_10 x_11 x_12 x_13 st)):CallT PR AS [(.agg [.str x_0,.int .u8 x_1,.int .u8 x_2,.bool x_3,.bool x_4,.int .i64 x_5,.int .i64 x_6,.int .i64 x_7,.int .i64 x_8,.int .i64 x_9,.int .i64 x_10,.int .i64 x_11,.int .i64 x_12,.int .i64 x_13])] [.agg [.str,.int .u8,.int .u8,.bool,.bool,.int .i64,.int .i64,.int .i64,.int .i64,.int .i64,.int .i64,.int .i64,.int .i64,.int .i64]] st K:=
 Ae (cfg:=⟨[1,2],[],[]⟩) (h:= .none) mixed (fun _ _=>Tryz.call208 _ _) Tryz.func208 (by kernel_rfl) (by kernel_rfl) h
theorem Il (s:B8) (atx:Int) (st:St) (K:Int->St->Prop) (h:BId (atx=(s.length:Int)) (K 0 st) (((0<=atx/\atx<(s.length:Int))/\BId (((List.getD s atx.toNat 0).toNat:Int)=(10:Int)) (K 1 st) (((0<=atx/\atx<(s.length:Int))/\BId (((List.getD s atx.toNat 0).toNat:Int)≠(13:Int)) (K (-1) st) (BId ((i64.wrap (atx+(1:Int)))=(s.length:Int)) (K (-2) st) (((0<=(i64.wrap (atx+(1:Int)))/\(i64.wrap (atx+(1:Int)))<(s.length:Int))/\BId (((List.getD s (Int.toNat (i64.wrap (atx+(1:Int)))) 0).toNat:Int)=(10:Int)) (K 2 st) (K (-1) st))))))))):CallT PR AD [.str s,.int .i64 atx] [.one (.int .i64)] st K:=
 Ae (cfg:=⟨[],[],[]⟩) (h:= .none) mixed (fun _ _=>Tryz.call209 _ _) Tryz.func209 (by kernel_rfl) (by kernel_rfl) h
theorem PF (a_0:Int) (a_1:B8) (a_2:B8) (a_3:TV) (a_4:B8) (b_0:Int) (b_1:B8) (b_2:B8) (b_3:TV) (b_4:B8) (st:St) (K:Bool->St->Prop) (h:BId (a_0≠b_0) (K false st) (BId (a_1≠b_1) (K false st) (BId (a_2≠b_2) (K false st) (BId (a_4≠b_4) (K false st) (need (isSl a_3) (need (isSl b_3) (BId ((lenS a_3:Int)≠(lenS b_3:Int)) (K false st) (need (isSl a_3) (∃(I1:Int->Int->Int->B8->B8->TV->B8->Int->B8->B8->TV->B8->St->Prop) (M1:Int->Int->Int->B8->B8->TV->B8->Int->B8->B8->TV->B8->St->Nat),(I1 0 ((lenS a_3:Int)) a_0 a_1 a_2 a_3 a_4 b_0 b_1 b_2 b_3 b_4 st)/\∀a b n1 s1 s2 v1 s3 n2 s4 s5 v2 s6 c,I1 a b n1 s1 s2 v1 s3 n2 s4 s5 v2 s6 c->(BId (a<b) (((0<=a/\a<(lenZ 5 v1:Int))/\Ag ((Aj F8 [] (.t (ixT 5 v1 a.toNat)) 0 5).map TV.agg) (fun (x1:TV)=>A1 [.int .i64,.str,.str,.tv,.str] x1 (fun (n3:Int) (s7 s8:B8) (v3:TV) (s9:B8)=>((0<=a/\a<(lenZ 5 v2:Int))/\Ag ((Aj F8 [] (.t (ixT 5 v2 a.toNat)) 0 5).map TV.agg) (fun (x2:TV)=>A1 [.int .i64,.str,.str,.tv,.str] x2 (fun (n4:Int) (e f:B8) (v4:TV) (g:B8)=>CallT PR E9 [(.agg [.int .i64 n3,.str s7,.str s8,v3,.str s9]),(.agg [.int .i64 n4,.str e,.str f,v4,.str g])] [.one .bool] c (fun (b1:Bool) d=>BIf (!b1) (K false d) ((I1 ((i64.wrap (a+(1:Int)))) b n1 s1 s2 v1 s3 n2 s4 s5 v2 s6 d/\M1 ((i64.wrap (a+(1:Int)))) b n1 s1 s2 v1 s3 n2 s4 s5 v2 s6 d<M1 a b n1 s1 s2 v1 s3 n2 s4 s5 v2 s6 c)))))))))) (K true c))))))))))):CallT PR E9 [(.agg [.int .i64 a_0,.str a_1,.str a_2,a_3,.str a_4]),(.agg [.int .i64 b_0,.str b_1,.str b_2,b_3,.str b_4])] [.one .bool] st K:=
 Ae (cfg:=⟨[2,3],[],[]⟩) (h:=(.seq .none (.seq .none (.seq (.seq .none (.block (.loop ⟨[(44,.int .i64),(43,.int .i64)],[(2,0,0),(3,1,0)],[(0,5),(1,5)],[(0,0,.int .i64),(0,1,.str),(0,2,.str),(0,3,.tv),(0,4,.str),(1,0,.int .i64),(1,1,.str),(1,2,.str),(1,3,.tv),(1,4,.str)]⟩ .none))) .none)))) mixed (fun _ _=>Tryz.call252 _ _) Tryz.func252 (by kernel_rfl) (by kernel_rfl) h
theorem Ih (p:Nat) (st:St) (K:Bool->St->Prop) (h:Ag (Ac st [] (.t (.box p 10)) 0) (fun (x1:TV)=>Af (.int .i64) x1 (fun (n1:Int)=>Ag (Ac st [] (.t (.box p 0)) 0) (fun (x2:TV)=>Af .str x2 (fun (s1:B8)=>BId (n1<(s1.length:Int)) (Ag (Ac st [] (.t (.box p 0)) 0) (fun (x3:TV)=>Af .str x3 (fun (s2:B8)=>Ag (Ac st [] (.t (.box p 10)) 0) (fun (x4:TV)=>Af (.int .i64) x4 (fun (n2:Int)=>((0<=n2/\n2<(s2.length:Int))/\Ag (Ac st [] (.t (.box p 2)) 0) (fun (x5:TV)=>Af (.int .u8) x5 (fun (n3:Int)=>BId (((List.getD s2 n2.toNat 0).toNat:Int)=n3) (CallT PR Cg [(.box p 0)] [.one .bool] st (fun (b1:Bool) a3=>K b1 a3)) (∃(I1:TV->St->Prop) (M1:TV->St->Nat),(I1 ((.box p 0)) st)/\∀a d,I1 a d->(need (isPtr a) (need (isPtr a) (Ag (Ac d [] (.t (Ao a 10)) 0) (fun (x6:TV)=>Af (.int .i64) x6 (fun (n4:Int)=>need (isPtr a) (need (isPtr a) (Ag (Ac d [] (.t (Ao a 0)) 0) (fun (x7:TV)=>Af .str x7 (fun (s3:B8)=>BId (n4<(s3.length:Int)) (need (isPtr a) (need (isPtr a) (Ag (Ac d [] (.t (Ao a 0)) 0) (fun (x8:TV)=>Af .str x8 (fun (s4:B8)=>need (isPtr a) (need (isPtr a) (Ag (Ac d [] (.t (Ao a 10)) 0) (fun (x9:TV)=>Af (.int .i64) x9 (fun (n5:Int)=>((0<=n5/\n5<(s4.length:Int))/\need (isPtr a) (need (isPtr a) (need (isPtr (Ao a 1)) (Ag (Ac d [] (.t (Ao (Ao a 1) 0)) 0) (fun (y:TV)=>Af (.int .u8) y (fun (n6:Int)=>BId (((List.getD s4 n5.toNat 0).toNat:Int)=n6) (BId (((List.getD s4 n5.toNat 0).toNat:Int)=n6) (K true d) (need (isPtr a) (need (isPtr a) (need (isPtr (Ao a 1)) (Ag (Ac d [] (.t (Ao (Ao a 1) 1)) 0) (fun (d9:TV)=>Af (.int .u8) d9 (fun (n7:Int)=>BId (((List.getD s4 n5.toNat 0).toNat:Int)=n7) (need (isPtr a) (need (isPtr a) (Ag (Ac d [] (.t (Ao a 10)) 0) (fun (e1:TV)=>Af (.int .i64) e1 (fun (n8:Int)=>CallT PR Ak [a,.int .i64 n8,.int .i64 3] [.one .bool] d (fun (b2:Bool) e2=>K b2 e2)))))) (need (isPtr a) (need (isPtr a) (Ag (Ac d [] (.t (Ao a 10)) 0) (fun (z:TV)=>Af (.int .i64) z (fun (n9:Int)=>need (isPtr a) (need (isPtr a) (stB d (Ao a 10) [(.int .i64 (i64.wrap (n9+(1:Int))))] (fun j=>(I1 a j/\M1 a j<M1 a d)))))))))))))))) (BId (((List.getD s4 n5.toNat 0).toNat:Int)=(10:Int)) (BId (((List.getD s4 n5.toNat 0).toNat:Int)=(10:Int)) (K true d) (need (isPtr a) (need (isPtr a) (need (isPtr (Ao a 1)) (Ag (Ac d [] (.t (Ao (Ao a 1) 1)) 0) (fun (u:TV)=>Af (.int .u8) u (fun (a7:Int)=>BId (((List.getD s4 n5.toNat 0).toNat:Int)=a7) (need (isPtr a) (need (isPtr a) (Ag (Ac d [] (.t (Ao a 10)) 0) (fun (a1:TV)=>Af (.int .i64) a1 (fun (d4:Int)=>CallT PR Ak [a,.int .i64 d4,.int .i64 3] [.one .bool] d (fun (b3:Bool) a5=>K b3 a5)))))) (need (isPtr a) (need (isPtr a) (Ag (Ac d [] (.t (Ao a 10)) 0) (fun (a4:TV)=>Af (.int .i64) a4 (fun (c9:Int)=>need (isPtr a) (need (isPtr a) (stB d (Ao a 10) [(.int .i64 (i64.wrap (c9+(1:Int))))] (fun k=>(I1 a k/\M1 a k<M1 a d)))))))))))))))) (BId (((List.getD s4 n5.toNat 0).toNat:Int)=(13:Int)) (K true d) (need (isPtr a) (need (isPtr a) (need (isPtr (Ao a 1)) (Ag (Ac d [] (.t (Ao (Ao a 1) 1)) 0) (fun (c0:TV)=>Af (.int .u8) c0 (fun (d8:Int)=>BId (((List.getD s4 n5.toNat 0).toNat:Int)=d8) (need (isPtr a) (need (isPtr a) (Ag (Ac d [] (.t (Ao a 10)) 0) (fun (a8:TV)=>Af (.int .i64) a8 (fun (c3:Int)=>CallT PR Ak [a,.int .i64 c3,.int .i64 3] [.one .bool] d (fun (b4:Bool) d7=>K b4 d7)))))) (need (isPtr a) (need (isPtr a) (Ag (Ac d [] (.t (Ao a 10)) 0) (fun (w:TV)=>Af (.int .i64) w (fun (d1:Int)=>need (isPtr a) (need (isPtr a) (stB d (Ao a 10) [(.int .i64 (i64.wrap (d1+(1:Int))))] (fun l=>(I1 a l/\M1 a l<M1 a d)))))))))))))))))))))))))))))))) (K true d))))))))))))))))))) (∃(I2:TV->St->Prop) (M2:TV->St->Nat),(I2 ((.box p 0)) st)/\∀b c,I2 b c->(need (isPtr b) (need (isPtr b) (Ag (Ac c [] (.t (Ao b 10)) 0) (fun (d0:TV)=>Af (.int .i64) d0 (fun (c2:Int)=>need (isPtr b) (need (isPtr b) (Ag (Ac c [] (.t (Ao b 0)) 0) (fun (a2:TV)=>Af .str a2 (fun (s5:B8)=>BId (c2<(s5.length:Int)) (need (isPtr b) (need (isPtr b) (Ag (Ac c [] (.t (Ao b 0)) 0) (fun (b0:TV)=>Af .str b0 (fun (s6:B8)=>need (isPtr b) (need (isPtr b) (Ag (Ac c [] (.t (Ao b 10)) 0) (fun (c5:TV)=>Af (.int .i64) c5 (fun (e:Int)=>((0<=e/\e<(s6.length:Int))/\need (isPtr b) (need (isPtr b) (need (isPtr (Ao b 1)) (Ag (Ac c [] (.t (Ao (Ao b 1) 0)) 0) (fun (v:TV)=>Af (.int .u8) v (fun (m:Int)=>BId (((List.getD s6 e.toNat 0).toNat:Int)=m) (BId (((List.getD s6 e.toNat 0).toNat:Int)=m) (K true c) (need (isPtr b) (need (isPtr b) (need (isPtr (Ao b 1)) (Ag (Ac c [] (.t (Ao (Ao b 1) 1)) 0) (fun (d3:TV)=>Af (.int .u8) d3 (fun (a0:Int)=>BId (((List.getD s6 e.toNat 0).toNat:Int)=a0) (need (isPtr b) (need (isPtr b) (Ag (Ac c [] (.t (Ao b 10)) 0) (fun (b9:TV)=>Af (.int .i64) b9 (fun (c1:Int)=>CallT PR Ak [b,.int .i64 c1,.int .i64 3] [.one .bool] c (fun (b5:Bool) n=>K b5 n)))))) (need (isPtr b) (need (isPtr b) (Ag (Ac c [] (.t (Ao b 10)) 0) (fun (s:TV)=>Af (.int .i64) s (fun (e0:Int)=>need (isPtr b) (need (isPtr b) (stB c (Ao b 10) [(.int .i64 (i64.wrap (e0+(1:Int))))] (fun g=>(I2 b g/\M2 b g<M2 b c)))))))))))))))) (BId (((List.getD s6 e.toNat 0).toNat:Int)=(10:Int)) (BId (((List.getD s6 e.toNat 0).toNat:Int)=(10:Int)) (K true c) (need (isPtr b) (need (isPtr b) (need (isPtr (Ao b 1)) (Ag (Ac c [] (.t (Ao (Ao b 1) 1)) 0) (fun (a6:TV)=>Af (.int .u8) a6 (fun (c4:Int)=>BId (((List.getD s6 e.toNat 0).toNat:Int)=c4) (need (isPtr b) (need (isPtr b) (Ag (Ac c [] (.t (Ao b 10)) 0) (fun (d2:TV)=>Af (.int .i64) d2 (fun (b8:Int)=>CallT PR Ak [b,.int .i64 b8,.int .i64 3] [.one .bool] c (fun (b6:Bool) o=>K b6 o)))))) (need (isPtr b) (need (isPtr b) (Ag (Ac c [] (.t (Ao b 10)) 0) (fun (r:TV)=>Af (.int .i64) r (fun (c8:Int)=>need (isPtr b) (need (isPtr b) (stB c (Ao b 10) [(.int .i64 (i64.wrap (c8+(1:Int))))] (fun i=>(I2 b i/\M2 b i<M2 b c)))))))))))))))) (BId (((List.getD s6 e.toNat 0).toNat:Int)=(13:Int)) (K true c) (need (isPtr b) (need (isPtr b) (need (isPtr (Ao b 1)) (Ag (Ac c [] (.t (Ao (Ao b 1) 1)) 0) (fun (c6:TV)=>Af (.int .u8) c6 (fun (x:Int)=>BId (((List.getD s6 e.toNat 0).toNat:Int)=x) (need (isPtr b) (need (isPtr b) (Ag (Ac c [] (.t (Ao b 10)) 0) (fun (d5:TV)=>Af (.int .i64) d5 (fun (c7:Int)=>CallT PR Ak [b,.int .i64 c7,.int .i64 3] [.one .bool] c (fun (b7:Bool) q=>K b7 q)))))) (need (isPtr b) (need (isPtr b) (Ag (Ac c [] (.t (Ao b 10)) 0) (fun (a9:TV)=>Af (.int .i64) a9 (fun (d6:Int)=>need (isPtr b) (need (isPtr b) (stB c (Ao b 10) [(.int .i64 (i64.wrap (d6+(1:Int))))] (fun f=>(I2 b f/\M2 b f<M2 b c)))))))))))))))))))))))))))))))) (K true c)))))))))))))))):CallT PR BT [(.box p 0)] [.one .bool] st K:=
 Ae (cfg:=⟨[],[],[]⟩) (h:=(.seq .none (.seq .none (.seq (.block (.loop ⟨[(0,.tv)],[],[],[]⟩ .none)) .none)))) mixed (fun _ _=>Tryz.call265 _ _) Tryz.func265 (by kernel_rfl) (by kernel_rfl) h
theorem G1 (p:Nat) (st:St) (K:Bool->St->Prop) (h:Ag (Ac st [] (.t (.box p 10)) 0) (fun (x1:TV)=>Af (.int .i64) x1 (fun (n1:Int)=>stB st (.box p 10) [(.int .i64 (i64.wrap (n1+(1:Int))))] (fun i=>∃(I1:TV->St->Prop) (M1:TV->St->Nat),(I1 ((.box p 0)) i)/\∀a b,I1 a b->(need (isPtr a) (need (isPtr a) (Ag (Ac b [] (.t (Ao a 10)) 0) (fun (x2:TV)=>Af (.int .i64) x2 (fun (n2:Int)=>need (isPtr a) (need (isPtr a) (Ag (Ac b [] (.t (Ao a 0)) 0) (fun (x3:TV)=>Af .str x3 (fun (s1:B8)=>BId (n2<(s1.length:Int)) (need (isPtr a) (need (isPtr a) (Ag (Ac b [] (.t (Ao a 0)) 0) (fun (x4:TV)=>Af .str x4 (fun (s2:B8)=>need (isPtr a) (need (isPtr a) (Ag (Ac b [] (.t (Ao a 10)) 0) (fun (x5:TV)=>Af (.int .i64) x5 (fun (n3:Int)=>((0<=n3/\n3<(s2.length:Int))/\need (isPtr a) (need (isPtr a) (need (isPtr (Ao a 1)) (Ag (Ac b [] (.t (Ao (Ao a 1) 1)) 0) (fun (x6:TV)=>Af (.int .u8) x6 (fun (n4:Int)=>BId (((List.getD s2 n3.toNat 0).toNat:Int)≠n4) (need (isPtr a) (need (isPtr a) (Ag (Ac b [] (.t (Ao a 10)) 0) (fun (x7:TV)=>Af (.int .i64) x7 (fun (n5:Int)=>need (isPtr a) (need (isPtr a) (stB b (Ao a 10) [(.int .i64 (i64.wrap (n5+(1:Int))))] (fun d=>(I1 a d/\M1 a d<M1 a b))))))))) (need (isPtr a) (need (isPtr a) (Ag (Ac b [] (.t (Ao a 10)) 0) (fun (x8:TV)=>Af (.int .i64) x8 (fun (n6:Int)=>need (isPtr a) (need (isPtr a) (stB b (Ao a 10) [(.int .i64 (i64.wrap (n6+(1:Int))))] (fun c=>need (isPtr a) (need (isPtr a) (Ag (Ac c [] (.t (Ao a 10)) 0) (fun (x9:TV)=>Af (.int .i64) x9 (fun (n7:Int)=>need (isPtr a) (need (isPtr a) (Ag (Ac c [] (.t (Ao a 0)) 0) (fun (m:TV)=>Af .str m (fun (s3:B8)=>BId (n7=(s3.length:Int)) (K true c) (need (isPtr a) (need (isPtr a) (Ag (Ac c [] (.t (Ao a 0)) 0) (fun (k:TV)=>Af .str k (fun (s4:B8)=>need (isPtr a) (need (isPtr a) (Ag (Ac c [] (.t (Ao a 10)) 0) (fun (l:TV)=>Af (.int .i64) l (fun (n8:Int)=>((0<=n8/\n8<(s4.length:Int))/\need (isPtr a) (need (isPtr a) (need (isPtr (Ao a 1)) (Ag (Ac c [] (.t (Ao (Ao a 1) 1)) 0) (fun (n:TV)=>Af (.int .u8) n (fun (n9:Int)=>BId (((List.getD s4 n8.toNat 0).toNat:Int)≠n9) (K true c) (need (isPtr a) (need (isPtr a) (Ag (Ac c [] (.t (Ao a 10)) 0) (fun (f:TV)=>Af (.int .i64) f (fun (g:Int)=>need (isPtr a) (need (isPtr a) (stB c (Ao a 10) [(.int .i64 (i64.wrap (g+(1:Int))))] (fun e=>(I1 a e/\M1 a e<M1 a b))))))))))))))))))))))))))))))))))))))))))))))))))))))) (need (isPtr a) (need (isPtr a) (Ag (Ac b [] (.t (Ao a 0)) 0) (fun (o:TV)=>Af .str o (fun (s5:B8)=>CallT PR Ak [a,(.int .i64 (s5.length:Int)),.int .i64 4] [.one .bool] b (fun (b1:Bool) j=>K b1 j))))))))))))))))))):CallT PR Cg [(.box p 0)] [.one .bool] st K:=
 Ae (cfg:=⟨[],[],[]⟩) (h:=(.seq .none (.seq (.seq .none (.block (.loop ⟨[(0,.tv)],[],[],[]⟩ .none))) .none))) mixed (fun _ _=>Tryz.call299 _ _) Tryz.func299 (by kernel_rfl) (by kernel_rfl) h
end Go.TVF
