/- What the laws below rest on: a framework for Go programs, and contracts of the functions that they reach. -/
import Derived.Test.YtahjbepjlconkaaGreatDoorZqB
import Derived.Deep.Slices
import Derived.WideShapes
import Derived.ChangeArms
import Derived.OpenShut
import Derived.Test.YtahjbepjlconkaaGreatDoorProg
import Derived.KernelRfl
set_option maxRecDepth 20000
set_option linter.unusedVariables false
set_option linter.unusedSimpArgs false
section
namespace Go.TVF
open Go.IntKind(i64 u8)
open Go.RowKit (Below)
theorem UG {P:Program} {Q:Exit->Act->World->Prop} {a:Act} {w:World} {c:Code} (I:Nat->Act->World->Prop) (h₀:∃m,I m a w)
  (round:∀m a w,I m a w->c.wp P (Exit.then (λa' w'=>∃m',m'<m/\I m' a' w') Q) a w):(Code.loop c).wp P Q a w:=by
 intro b k cs;have key:∀m a w,I m a w->∃e a' w',Q e a' w'/\Arrives P (lone (b.at a (.code c:: .inLoop c::k)) cs w) b k cs e a' w':=by
  intro m;induction m using Nat.strongRecOn with
  | _ m ih=>
   intro a w hI;obtain⟨e,a₁,w₁,hq,harr⟩:=round m a w hI b (.inLoop c::k) cs;cases e with
   | normal=>
    obtain⟨m',hlt,hI₁⟩:=hq;obtain⟨e₂,a₂,w₂,hq₂,harr₂⟩:=ih m' hlt a₁ w₁ hI₁;exact⟨e₂,a₂,w₂,hq₂,.of_steps (Steps.trans harr (.one step_inLoop)) harr₂⟩
   | exit id=>exact⟨_,a₁,w₁,hq,.pass (x:= .inLoop c) rfl (λ_ _=> .inl (by simp)) harr⟩
   | goto l=>exact⟨_,a₁,w₁,hq,.pass (x:= .inLoop c) rfl (λ_ _=> .inl (by simp)) harr⟩
   | ret=>exact⟨_,a₁,w₁,hq,.pass (x:= .inLoop c) rfl (λ_ _=> .inl (by simp)) harr⟩
   | panic ch=>exact⟨_,a₁,w₁,hq,.pass (x:= .inLoop c) rfl (λ_ _=> .inl (by simp)) harr⟩
   | outgrown=>exact⟨_,a₁,w₁,hq,.pass (x:= .inLoop c) rfl (λ_ _=> .inl (by simp)) harr⟩
 obtain⟨m,hm⟩:=h₀;obtain⟨e,a',w',hq,harr⟩:=key m a w hm;exact⟨e,a',w',hq,.of_steps (.one step_loop) harr⟩
theorem Rn:∀{cs:List CTy} {vs:List TV} {I:Fun cs (St->Prop)} {M:Fun cs (St->Nat)} {B:List TV->Nat->St->Prop} {st:St},AllC cs I M B->L5 cs vs I (λp=>p st)->∃m,B vs m st
 | [],[],I,M,B,st,h,hd=>⟨_,h st hd⟩
 | [],_::_,I,M,B,st,h,hd=>hd.elim
 | _::_,[],I,M,B,st,h,hd=>hd.elim
 | c::cs,v::vs,I,M,B,st,h,hd=>by
  obtain⟨y,rfl,hd2⟩:=E9 hd;exact Rn (B:=λl=>B (enc c y::l)) (h y) hd2
theorem SZ:∀{cs:List CTy} {vs:List TV} {I:Fun cs (St->Prop)} {M:Fun cs (St->Nat)} {B:List TV->Nat->St->Prop} {st:St} {m:Nat},AllC cs I M B->Wj cs vs I M (λp q=>p st/\q st<m)->∃m',m'<m/\B vs m' st
 | [],[],I,M,B,st,m,h,hd=>⟨_,hd.2,h st hd.1⟩
 | [],_::_,I,M,B,st,m,h,hd=>hd.elim
 | _::_,[],I,M,B,st,m,h,hd=>hd.elim
 | c::cs,v::vs,I,M,B,st,m,h,hd=>by
  obtain⟨y,rfl,hd2⟩:=E9 hd;exact SZ (B:=λl=>B (enc c y::l)) (h y) hd2
theorem O2:∀{cs:List CTy} {vs:List TV} {I:Fun cs (St->Prop)} {B:List TV->St->Prop} {st:St},AllC1 cs I B->L5 cs vs I (λp=>p st)->B vs st
 | [],[],I,B,st,h,hd=>h st hd
 | [],_::_,I,B,st,h,hd=>hd.elim
 | _::_,[],I,B,st,h,hd=>hd.elim
 | c::cs,v::vs,I,B,st,h,hd=>by
  obtain⟨y,rfl,hd2⟩:=E9 hd;exact O2 (B:=λl=>B (enc c y::l)) (h y) hd2
def JY (g:Ak) (w:World) (a0:Act) (E:TV->St->Prop) (Q:Exit->Fr->St->Prop) (e:Exit) (a:Act) (w':World):Prop:=
 match e with
 | .panic ch=>∃v,ch=[{v,recovered:=false}]/\Du g w E v w'/\a.defers=a0.defers
 | e=>JX g w a0 (Q e) a w'
theorem JY.x {g:Ak} {w:World} {a:Act} {E:TV->St->Prop} {Q:Exit->Fr->St->Prop}:XQ g w E a (JY g w a E Q):=λv a w' h hd=>⟨v,rfl,h,hd⟩
theorem JY.ext {g0 g:Ak} {w0 w:World} {a0 a1:Act} {E:TV->St->Prop} {Q:Exit->Fr->St->Prop} {e:Exit} {a:Act} {w':World} (x:Ext g0 w0 g w) (h5:a1.defers=a0.defers/\a1.tmps.size=a0.tmps.size) (h:JY g w a1 E Q e a w'):JY g0 w0 a0 E Q e a w':=by
 unfold JY at h⊢;grind [Du.ext,JX.ext]
section
variable {P:Program} {cfg:Cfg} {ns nl:Nat}
theorem Lp (hm:P.follows .mixedOrders=true):∀(c:Code) (h:II) (Q:Exit->Fr->St->Prop) (fr:Fr) (st:St) (g:Ak) (w:World) (a:Act),cwp cfg P ns nl c h Q fr st->Sim g st fr.loc w->DM g w fr a.tmps->a.tmps.size=ns->
  c.wp P (JY g w a cfg.exc Q) a w:=by
 intro c;induction c with
 | skip=>intro h Q fr st g w a hc s hf hn;exact wp_skip ⟨fr,st,g,hc,s,hf,Ext.refl _ _,rfl,rfl⟩
 | region id ops draw=>
  intro h Q fr st g w a hc s hf hn;cases draw with
  | false=>exact wp_region_list (HW ops.toList fr st g w a hc s hf (λa' w' hp=>hp) JY.x)
  | true=>exact Ud hm hc s hf (λa' w' hp=>hp) JY.x
 | seq x y ihx ihy=>
  intro h Q fr st g w a hc s hf hn;have key:∀(hx hy:II),cwp cfg P ns nl x hx (Sg (cwp cfg P ns nl y hy Q) Q) fr st->(Code.seq x y).wp P (JY g w a cfg.exc Q) a w:=by
   intro hx hy hcx;refine wp_seq (wp_mono (ihx hx _ fr st g w a hcx s hf hn) λe a' w' hq=>?_);cases e with
   | normal=>
    obtain⟨fr',st',g',h1,h2,h3,h4,h5⟩:=hq;refine wp_mono (ihy hy Q fr' st' g' w' a' h1 h2 h3 (h5.2.trans hn)) λe a'' w'' hq2=>?_;grind [JY.ext]
   | _=>exact hq
  cases h with
  | cut k hx hy=>
   obtain⟨R,h1,h2⟩:=hc;refine wp_seq (wp_mono (ihx hx _ fr st g w a h1 s hf hn) λe a' w' hq=>?_);cases e with
   | normal=>
    obtain⟨fr',st',g',q1,q2,q3,q4,q5⟩:=hq;have q1':need (k.ok nl fr') (L5 k.tys (k.vals fr') R λp=>p st'):=q1;rw[Al]at q1';obtain⟨w1,w2⟩:=Gu.weak (ns:=ns) q1'.1 q2 q3 (q5.2.trans hn);have hb:=O2 h2 q1'.2;exact wp_mono (ihy hy Q _ st' g' w' a' hb w1 w2 (q5.2.trans hn)) λe a'' w'' hq2=>hq2.ext q4 q5
   | _=>exact hq
  | none=>exact key _ _ hc
  | seq p q=>exact key _ _ hc
  | cond p q=>exact key _ _ hc
  | block p=>exact key _ _ hc
  | loop k p=>exact key _ _ hc
 | cond c x y ihx ihy=>
  intro h Q fr st g w a hc s hf hn;simp[cwp]at hc;split at hc
  ·rename_i b hb
   have hr:=Px hf c;rw[hb]at hr;have hr':=hr;have hev:a.eval c= .bool b:=by generalize a.eval c=q at hr';cases hr';rfl
   cases b with
   | true=>exact wp_cond_true hev (ihx h.l Q fr st g w a hc s hf hn)
   | false=>exact wp_cond_false hev (ihy h.r Q fr st g w a hc s hf hn)
  simp_all
 | block id x ih=>
  intro h Q fr st g w a hc s hf hn;refine wp_block (wp_mono (ih h.l (Yl id Q) fr st g w a hc s hf hn) λe a' w' hq=>?_);cases e with
  | exit id'=>
   obtain⟨fr',st',g',h1,h2,h3,h4,h5⟩:=hq;simp[Yl]at h1;by_cases hid:id'=id
   ·subst hid
    have hbe:=Nat.beq_refl id';simp at h1;simp[Exit.inBlock,if_true];exact⟨fr',st',g',h1,h2,h3,h4,h5⟩
   ·have hbe:(id'.beq id)=false:=by
     grind [Nat.eq_of_beq_eq_true]
    simp[hbe]at h1;simp[Exit.inBlock,hid,if_false];exact⟨fr',st',g',h1,h2,h3,h4,h5⟩
  | _=>exact hq
 | loop x ih=>
  intro h Q fr st g w a hc s hf hn;cases h with
  | loop k hx=>
   obtain⟨I,M,h1,h2⟩:=hc;rw[Al]at h1;refine UG (λm a' w'=>∃vals st' g',cwp cfg P ns nl x hx (Sg (λfr st=>need (k.ok nl fr) (Wj k.tys (k.vals fr) I M λp q=>p st/\q st<m)) Q) (k.frame ns nl vals) st'/\
    Sim g' st' (k.frame ns nl vals).loc w'/\DM g' w' (k.frame ns nl vals) a'.tmps/\Ext g w g' w'/\a'.defers=a.defers/\a'.tmps.size=a.tmps.size) ?_ ?_
   ·obtain⟨m,hm⟩:=Rn h2 h1.2
    obtain⟨w1,w2⟩:=Gu.weak (ns:=ns) h1.1 s hf hn;exact⟨m,_,st,g,hm,w1,w2,Ext.refl _ _,rfl,rfl⟩
   ·rintro m a' w' ⟨vals,st',g',q1,q2,q3,q4,q5⟩
    refine wp_mono (ih hx _ _ st' g' w' a' q1 q2 q3 (q5.2.trans hn)) λe a'' w'' hq=>?_;cases e with
    | normal=>
     obtain⟨fr2,st2,g2,r1,r2,r3,r4,r5⟩:=hq;have r1':need (k.ok nl fr2) (Wj k.tys (k.vals fr2) I M λp q=>p st2/\q st2<m):=r1;rw[Al]at r1';obtain⟨m',hlt,hB⟩:=SZ h2 r1'.2;obtain⟨w1,w2⟩:=Gu.weak (ns:=ns) r1'.1 r2 r3 (r5.2.trans (q5.2.trans hn));exact⟨m',hlt,_,st2,g2,hB,w1,w2,q4.trans r4,r5.1.trans q5.1,r5.2.trans q5.2⟩
    | _=>exact hq.ext q4 q5
  | _=>exact hc.elim
 | exit id=>intro h Q fr st g w a hc s hf hn;exact wp_exit ⟨fr,st,g,hc,s,hf,Ext.refl _ _,rfl,rfl⟩
 | ret=>intro h Q fr st g w a hc s hf hn;exact wp_ret ⟨fr,st,g,hc,s,hf,Ext.refl _ _,rfl,rfl⟩
 | _=>intro h Q fr st g w a hc s hf hn;exact hc.elim
def Oc (P:Program) (fr:Fr) (st:St):ResultVar->Option TV
 | .tmp t=>some (N9 fr t)
 | .cell a t=>match MJ P t with
  | some true=>match P.cellsOf t with
   | 0=>none
   | n=>(AE st fr.loc (fr.slots.f a) 0 n).map .agg
  | some false=>Af st fr.loc (fr.slots.f a) 0
  | none=>none
def KF (P:Program) (fr:Fr) (st:St):List ResultVar->Option (List TV)
 | []=>some []
 | r::rs=>match Oc P fr st r with
  | some v=>(KF P fr st rs).map (v::·)
  | none=>none
def ZZ:List TV->TV
 | [v]=>v
 | vs=> .tuple vs
def resT (P:Program) (fn:Func) (fr:Fr) (st:St):Option TV:=(KF P fr st fn.results.toList).map ZZ
def TC (P:Program) (fr:Fr) (st:St) (r:ResultVar) (k:TV->Prop):Prop:=
 match r with
 | .tmp t=>k (N9 fr t)
 | .cell a t=>match MJ P t with
  | some true=>match P.cellsOf t with
   | 0=>False
   | n=>AS ((AE st fr.loc (fr.slots.f a) 0 n).map .agg) k
  | some false=>AS (Af st fr.loc (fr.slots.f a) 0) k
  | none=>False
def Js (P:Program) (fr:Fr) (st:St):List ResultVar->(List TV->Prop)->Prop
 | [],k=>k []
 | r::rs,k=>TC P fr st r λv=>Js P fr st rs λvs=>k (v::vs)
theorem RR {P:Program} {fr:Fr} {st:St} {r:ResultVar} {k:TV->Prop} (h:TC P fr st r k):∃v,Oc P fr st r=some v/\k v:=by
 cases r<;>grind [Oc,TC,DF]
theorem Ip {P:Program} {fr:Fr} {st:St}:∀{rs:List ResultVar} {k:List TV->Prop},Js P fr st rs k->∃vs,KF P fr st rs=some vs/\k vs
 | [],k,h=>⟨[],rfl,h⟩
 | r::rs,k,h=>by
  obtain⟨v,h1,h2⟩:=RR h;obtain⟨vs,h3,h4⟩:=Ip h2;exact⟨v::vs,by simp[KF,h1,h3],h4⟩
def retQ (P:Program) (fn:Func) (R:TV->St->Prop):Exit->Fr->St->Prop
 | .normal,fr,st=>Js P fr st fn.results.toList λvs=>R (ZZ vs) st
 | .ret,fr,st=>Js P fr st fn.results.toList λvs=>R (ZZ vs) st
 | _,_,_=>False
def Co (cfg:Cfg) (fn:Func) (args:List TV):Fr:=⟨⟨fn.ntmps,λi=>match args[i]? with | some v=> .t v | none=> .t .undef⟩,cfg.loc.map λ_=>none⟩
theorem TB {g:Ak} {st:St} {w:World} {fr:Fr} {tmps:Array Value} (s:Sim g st fr.loc w) (hf:DM g w fr tmps) {r:ResultVar} {v:TV} (h:Oc P fr st r=some v):
  ∃u,(match r with | .tmp t=>pure (tmps.getD t Go.undef) | .cell a t=>do loadVar t (<-asAddr (tmps.getD a Go.undef)):Sem Value).run P w= .ok u w/\Rel g w v u:=by
 cases r with
 | tmp t=>
  simp[Oc,Option.some.injEq]at h;subst h;exact⟨_,rfl,(hf.2 t).tv⟩
 | cell a t=>
  simp[Oc]at h;have hld:∀p,Cd g w fr.loc p (tmps.getD a Go.undef)->(Fk P st fr.loc t p).Is (.t v)->∃u,(do loadVar t (<-asAddr (tmps.getD a Go.undef)):Sem Value).run P w= .ok u w/\Rel g w v u:=by
   intro p hp hl;have hl':=hl;obtain⟨u,hu,hr⟩:=QK (P:=P) s hp hl';have hsa:(Instr.loadAt t (tmps.getD a Go.undef)).run P w=(do loadVar t (<-asAddr (tmps.getD a Go.undef)):Sem Value).run P w:=by
    generalize hq:tmps.getD a Go.undef=q at hp hu;cases q with
    | pointer o=>cases o<;>simp_all[Go.Instr.loadAt,Go.Instr.sureAddr,Go.asAddr]
    | _=>simp[Instr.loadAt,Instr.sureAddr]at hu
   exact⟨u,by simp_all,hr⟩
  split at h
  ·rename_i ha
   split at h
   ·cases h
   ·refine hld _ (hf.2 a) ?_
    unfold Fk;rw[ha];exact⟨v,by
     grind,rfl⟩
  ·rename_i ha
   refine hld _ (hf.2 a) ?_;unfold Fk;rw[ha];exact⟨v,h,rfl⟩
  ·cases h
theorem Nh {g:Ak} {st:St} {w:World} {fr:Fr} {tmps:Array Value} (s:Sim g st fr.loc w) (hf:DM g w fr tmps):∀{rs:List ResultVar} {vs:List TV},KF P fr st rs=some vs->
  ∃us:List Value,(rs.mapM (λr=>match r with | .tmp t=>pure (tmps.getD t Go.undef) | .cell a t=>do loadVar t (<-asAddr (tmps.getD a Go.undef))):Sem (List Value)).run P w= .ok us w/\AP g w vs us
 | [],vs,h=>by simp_all[AP.nil,KF]
 | r::rs,vs,h=>by
  simp[KF]at h;split at h
  ·rename_i v hv
   obtain⟨vs',hvs',rfl⟩:=Option.map_eq_some_iff.1 h;obtain⟨u,hu,hr⟩:=TB s hf hv;obtain⟨us,hus,hrs⟩:=Nh s hf hvs';refine⟨u::us,?_,.cons hr hrs⟩;rw[List.mapM_cons];simp only[Sem.run_bind,hu,Result.andThen_ok,hus,Sem.run_pure]
  ·cases h
theorem Ql {g:Ak} {st:St} {w:World} {fr:Fr} {tmps:Array Value} (s:Sim g st fr.loc w) (hf:DM g w fr tmps) {fn:Func} {v:TV} (h:resT P fn fr st=some v):∃u,(results fn tmps).run P w= .ok u w/\Rel g w v u:=by
 unfold resT at h;cases hr:KF P fr st fn.results.toList with
 | none=>simp_all
 | some vs=>
  rw[hr]at h;obtain⟨us,hus,hrel⟩:=Nh s hf hr;have hrun:(fn.results.mapM (λr=>match r with | .tmp t=>pure (tmps.getD t Go.undef) | .cell a t=>do loadVar t (<-asAddr (tmps.getD a Go.undef))):Sem (Array Value)).run P w= .ok us.toArray w:=by
   rw[<-Array.toArray_toList (xs:=fn.results),List.mapM_toArray];simp_all
  refine⟨if h:us.toArray.size=1 then us.toArray[0]else .tuple us.toArray,?_,?_⟩
  ·have hres:results fn tmps=(do
     let vs<-(fn.results.mapM (λr=>match r with | .tmp t=>pure (tmps.getD t Go.undef) | .cell a t=>do loadVar t (<-asAddr (tmps.getD a Go.undef))):Sem (Array Value))
     pure (if h:vs.size=1 then vs[0]else .tuple vs)):=rfl
   simp_all
  ·cases vs with
   | nil=>
    simp at h;subst h;have:=List.eq_nil_of_length_eq_zero hrel.1.symm;subst this;exact Rel.tuple [] [] rfl (λi hi=>absurd hi (Nat.not_lt_zero _))
   | cons v1 vs1=>cases vs1 with
    | nil=>
     simp[Option.map_some,Option.some.injEq,ZZ]at h;subst h;cases us with
     | nil=>have:=hrel.1;simp_all
     | cons u1 us1=>
      have:us1=[]:=List.eq_nil_of_length_eq_zero (by have:=hrel.1;simp_all);subst this;simpa using hrel.2 0 (by simp)
    | cons v2 vs2=>
     simp at h;subst h;have hl:us.toArray.size≠1:=by have:=hrel.1;grind
     rw[dif_neg hl];exact Rel.tuple _ us hrel.1 hrel.2
theorem Z2 (hm:P.follows .mixedOrders=true) {f:FuncId} {fn:Func} {c:Code} (hcall:∀(vs:Array Value) (w:World),(callFunc f vs).run P w= .ok (.enter f vs) w) (hf:P.funcs[f]? =some fn) (hb:fn.body=some c)
  (cfg:Cfg) (h:II) {args:List TV} {st:St} {R:TV->St->Prop} (hn:args.length<=fn.ntmps)
  (hc:cwp cfg P fn.ntmps cfg.loc.length c h (retQ P fn R) (Co cfg fn args) st):Cx cfg.exc P f args st R:=by
 refine LP hcall λg w vargs s hr=>?_;refine calls_of_wp hf hb ?_;have hlen:=hr.1.symm;have hsize:(vargs.toArray++Array.replicate (fn.ntmps-vargs.toArray.size) Go.undef).size=fn.ntmps:=by simp;omega
 have hsim:Sim g st (Co cfg fn args).loc w:=s.weakLoc λj x' hx'=>by
  grind [Co]
 have hfr:DM g w (Co cfg fn args) (vargs.toArray++Array.replicate (fn.ntmps-vargs.toArray.size) Go.undef):=by
  refine⟨by rw[hsize];rfl,λi=>?_⟩;by_cases hia:i<args.length
  ·have h1:(Co cfg fn args).slots.f i= .t args[i]:=by grind [Co]
   have h2:(vargs.toArray++Array.replicate (fn.ntmps-vargs.toArray.size) Go.undef).getD i Go.undef=vargs.getD i Go.undef:=by
    have hin:i<fn.ntmps:=by omega
    simp_all
   rw[h1,h2];exact hr.2 i hia
  ·have h1:(Co cfg fn args).slots.f i= .t .undef:=by grind [Co]
   have h2:(vargs.toArray++Array.replicate (fn.ntmps-vargs.toArray.size) Go.undef).getD i Go.undef=Go.undef:=by
    simp_all[Array.getD]
   rw[h1,h2];exact Rel.undef
 refine wp_mono (Lp hm c h _ _ st g w {tmps:=vargs.toArray++Array.replicate (fn.ntmps-vargs.toArray.size) Go.undef,defers:=[]} hc hsim hfr hsize) λe a' w' hq=>?_;have fin:∀fr' st' g',Sim g' st' fr'.loc w'->DM g' w' fr' a'.tmps->Ext g w g' w'->a'.defers=[]->Js P fr' st' fn.results.toList (λvs=>R (ZZ vs) st')->a'.defers=[]/\∃v,(results fn a'.tmps).run P w'= .ok v w'/\((∃v',Ending.returned v= .returned v'/\∃r st' g',R r st'/\Sim g' st' [] w'/\Rel g' w' r v'/\Ext g w g' w')∨∃v',Ending.returned v= .panicked [{v:=v',recovered:=false}]/\Du g w cfg.exc v' w'):=by
  intro fr' st' g' h2 h3 h4 h5 ho;obtain⟨vs,hvs,hR⟩:=Ip ho;obtain⟨u,hu,hrel⟩:=Ql (fn:=fn) h2 h3 (by unfold resT;rw[hvs];rfl);exact⟨h5,u,hu,.inl ⟨u,rfl,_,st',g',hR,h2.dropLoc (λj x hx=>by simp at hx),hrel,h4⟩⟩
 cases e with
 | normal=>
  obtain⟨fr',st',g',h1,h2,h3,h4,h5,h6⟩:=hq;exact fin fr' st' g' h2 h3 h4 h5 h1
 | ret=>
  obtain⟨fr',st',g',h1,h2,h3,h4,h5,h6⟩:=hq;exact fin fr' st' g' h2 h3 h4 h5 h1
 | panic ch=>
  obtain⟨v,rfl,hx,hd⟩:=hq;exact⟨hd,.inr ⟨v,rfl,hx⟩⟩
 | _=>
  obtain⟨fr',st',g',h1,_⟩:=hq;exact h1.elim
def St.zero:St:={nb:=0,box:=λ_=> .dead,nt:=0,live:=λ_=>false,ty:=λ_=>none,bt:=λ_=>none}
def Ak.start (w:World):Ak:={base:=w.heap.size,w0:=w,nb:=0,bk:=λ_=>0,lam:=λ_=>0,nt:=0,sp:=λ_=>none,S:=λa=>a.spot=none/\∃v,w.cell? a=some v,prot:=λ_=>False}
theorem Sim.start (w:World) (hG:∀w',Below w.heap.size w w'->UA w'):Sim (Ak.start w) St.zero [] w:=by
 have hd:∀k,¬Dom St.zero [] k:=by
  intro k d;cases k with
  | box i=>exact absurd d (Nat.not_lt_zero _)
  | loc i=>obtain⟨x,hx⟩:=d;simp at hx
 exact⟨rfl,rfl,Below.refl _ _,Nat.le_refl _,λk d=>absurd d (hd k),λk k' d=>absurd d (hd k),λk d=>absurd d (hd k),λid h=>absurd h (Nat.not_lt_zero _),
  λid b l h hh=>(by cases hh),λi j b l h l' h' _ hh=>(by cases hh),λid _=>rfl,λa ha=>⟨ha.1,ha.2,λk d=>absurd d (hd k),λid l h hh=>(by cases hh)⟩,λb hb=>hb.elim,λid b l h hh=>(by cases hh),λid b l h T hh=>(by cases hh),λb T hb=>absurd hb (Nat.not_lt_zero _),hG⟩
theorem Yi {f:FuncId} {args:List TV} (hcall:∀(vs:Array Value) (w:World),(callFunc f vs).run P w= .ok (.enter f vs) w) (h:OF P f args St.zero λr _=>r= .bool true) (w:World) (hG:∀w',Below w.heap.size w w'->UA w') (vargs:List Value) (hr:AP (Ak.start w) w args vargs):
  Calls P f vargs.toArray w λe w'=>e= .returned (.bool true)/\Below w.heap.size w w':=by
 have h1:=h.run (Ak.start w) w vargs (Sim.start w hG) hr;have h1:=h1.no λ_ _=>Du.no;unfold Ru at h1;rw[hcall]at h1;refine Calls.mono h1 ?_;rintro e w' ⟨v,rfl,r,st',g',rfl,s',hrel,e'⟩;have hb:=s'.below;rw[e'.base,e'.w0]at hb;cases hrel;exact⟨rfl,hb⟩
end
def OC (fn:Func):Code:=match fn.body with | some c=>c | none=> .skip
def Fw (cfg:Cfg) (P:Program) (h:II) (fn:Func) (args:List TV) (st:St) (R:TV->St->Prop):Prop:=
 cwp cfg P fn.ntmps cfg.loc.length (OC fn) h (retQ P fn R) (Co cfg fn args) st
def fits (fn:Func) (args:List TV):Bool:=(fn.body.isSome).and (args.length.ble fn.ntmps)
theorem Z3 {P:Program} (hm:P.follows .mixedOrders=true) {f:FuncId} {fn:Func} (hcall:∀(vs:Array Value) (w:World),(callFunc f vs).run P w= .ok (.enter f vs) w) (hf:P.funcs[f]? =some fn)
  {cfg:Cfg} {h:II} {args:List TV} {st:St} {R:TV->St->Prop} (hn:fits fn args=true) {V:Prop} (he:Fw cfg P h fn args st R=V) (hV:V):Cx cfg.exc P f args st R:=by
 simp only[fits,Bool.and_eq_true]at hn;obtain⟨c,hc⟩:=Option.isSome_iff_exists.1 hn.1;have hb:fn.body=some (OC fn):=by rw[OC,hc]
 rw[<-he]at hV;exact Z2 hm hcall hf hb cfg h (Nat.le_of_ble_eq_true hn.2) hV
def R4 (cs:List CTy) (v:TV) (f:Fun cs Prop):Prop:=
 match v with
 | .agg l=>decL cs l f
 | _=>False
def stB (st:St) (p:TV) (xs:List TV) (k:St->Prop):Prop:=
 match p with
 | .box b off=>∃l,st.box b= .cells l/\off+xs.length<=l.length/\k (st.put b (.cells (setAll l off xs)))
 | _=>False
theorem Ab {p:Prop} [Decidable p] {x y:Prop} (h1:p->x) (h2:¬p->y):BIf (decide p) x y:=by
 by_cases h:p
 all_goals grind [BIf]
theorem Ao {b:Bool} {x y:Prop} (h1:b=true->x) (h2:b=false->y):BIf b x y:=by
 cases b
 ·exact h2 rfl
 ·exact h1 rfl
end Go.TVF
end
section
namespace Go.TVF
open Go.IntKind(i64 u8)
structure Ag (a b:St):Prop where
 nb:a.nb<=b.nb
 box:∀i,i<a.nb->b.box i=a.box i
 nt:a.nt<=b.nt
 live:∀i,i<a.nt->b.live i=a.live i
 ty:∀i,i<a.nt->b.ty i=a.ty i
 bt:∀i,i<a.nb->b.bt i=a.bt i
theorem Ag.refl (a:St):Ag a a:=⟨Nat.le_refl _,λ_ _=>rfl,Nat.le_refl _,λ_ _=>rfl,λ_ _=>rfl,λ_ _=>rfl⟩
theorem Ag.trans {a b c:St} (h:Ag a b) (k:Ag b c):Ag a c:=
 ⟨Nat.le_trans h.nb k.nb,λi hi=>(k.box i (Nat.lt_of_lt_of_le hi h.nb)).trans (h.box i hi),Nat.le_trans h.nt k.nt,λi hi=>(k.live i (Nat.lt_of_lt_of_le hi h.nt)).trans (h.live i hi),λi hi=>(k.ty i (Nat.lt_of_lt_of_le hi h.nt)).trans (h.ty i hi),λi hi=>(k.bt i (Nat.lt_of_lt_of_le hi h.nb)).trans (h.bt i hi)⟩
theorem Ag.fresh {a b:St} (h:Ag a b) (T:Option Nat):Ag a (b.fresh T):=
 h.trans ⟨Nat.le_refl _,λ_ _=>rfl,Nat.le_succ _,λi hi=>by grind [St.fresh],λi hi=>by grind [St.fresh],λ_ _=>rfl⟩
theorem Ag.push {a b:St} (h:Ag a b) (o:JQ) (T:Option Nat):Ag a (b.push o T):=
 h.trans ⟨Nat.le_succ _,λi hi=>by grind [St.push],Nat.le_refl _,λ_ _=>rfl,λ_ _=>rfl,λi hi=>by grind [St.push]⟩
theorem Ag.retire {a b:St} (h:Ag a b) {id:Nat} (hid:a.nt<=id):Ag a (b.retire id):=
 ⟨h.nb,h.box,h.nt,λi hi=>by grind [St.retire,Ag.live],h.ty,h.bt⟩
theorem Ag.put {a b:St} (h:Ag a b) {i:Nat} (hi:a.nb<=i) (o:JQ):Ag a (b.put i o):=
 ⟨h.nb,λj hj=>by grind [St.put,Ag.box],h.nt,h.live,h.ty,h.bt⟩
theorem It (l:B8):(AV l).length=l.length:=by simp[AV]
theorem Ri:∀l:B8,G1 (AV l)=some l
 :=by intro a0;induction a0<;>simp_all[G1,AV,L7,Yp]
theorem Qz (l:B8):(AV l).all Av=true:=by simp[AV,L7,Av]
theorem L6 (a b:B8):AV a++AV b=AV (a++b):=by simp[AV]
def Rd (sz:Nat) (v:TV) (n:Nat) (xs:List TV):Prop:=
 (v= .nilSlice/\n=0/\xs=[])∨∃tip,v= .list sz tip n xs
def RdB (v:TV) (l:B8):Prop:=Rd 1 v l.length (AV l)
def Own (b sz:Nat) (st:St) (v:TV) (n:Nat) (xs:List TV):Prop:=
 (v= .nilSlice/\n=0/\xs=[])∨∃tip,v= .list sz tip n xs/\(tip= .full∨∃id,tip= .own id/\b<=id/\id<st.nt/\st.live id=true)
def JP (b:Nat) (st:St) (v:TV) (l:B8):Prop:=Own b 1 st v l.length (AV l)
theorem Own.rd {b sz:Nat} {st:St} {v:TV} {n:Nat} {xs:List TV} (h:Own b sz st v n xs):Rd sz v n xs:=by
 rcases h with h | ⟨tip,h,_⟩
 ·exact .inl h
 ·exact .inr ⟨tip,h⟩
theorem JP.rd {b:Nat} {st:St} {v:TV} {l:B8} (h:JP b st v l):RdB v l:=Own.rd h
theorem Own.mono {b b' sz:Nat} {st:St} {v:TV} {n:Nat} {xs:List TV} (h:Own b sz st v n xs) (hb:b'<=b):Own b' sz st v n xs:=by
 rcases h with h | ⟨tip,h,ht | ⟨id,h1,h2,h3,h4⟩⟩
 ·exact .inl h
 ·exact .inr ⟨tip,h,.inl ht⟩
 ·exact .inr ⟨tip,h,.inr ⟨id,h1,Nat.le_trans hb h2,h3,h4⟩⟩
theorem Own.ext {b sz:Nat} {st st':St} {v:TV} {n:Nat} {xs:List TV} (h:Own b sz st v n xs) (e:Ag st st'):Own b sz st' v n xs:=by
 rcases h with h | ⟨tip,h,ht | ⟨id,h1,h2,h3,h4⟩⟩
 ·exact .inl h
 ·exact .inr ⟨tip,h,.inl ht⟩
 ·exact .inr ⟨tip,h,.inr ⟨id,h1,h2,Nat.lt_of_lt_of_le h3 e.nt,(e.live id h3).trans h4⟩⟩
theorem Own.nil (b sz:Nat) (st:St):Own b sz st .nilSlice 0 []:= .inl ⟨rfl,rfl,rfl⟩
theorem JP.nil (b:Nat) (st:St):JP b st .nilSlice []:=Own.nil b 1 st
theorem Own.full (b sz:Nat) (st:St) (n:Nat) (xs:List TV):Own b sz st (.list sz .full n xs) n xs:= .inr ⟨_,rfl,.inl rfl⟩
theorem Own.fresh {b sz:Nat} {st:St} {T:Option Nat} (n:Nat) (xs:List TV) (hb:b<=st.nt):Own b sz (st.fresh T) (.list sz (.own st.nt) n xs) n xs:=
 .inr ⟨_,rfl,.inr ⟨st.nt,rfl,hb,Nat.lt_succ_self _,by simp[St.fresh]⟩⟩
theorem Rd.isSl {sz:Nat} {v:TV} {n:Nat} {xs:List TV} (h:Rd sz v n xs):TVF.isSl v=true:=by
 rcases h with⟨rfl,_⟩ | ⟨tip,rfl⟩<;>rfl
theorem Rd.lenS {sz:Nat} {v:TV} {n:Nat} {xs:List TV} (h:Rd sz v n xs):TVF.lenS v=n:=by
 rcases h with⟨rfl,rfl,_⟩ | ⟨tip,rfl⟩<;>rfl
theorem Rd.lenZ {sz:Nat} {v:TV} {n:Nat} {xs:List TV} (h:Rd sz v n xs):TVF.lenZ sz v=n:=by
 rcases h with⟨rfl,rfl,_⟩ | ⟨tip,rfl⟩
 ·rfl
 ·simp[TVF.lenZ]
theorem Rd.one {sz:Nat} {v:TV} {n:Nat} {xs:List TV} (h:Rd sz v n xs):Av v=true:=by
 rcases h with⟨rfl,rfl,_⟩ | ⟨tip,rfl⟩<;>rfl
theorem Rd.ld {sz:Nat} {v:TV} {n:Nat} {xs:List TV} (h:Rd sz v n xs) (st:St) (i j:Nat) (hi:i*sz+j<xs.length):Af st [] (.t (ixT sz v i)) j=some xs[i*sz+j]:=by
 rcases h with⟨rfl,rfl,rfl⟩ | ⟨tip,rfl⟩
 all_goals grind [Af,ixT]
theorem RdB.toBytes {v:TV} {l:B8} (h:RdB v l) (st:St):TVF.toBytes st v=some l:=by
 rcases h with⟨rfl,h1,h2⟩ | ⟨tip,rfl⟩
 all_goals grind [toBytes,Ri]
theorem src_str (st:St) (l:B8):DW st 1 (.str l)=some (l.length,AV l):=rfl
theorem NN {T b sz bytes:Nat} {st0 st:St} {v:TV} {n k:Nat} {xs ys:List TV} {K:TV->St->Prop} (e:Ag st0 st) (hb:b=st0.nt) (h:Own b sz st v n xs) (hby:(n+k)*bytes<=140737488355328) (hys:k=0->ys=[])
  (hK:∀v' st',Ag st0 st'->st'.box=st.box->Own b sz st' v' (n+k) (xs++ys)->K v' st'):Bn T sz bytes v k ys st K:=by
 subst hb;rcases h with⟨rfl,rfl,rfl⟩ | ⟨tip,rfl,ht⟩
 ·simp[Bn]
  cases k with
  | zero=>grind [Own.nil]
  | succ m=>
   simp[Al];refine⟨by simp_all,hK _ _ (e.fresh _) rfl ?_⟩;grind [Own.fresh,Ag.nt]
 ·simp[Bn,Nat.beq_refl]
  refine⟨hby,?_⟩;rcases ht with rfl | ⟨id,rfl,h1,h2,h3⟩
  ·cases k with
   | zero=>grind [Own.full]
   | succ m=>exact hK _ _ (e.fresh _) rfl (Own.fresh _ _ e.nt)
  ·exact⟨h3,hK _ _ ((e.retire h1).fresh _) rfl (Own.fresh (st:=st.retire id) _ _ e.nt)⟩
theorem Yq {T:Nat} {st0 st:St} {v:TV} {l ys:B8} {K:TV->St->Prop} (e:Ag st0 st) (h:JP st0.nt st v l) (hby:l.length+ys.length<=140737488355328)
  (hK:∀v' st',Ag st0 st'->st'.box=st.box->JP st0.nt st' v' (l++ys)->K v' st'):Bn T 1 1 v ys.length (AV ys) st K:=
 NN e rfl h (by omega) (λh0=>by rw[List.eq_nil_of_length_eq_zero h0];rfl) λv' st' h1 h2 h3=>hK v' st' h1 h2 (by
  grind [JP,L6])
theorem Aa {b:Bool} {k:Prop} (h:b=true) (hk:k):need b k:=Al.2 ⟨h,hk⟩
theorem Ac {α:Type} {o:Option α} {x:α} {k:α->Prop} (h:o=some x) (hk:k x):AS o k:=by rw[h];exact hk
theorem Ah (x:Int) (h1: -9223372036854775808<=x) (h2:x<=9223372036854775807):IntKind.wrap .i64 x=x:=by
 grind [Go.IntKind.wrap,Go.IntKind.signed,Go.IntKind.bits]
theorem PH (x:Int) (h1:0<=x) (h2:x<=255):IntKind.wrap .u8 x=x:=by
 grind [Go.IntKind.wrap,Go.IntKind.signed,Go.IntKind.bits]
end Go.TVF
end
section
namespace Go.TVF
open Go.IntKind(i64 u8)
open Go.RowKit (Below)
theorem bool_ret {r:TV} {st':St} (h:FF [.one .bool] r (λ(b:Bool) (_:St)=>b=true) (λp=>p st')):r= .bool true:=by
 cases r<;>simp only[FF,HD,CG]at h<;>first | exact h.elim | skip
 simp_all
theorem calls_law {P:Program} {f:FuncId} {args:List TV} (hcall:∀(vs:Array Value) (w:World),(callFunc f vs).run P w= .ok (.enter f vs) w) (h:CallT P f args [.one .bool] St.zero (λr _=>r=true)) (w:World) (hG:∀w',Below w.heap.size w w'->UA w') (vargs:List Value) (hr:AP (Ak.start w) w args vargs):
  Calls P f vargs.toArray w λe w'=>e= .returned (.bool true)/\Below w.heap.size w w':=
 Yi hcall (OF.mono h λr st' hd=>bool_ret hd) w hG vargs hr
theorem rel_string (g:Ak) (w:World) (s:ByteArray):Rel g w (.str s.data.toList) (.string s):=by
 have:=Rel.str (g:=g) (w:=w) s.data.toList;omega
section
variable {H:Type} {enc:TypeId×Value->H} {P:Program} {w:World} {base:Nat} {sp:Nat->Bool} {held:Bool}
end
end Go.TVF
end
section
set_option maxRecDepth 100000
namespace Go.TVF
open Go.IntKind(i64 u8)
open Go Go.Proofs
open Go.IntKind (i64 u8)
theorem mixed:Tryz.prog.follows .mixedOrders=true:=by kernel_rfl
noncomputable def PR:Program:=Tryz.prog
abbrev zLi (s:St) (p:TV) (k:Int->Prop):Prop:=AS (Af s [] (.t p) 0) λx=>CG (.int .i64) x k
abbrev Bx (s:St) (p:Nat) (o:Nat) (k:Int->Prop):Prop:=AS (Af s [] (.t (.box p o)) 0) λx=>CG (.int .i64) x k
abbrev FN (s:St) (p:TV) (o:Nat) (k:Int->Prop):Prop:=need (isPtr p) (need (isPtr p) (AS (Af s [] (.t (AU p o)) 0) λx=>CG (.int .i64) x k))
abbrev zLu (s:St) (p:TV) (k:Int->Prop):Prop:=AS (Af s [] (.t p) 0) λx=>CG (.int .u8) x k
abbrev zLub (s:St) (p:Nat) (o:Nat) (k:Int->Prop):Prop:=AS (Af s [] (.t (.box p o)) 0) λx=>CG (.int .u8) x k
abbrev zLb (s:St) (p:TV) (k:Bool->Prop):Prop:=AS (Af s [] (.t p) 0) λx=>CG (.bool) x k
abbrev zLbb (s:St) (p:Nat) (o:Nat) (k:Bool->Prop):Prop:=AS (Af s [] (.t (.box p o)) 0) λx=>CG (.bool) x k
abbrev zLbp (s:St) (p:TV) (o:Nat) (k:Bool->Prop):Prop:=need (isPtr p) (need (isPtr p) (AS (Af s [] (.t (AU p o)) 0) λx=>CG (.bool) x k))
abbrev zLs (s:St) (p:TV) (k:B8->Prop):Prop:=AS (Af s [] (.t p) 0) λx=>CG (.str) x k
abbrev Kc (s:St) (p:Nat) (o:Nat) (k:B8->Prop):Prop:=AS (Af s [] (.t (.box p o)) 0) λx=>CG (.str) x k
abbrev MN (s:St) (p:TV) (o:Nat) (k:B8->Prop):Prop:=need (isPtr p) (need (isPtr p) (AS (Af s [] (.t (AU p o)) 0) λx=>CG (.str) x k))
abbrev zLt (s:St) (p:TV) (k:TV->Prop):Prop:=AS (Af s [] (.t p) 0) k
abbrev Dr (s:St) (p:Nat) (o:Nat) (k:TV->Prop):Prop:=AS (Af s [] (.t (.box p o)) 0) k
abbrev Ci (s:St) (p:TV) (o:Nat) (k:TV->Prop):Prop:=need (isPtr p) (need (isPtr p) (AS (Af s [] (.t (AU p o)) 0) k))
abbrev zSi (s:St) (p:TV) (v:Int) (k:St->Prop):Prop:=stB s p [.int .i64 v] k
abbrev Gw (s:St) (p:Nat) (o:Nat) (v:Int) (k:St->Prop):Prop:=stB s (.box p o) [.int .i64 v] k
abbrev ZV (s:St) (p:TV) (o:Nat) (v:Int) (k:St->Prop):Prop:=need (isPtr p) (need (isPtr p) (stB s (AU p o) [.int .i64 v] k))
abbrev zSbb (s:St) (p:Nat) (o:Nat) (v:Bool) (k:St->Prop):Prop:=stB s (.box p o) [.bool v] k
abbrev NP (s:St) (p:TV) (o:Nat) (v:Bool) (k:St->Prop):Prop:=need (isPtr p) (need (isPtr p) (stB s (AU p o) [.bool v] k))
abbrev zSsb (s:St) (p:Nat) (o:Nat) (v:B8) (k:St->Prop):Prop:=stB s (.box p o) [.str v] k
abbrev zSsp (s:St) (p:TV) (o:Nat) (v:B8) (k:St->Prop):Prop:=need (isPtr p) (need (isPtr p) (stB s (AU p o) [.str v] k))
abbrev Ry (s:St) (p:TV) (v:TV) (k:St->Prop):Prop:=stB s p [v] k
abbrev D9 (s:St) (p:Nat) (o:Nat) (v:TV) (k:St->Prop):Prop:=stB s (.box p o) [v] k
abbrev zP2 (p:TV) (X:Prop):Prop:=need (isPtr p) (need (isPtr p) X)
abbrev Ad (p:Prop) [Decidable p] (a b:Prop):Prop:=BIf (decide p) a b
abbrev ziT (n:Int):TV:= .int .i64 n
abbrev zIx (i:Int) (s:B8) (X:Prop):Prop:=(0<=i/\i<(s.length:Int))/\X
abbrev zIz (i:Int) (n:Nat) (v:TV) (X:Prop):Prop:=(0<=i/\i<(lenZ n v:Int))/\X
abbrev zSc (a b:Int) (s:B8) (X:Prop):Prop:=(0<=a/\a<=b/\b<=(s.length:Int))/\X
abbrev zSd (a:Int) (s:B8) (X:Prop):Prop:=(0<=a/\a<=(s.length:Int))/\X
abbrev zPl (a b:B8) (X:Prop):Prop:=a.length+b.length<=9223372036854775807/\X
abbrev zI6:CTy:= .int .i64
abbrev zU8:CTy:= .int .u8
abbrev zV:CTy:= .tv
abbrev zS:CTy:= .str
abbrev zB:CTy:= .bool
abbrev zSn (h:II):II:= .seq .none h
abbrev Rw (x0:Int) (x1:Int) (x2:Int) (x3:Int) (x4:Int):TV:= .agg [.int .i64 x0,.int .i64 x1,.int .i64 x2,.int .i64 x3,.int .i64 x4]
abbrev Rz (s:St) (p:TV) (k:Int->Bool->Bool->B8->Int->Int->Int->Int->Int->B8->TV->TV->TV->Prop):Prop:=AS ((AE s [] (.t p) 0 13).map TV.agg) λx=>R4 [.int .i64,.bool,.bool,.str,.int .i64,.int .i64,.int .i64,.int .i64,.int .i64,.str,.tv,.tv,.tv] x k
abbrev By (x0:Int) (x1:Bool) (x2:Bool) (x3:B8) (x4:Int) (x5:Int) (x6:Int) (x7:Int) (x8:Int) (x9:B8) (x10:TV) (x11:TV) (x12:TV):TV:= .agg [.int .i64 x0,.bool x1,.bool x2,.str x3,.int .i64 x4,.int .i64 x5,.int .i64 x6,.int .i64 x7,.int .i64 x8,.str x9,x10,x11,x12]
abbrev CN (x0:Int) (x1:Bool) (x2:Bool) (x3:B8) (x4:Int) (x5:Int) (x6:Int) (x7:Int) (x8:Int) (x9:B8) (x10:TV) (x11:TV) (x12:TV) (X:Prop):Prop:=need (List.all [.int .i64 x0,.bool x1,.bool x2,.str x3,.int .i64 x4,.int .i64 x5,.int .i64 x6,.int .i64 x7,.int .i64 x8,.str x9,x10,x11,x12] Av) X
abbrev zga2 (x0:Int) (x1:B8) (x2:B8) (x3:TV) (x4:B8):TV:= .agg [.int .i64 x0,.str x1,.str x2,x3,.str x4]
abbrev Dk (x0:Int) (x1:B8) (x2:B8) (x3:TV) (x4:B8) (X:Prop):Prop:=need (List.all [.int .i64 x0,.str x1,.str x2,x3,.str x4] Av) X
abbrev zLa6 (s:St) (p:TV) (k:Bool->Bool->TV->Int->Bool->Bool->B8->Int->Int->Int->Int->Int->B8->TV->TV->TV->Prop):Prop:=AS ((AE s [] (.t p) 0 16).map TV.agg) λx=>R4 [.bool,.bool,.tv,.int .i64,.bool,.bool,.str,.int .i64,.int .i64,.int .i64,.int .i64,.int .i64,.str,.tv,.tv,.tv] x k
abbrev PE (x0:Bool) (x1:Bool) (x2:TV) (x3:Int) (x4:Bool) (x5:Bool) (x6:B8) (x7:Int) (x8:Int) (x9:Int) (x10:Int) (x11:Int) (x12:B8) (x13:TV) (x14:TV) (x15:TV):TV:= .agg [.bool x0,.bool x1,x2,.int .i64 x3,.bool x4,.bool x5,.str x6,.int .i64 x7,.int .i64 x8,.int .i64 x9,.int .i64 x10,.int .i64 x11,.str x12,x13,x14,x15]
abbrev zNa6 (x0:Bool) (x1:Bool) (x2:TV) (x3:Int) (x4:Bool) (x5:Bool) (x6:B8) (x7:Int) (x8:Int) (x9:Int) (x10:Int) (x11:Int) (x12:B8) (x13:TV) (x14:TV) (x15:TV) (X:Prop):Prop:=need (List.all [.bool x0,.bool x1,x2,.int .i64 x3,.bool x4,.bool x5,.str x6,.int .i64 x7,.int .i64 x8,.int .i64 x9,.int .i64 x10,.int .i64 x11,.str x12,x13,x14,x15] Av) X
abbrev S7 (s:St) (p:TV) (k:B8->Int->Bool->Bool->B8->Int->Int->Int->Int->Int->B8->TV->TV->TV->Prop):Prop:=AS ((AE s [] (.t p) 0 14).map TV.agg) λx=>R4 [.str,.int .i64,.bool,.bool,.str,.int .i64,.int .i64,.int .i64,.int .i64,.int .i64,.str,.tv,.tv,.tv] x k
abbrev zga8 (x0:B8) (x1:Int) (x2:Bool) (x3:Bool) (x4:B8) (x5:Int) (x6:Int) (x7:Int) (x8:Int) (x9:Int) (x10:B8) (x11:TV) (x12:TV) (x13:TV):TV:= .agg [.str x0,.int .i64 x1,.bool x2,.bool x3,.str x4,.int .i64 x5,.int .i64 x6,.int .i64 x7,.int .i64 x8,.int .i64 x9,.str x10,x11,x12,x13]
abbrev MM (x0:B8) (x1:Int) (x2:Bool) (x3:Bool) (x4:B8) (x5:Int) (x6:Int) (x7:Int) (x8:Int) (x9:Int) (x10:B8) (x11:TV) (x12:TV) (x13:TV) (X:Prop):Prop:=need (List.all [.str x0,.int .i64 x1,.bool x2,.bool x3,.str x4,.int .i64 x5,.int .i64 x6,.int .i64 x7,.int .i64 x8,.int .i64 x9,.str x10,x11,x12,x13] Av) X
abbrev zga9 (x0:Int) (x1:Int) (x2:Int) (x3:Int):TV:= .agg [.int .i64 x0,.int .i64 x1,.int .i64 x2,.int .i64 x3]
abbrev zC0 (f:Nat) (a:List TV) (s:St) (k:Bool->St->Prop):Prop:=CallT PR f a [.one .bool] s k
abbrev zX0 (E:TV->St->Prop) (f:Nat) (a:List TV) (s:St) (k:Bool->St->Prop):Prop:=Bz E PR f a [.one .bool] s k
abbrev zC1 (f:Nat) (a:List TV) (s:St) (k:Int->Bool->Bool->B8->Int->Int->Int->Int->Int->B8->TV->TV->TV->Int->Int->St->Prop):Prop:=CallT PR f a [.agg [.int .i64,.bool,.bool,.str,.int .i64,.int .i64,.int .i64,.int .i64,.int .i64,.str,.tv,.tv,.tv],.one (.int .i64),.one (.int .i64)] s k
abbrev zC3 (f:Nat) (a:List TV) (s:St) (k:Int->Int->Int->Int->Int->St->Prop):Prop:=CallT PR f a [.agg [.int .i64,.int .i64,.int .i64,.int .i64,.int .i64]] s k
abbrev zC4 (f:Nat) (a:List TV) (s:St) (k:Int->St->Prop):Prop:=CallT PR f a [.one (.int .i64)] s k
abbrev zX4 (E:TV->St->Prop) (f:Nat) (a:List TV) (s:St) (k:Int->St->Prop):Prop:=Bz E PR f a [.one (.int .i64)] s k
abbrev zC5 (f:Nat) (a:List TV) (s:St) (k:Int->Bool->Bool->B8->Int->Int->Int->Int->Int->B8->TV->TV->TV->Int->St->Prop):Prop:=CallT PR f a [.agg [.int .i64,.bool,.bool,.str,.int .i64,.int .i64,.int .i64,.int .i64,.int .i64,.str,.tv,.tv,.tv],.one (.int .i64)] s k
abbrev zX5 (E:TV->St->Prop) (f:Nat) (a:List TV) (s:St) (k:Int->Bool->Bool->B8->Int->Int->Int->Int->Int->B8->TV->TV->TV->Int->St->Prop):Prop:=Bz E PR f a [.agg [.int .i64,.bool,.bool,.str,.int .i64,.int .i64,.int .i64,.int .i64,.int .i64,.str,.tv,.tv,.tv],.one (.int .i64)] s k
abbrev zX6 (E:TV->St->Prop) (f:Nat) (a:List TV) (s:St) (k:TV->Int->St->Prop):Prop:=Bz E PR f a [.one .tv,.one (.int .i64)] s k
abbrev zC7 (f:Nat) (a:List TV) (s:St) (k:TV->St->Prop):Prop:=CallT PR f a [.one .tv] s k
abbrev zX7 (E:TV->St->Prop) (f:Nat) (a:List TV) (s:St) (k:TV->St->Prop):Prop:=Bz E PR f a [.one .tv] s k
abbrev zC8 (f:Nat) (a:List TV) (s:St) (k:B8->Int->St->Prop):Prop:=CallT PR f a [.one .str,.one (.int .i64)] s k
abbrev zX8 (E:TV->St->Prop) (f:Nat) (a:List TV) (s:St) (k:B8->Int->St->Prop):Prop:=Bz E PR f a [.one .str,.one (.int .i64)] s k
abbrev zC10 (f:Nat) (a:List TV) (s:St) (k:Int->B8->B8->TV->B8->TV->Int->Int->St->Prop):Prop:=CallT PR f a [.agg [.int .i64,.str,.str,.tv,.str],.one .tv,.one (.int .i64),.one (.int .i64)] s k
abbrev zC11 (f:Nat) (a:List TV) (s:St) (k:TV->TV->St->Prop):Prop:=CallT PR f a [.one .tv,.one .tv] s k
abbrev Jd (f:Nat) (a:List TV) (s:St) (k:Int->Int->St->Prop):Prop:=CallT PR f a [.one (.int .i64),.one (.int .i64)] s k
abbrev PG (f:Nat) (a:List TV) (s:St) (k:B8->St->Prop):Prop:=CallT PR f a [.one .str] s k
abbrev zX17 (E:TV->St->Prop) (f:Nat) (a:List TV) (s:St) (k:B8->St->Prop):Prop:=Bz E PR f a [.one .str] s k
abbrev zC18 (f:Nat) (a:List TV) (s:St) (k:TV->Int->Int->St->Prop):Prop:=CallT PR f a [.one .tv,.one (.int .i64),.one (.int .i64)] s k
abbrev HH (f:Nat) (a:List TV) (s:St) (k:Int->Bool->Bool->B8->Int->Int->Int->Int->Int->B8->TV->TV->TV->St->Prop):Prop:=CallT PR f a [.agg [.int .i64,.bool,.bool,.str,.int .i64,.int .i64,.int .i64,.int .i64,.int .i64,.str,.tv,.tv,.tv]] s k
abbrev EN (f:Nat) (a:List TV) (s:St) (k:St->Prop):Prop:=CallT PR f a [] s k
abbrev BG (E:TV->St->Prop) (f:Nat) (a:List TV) (s:St) (k:St->Prop):Prop:=Bz E PR f a [] s k
abbrev zC24 (f:Nat) (a:List TV) (s:St) (k:TV->Bool->St->Prop):Prop:=CallT PR f a [.one .tv,.one .bool] s k
abbrev zX24 (E:TV->St->Prop) (f:Nat) (a:List TV) (s:St) (k:TV->Bool->St->Prop):Prop:=Bz E PR f a [.one .tv,.one .bool] s k
abbrev zC26 (f:Nat) (a:List TV) (s:St) (k:Int->B8->Int->Int->St->Prop):Prop:=CallT PR f a [.agg [.int .i64,.str,.int .i64],.one (.int .i64)] s k
abbrev zX26 (E:TV->St->Prop) (f:Nat) (a:List TV) (s:St) (k:Int->B8->Int->Int->St->Prop):Prop:=Bz E PR f a [.agg [.int .i64,.str,.int .i64],.one (.int .i64)] s k
abbrev zC30 (f:Nat) (a:List TV) (s:St) (k:Int->Int->St->Prop):Prop:=CallT PR f a [.one (.int .i32),.one (.int .i64)] s k
abbrev WQ (E:TV->St->Prop) (f:Nat) (a:List TV) (s:St) (k:Int->B8->Int->Bool->St->Prop):Prop:=Bz E PR f a [.agg [.int .i64,.str,.int .i64],.one .bool] s k
abbrev zC32 (f:Nat) (a:List TV) (s:St) (k:Int->B8->B8->TV->B8->St->Prop):Prop:=CallT PR f a [.agg [.int .i64,.str,.str,.tv,.str]] s k
abbrev Ha (E:TV->St->Prop) (f:Nat) (a:List TV) (s:St) (k:Int->B8->B8->TV->B8->St->Prop):Prop:=Bz E PR f a [.agg [.int .i64,.str,.str,.tv,.str]] s k
abbrev zC34 (f:Nat) (a:List TV) (s:St) (k:Int->Int->Int->St->Prop):Prop:=CallT PR f a [.one (.int .i64),.one (.int .i64),.one (.int .i64)] s k
abbrev zC36 (f:Nat) (a:List TV) (s:St) (k:B8->Int->Int->St->Prop):Prop:=CallT PR f a [.one .str,.one (.int .i64),.one (.int .i64)] s k
abbrev Rx (E:TV->St->Prop) (f:Nat) (a:List TV) (s:St) (k:Int->B8->Int->St->Prop):Prop:=Bz E PR f a [.agg [.int .i64,.str,.int .i64]] s k
abbrev UD (E:TV->St->Prop) (f:Nat) (a:List TV) (s:St) (k:Int->B8->B8->TV->B8->Int->Bool->Bool->B8->Int->Int->Int->Int->Int->B8->TV->TV->TV->St->Prop):Prop:=Bz E PR f a [.agg [.int .i64,.str,.str,.tv,.str],.agg [.int .i64,.bool,.bool,.str,.int .i64,.int .i64,.int .i64,.int .i64,.int .i64,.str,.tv,.tv,.tv]] s k
abbrev UF (f:Nat) (a:List TV) (s:St) (k:Bool->B8->Int->Int->St->Prop):Prop:=CallT PR f a [.agg [.bool,.str,.int .i64],.one (.int .i64)] s k
abbrev zC41 (f:Nat) (a:List TV) (s:St) (k:Int->Int->Int->Int->Int->St->Prop):Prop:=CallT PR f a [.agg [.int .i64,.int .i64,.int .i64,.int .i64],.one (.int .i64)] s k
abbrev zC44 (f:Nat) (a:List TV) (s:St) (k:Int->Int->Int->St->Prop):Prop:=CallT PR f a [.one (.int .i32),.one (.int .i64),.one (.int .i64)] s k
abbrev zX48 (E:TV->St->Prop) (f:Nat) (a:List TV) (s:St) (k:B8->Int->B8->B8->TV->B8->St->Prop):Prop:=Bz E PR f a [.one .str,.agg [.int .i64,.str,.str,.tv,.str]] s k
abbrev RB (f:Nat) (a:List TV) (s:St) (k:Int->St->Prop):Prop:=CallT PR f a [.one (.int .u8)] s k
abbrev S6 {A0 A1:Type} (a0:A0) (a1:A1) (s:St) (F:(A0->A1->St->Prop)->A0->A1->St->Prop):Prop:=∃(I:A0->A1->St->Prop) (M:A0->A1->St->Nat),I a0 a1 s/\∀a0 a1 s,I a0 a1 s->F (λb0 b1 r=>I b0 b1 r/\M b0 b1 r<M a0 a1 s) a0 a1 s
abbrev UE {A0 A1 A2:Type} (a0:A0) (a1:A1) (a2:A2) (s:St) (F:(A0->A1->A2->St->Prop)->A0->A1->A2->St->Prop):Prop:=∃(I:A0->A1->A2->St->Prop) (M:A0->A1->A2->St->Nat),I a0 a1 a2 s/\∀a0 a1 a2 s,I a0 a1 a2 s->F (λb0 b1 b2 r=>I b0 b1 b2 r/\M b0 b1 b2 r<M a0 a1 a2 s) a0 a1 a2 s
abbrev MO {A0 A1 A2 A3:Type} (a0:A0) (a1:A1) (a2:A2) (a3:A3) (s:St) (F:(A0->A1->A2->A3->St->Prop)->A0->A1->A2->A3->St->Prop):Prop:=∃(I:A0->A1->A2->A3->St->Prop) (M:A0->A1->A2->A3->St->Nat),I a0 a1 a2 a3 s/\∀a0 a1 a2 a3 s,I a0 a1 a2 a3 s->F (λb0 b1 b2 b3 r=>I b0 b1 b2 b3 r/\M b0 b1 b2 b3 r<M a0 a1 a2 a3 s) a0 a1 a2 a3 s
abbrev WR {A0 A1 A2 A3 A4:Type} (a0:A0) (a1:A1) (a2:A2) (a3:A3) (a4:A4) (s:St) (F:(A0->A1->A2->A3->A4->St->Prop)->A0->A1->A2->A3->A4->St->Prop):Prop:=∃(I:A0->A1->A2->A3->A4->St->Prop) (M:A0->A1->A2->A3->A4->St->Nat),I a0 a1 a2 a3 a4 s/\∀a0 a1 a2 a3 a4 s,I a0 a1 a2 a3 a4 s->F (λb0 b1 b2 b3 b4 r=>I b0 b1 b2 b3 b4 r/\M b0 b1 b2 b3 b4 r<M a0 a1 a2 a3 a4 s) a0 a1 a2 a3 a4 s
abbrev zLp6 {A0 A1 A2 A3 A4 A5:Type} (a0:A0) (a1:A1) (a2:A2) (a3:A3) (a4:A4) (a5:A5) (s:St) (F:(A0->A1->A2->A3->A4->A5->St->Prop)->A0->A1->A2->A3->A4->A5->St->Prop):Prop:=∃(I:A0->A1->A2->A3->A4->A5->St->Prop) (M:A0->A1->A2->A3->A4->A5->St->Nat),I a0 a1 a2 a3 a4 a5 s/\∀a0 a1 a2 a3 a4 a5 s,I a0 a1 a2 a3 a4 a5 s->F (λb0 b1 b2 b3 b4 b5 r=>I b0 b1 b2 b3 b4 b5 r/\M b0 b1 b2 b3 b4 b5 r<M a0 a1 a2 a3 a4 a5 s) a0 a1 a2 a3 a4 a5 s
abbrev zLp8 {A0 A1 A2 A3 A4 A5 A6 A7:Type} (a0:A0) (a1:A1) (a2:A2) (a3:A3) (a4:A4) (a5:A5) (a6:A6) (a7:A7) (s:St) (F:(A0->A1->A2->A3->A4->A5->A6->A7->St->Prop)->A0->A1->A2->A3->A4->A5->A6->A7->St->Prop):Prop:=∃(I:A0->A1->A2->A3->A4->A5->A6->A7->St->Prop) (M:A0->A1->A2->A3->A4->A5->A6->A7->St->Nat),I a0 a1 a2 a3 a4 a5 a6 a7 s/\∀a0 a1 a2 a3 a4 a5 a6 a7 s,I a0 a1 a2 a3 a4 a5 a6 a7 s->F (λb0 b1 b2 b3 b4 b5 b6 b7 r=>I b0 b1 b2 b3 b4 b5 b6 b7 r/\M b0 b1 b2 b3 b4 b5 b6 b7 r<M a0 a1 a2 a3 a4 a5 a6 a7 s) a0 a1 a2 a3 a4 a5 a6 a7 s
abbrev zJn2 {A0 A1:Type} (Y:A0->A1->St->Prop) (X:(A0->A1->St->Prop)->Prop):Prop:=∃C:A0->A1->St->Prop,X C/\∀a0 a1 s,C a0 a1 s->Y a0 a1 s
abbrev zJn3 {A0 A1 A2:Type} (Y:A0->A1->A2->St->Prop) (X:(A0->A1->A2->St->Prop)->Prop):Prop:=∃C:A0->A1->A2->St->Prop,X C/\∀a0 a1 a2 s,C a0 a1 a2 s->Y a0 a1 a2 s
abbrev zJn4 {A0 A1 A2 A3:Type} (Y:A0->A1->A2->A3->St->Prop) (X:(A0->A1->A2->A3->St->Prop)->Prop):Prop:=∃C:A0->A1->A2->A3->St->Prop,X C/\∀a0 a1 a2 a3 s,C a0 a1 a2 a3 s->Y a0 a1 a2 a3 s
abbrev zJn5 {A0 A1 A2 A3 A4:Type} (Y:A0->A1->A2->A3->A4->St->Prop) (X:(A0->A1->A2->A3->A4->St->Prop)->Prop):Prop:=∃C:A0->A1->A2->A3->A4->St->Prop,X C/\∀a0 a1 a2 a3 a4 s,C a0 a1 a2 a3 a4 s->Y a0 a1 a2 a3 a4 s
abbrev zJn6 {A0 A1 A2 A3 A4 A5:Type} (Y:A0->A1->A2->A3->A4->A5->St->Prop) (X:(A0->A1->A2->A3->A4->A5->St->Prop)->Prop):Prop:=∃C:A0->A1->A2->A3->A4->A5->St->Prop,X C/\∀a0 a1 a2 a3 a4 a5 s,C a0 a1 a2 a3 a4 a5 s->Y a0 a1 a2 a3 a4 a5 s
abbrev zJn7 {A0 A1 A2 A3 A4 A5 A6:Type} (Y:A0->A1->A2->A3->A4->A5->A6->St->Prop) (X:(A0->A1->A2->A3->A4->A5->A6->St->Prop)->Prop):Prop:=∃C:A0->A1->A2->A3->A4->A5->A6->St->Prop,X C/\∀a0 a1 a2 a3 a4 a5 a6 s,C a0 a1 a2 a3 a4 a5 a6 s->Y a0 a1 a2 a3 a4 a5 a6 s
abbrev zJn8 {A0 A1 A2 A3 A4 A5 A6 A7:Type} (Y:A0->A1->A2->A3->A4->A5->A6->A7->St->Prop) (X:(A0->A1->A2->A3->A4->A5->A6->A7->St->Prop)->Prop):Prop:=∃C:A0->A1->A2->A3->A4->A5->A6->A7->St->Prop,X C/\∀a0 a1 a2 a3 a4 a5 a6 a7 s,C a0 a1 a2 a3 a4 a5 a6 a7 s->Y a0 a1 a2 a3 a4 a5 a6 a7 s
abbrev zJn11 {A0 A1 A2 A3 A4 A5 A6 A7 A8 A9 A10:Type} (Y:A0->A1->A2->A3->A4->A5->A6->A7->A8->A9->A10->St->Prop) (X:(A0->A1->A2->A3->A4->A5->A6->A7->A8->A9->A10->St->Prop)->Prop):Prop:=∃C:A0->A1->A2->A3->A4->A5->A6->A7->A8->A9->A10->St->Prop,X C/\∀a0 a1 a2 a3 a4 a5 a6 a7 a8 a9 a10 s,C a0 a1 a2 a3 a4 a5 a6 a7 a8 a9 a10 s->Y a0 a1 a2 a3 a4 a5 a6 a7 a8 a9 a10 s
abbrev zJn12 {A0 A1 A2 A3 A4 A5 A6 A7 A8 A9 A10 A11:Type} (Y:A0->A1->A2->A3->A4->A5->A6->A7->A8->A9->A10->A11->St->Prop) (X:(A0->A1->A2->A3->A4->A5->A6->A7->A8->A9->A10->A11->St->Prop)->Prop):Prop:=∃C:A0->A1->A2->A3->A4->A5->A6->A7->A8->A9->A10->A11->St->Prop,X C/\∀a0 a1 a2 a3 a4 a5 a6 a7 a8 a9 a10 a11 s,C a0 a1 a2 a3 a4 a5 a6 a7 a8 a9 a10 a11 s->Y a0 a1 a2 a3 a4 a5 a6 a7 a8 a9 a10 a11 s
theorem tcF (cfg:Cfg) (h:II) {f:FuncId} {fn:Func} (hc:∀(vs:Array Value) (w:World),(callFunc f vs).run PR w= .ok (.enter f vs) w) (hf:PR.funcs[f]? =some fn) {args:List TV} {st:St} {R:TV->St->Prop} {V:Prop} (hV:V) (hn:fits fn args=true:=by kernel_rfl) (he:Fw cfg PR h fn args st R=V:=by kernel_rfl):Cx cfg.exc PR f args st R:=
 Z3 mixed hc hf hn he hV
def fn_datakitlaw26_TableLimits:Nat:=5
def AC:Nat:=10
def B3:Nat:=11
def Hy:Nat:=17
def Fy:Nat:=18
def Gf:Nat:=19
def Iw:Nat:=20
def GD:Nat:=34
def AW:Nat:=36
def DU:Nat:=38
def KQ:Nat:=39
def FW:Nat:=40
def Ge:Nat:=51
def Gb:Nat:=52
def Gc:Nat:=53
def NA:Nat:=75
def AR:Nat:=77
def DB:Nat:=80
def El:Nat:=89
def Bu:Nat:=90
def Eh:Nat:=93
def DV:Nat:=95
def Hx:Nat:=96
def JD:Nat:=97
def Do:Nat:=99
def Hw:Nat:=100
def Gg:Nat:=101
def Aq:Nat:=102
def Gd:Nat:=114
def CB:Nat:=115
def JV:Nat:=116
def CZ:Nat:=117
def As:Nat:=118
def At:Nat:=119
def EW:Nat:=120
def GW:Nat:=127
def Cg:Nat:=130
def Ey:Nat:=137
def FB:Nat:=138
def I3:Nat:=150
def Hv:Nat:=153
def FY:Nat:=154
def EY:Nat:=155
def Iv:Nat:=156
def Bm:Nat:=157
def BC:Nat:=158
def AN:Nat:=159
def BB:Nat:=160
def DR:Nat:=161
def Cr:Nat:=162
def Ai:Nat:=163
def BJ:Nat:=164
def DS:Nat:=165
def CX:Nat:=166
def DG:Nat:=167
def BL:Nat:=175
def BK:Nat:=185
def MC:Nat:=186
def Cp:Nat:=188
def CD:Nat:=198
def CA:Nat:=199
def GC:Nat:=200
def Bq:Nat:=204
def Pq:Nat:=213
def QU:Nat:=214
def E0:Nat:=217
def GE:Nat:=218
def JB:Nat:=219
def AZ:Nat:=221
def Ex:Nat:=222
def Di:Nat:=223
def Bf:Nat:=224
def Dj:Nat:=225
def Bp:Nat:=226
def Db:Nat:=227
def DC:Nat:=228
def Aw:Nat:=229
def BI:Nat:=230
def AJ:Nat:=231
def D0:Nat:=232
def Dd:Nat:=233
def CR:Nat:=234
def CW:Nat:=235
def Bh:Nat:=236
def AF:Nat:=237
def Ca:Nat:=238
def CC:Nat:=239
def Iy:Nat:=264
def Dz:Nat:=266
def Dy:Nat:=267
def Bj:Nat:=271
def DP:Nat:=272
def ES:Nat:=277
def Iz:Nat:=294
def Em:Nat:=295
def GB:Nat:=296
def EX:Nat:=297
def EK:Nat:=298
def DA:Nat:=299
def Ek:Nat:=300
def DQ:Nat:=301
def DH:Nat:=302
def CE:Nat:=303
def GP:Nat:=304
def KO:Nat:=323
def Ix:Nat:=324
def JC:Nat:=325
def C0:Nat:=328
def Ei:Nat:=329
def DZ:Nat:=346
def Ew:Nat:=347
def EJ:Nat:=348
def Fz:Nat:=349
def Ez:Nat:=350
def EZ:Nat:=351
def B9:Nat:=352
def Ej:Nat:=353
def FC:Nat:=366
def D2:Nat:=367
def Dh:Nat:=372
def Eo:Nat:=373
def FX:Nat:=374
def EL:Nat:=375
def DI:Nat:=376
def DT:Nat:=377
def GH:Nat:=378
def D1:Nat:=382
def FZ:Nat:=383
def GF:Nat:=386
def GG:Nat:=390
def Cb:Nat:=391
def CU:Nat:=392
def AT:Nat:=393
def Cw:Nat:=394
def AB:Nat:=397
def CY:Nat:=398
def str3:B8:=[97,46,98,32,61,32,49,10,91,120,46,121,93,32,35,32,99,10,122,32,61,32,91,49,44,32,50,93,10]
def str4:B8:=[97,32,61,32,49,10,97,46,98,32,61,32,50]
def str5:B8:=[120]
def str6:B8:=[91,102,97,108,115,101,44,32,34,120,34,93]
def str7:B8:=[91]
def str8:B8:=[46]
def str9:B8:=[32,61,32]
def UW:B8:=[93]
def str14:B8:=[61]
def str18:B8:=[44]
def str19:B8:=[44,32]
def str20:B8:=[123]
def str21:B8:=[125]
def LQ:B8:=[34,92,8,12,10,13,9]
def UV:B8:=[34,92,98,102,110,114,116]
def Kv:B8:=[48,49,50,51,52,53,54,55,56,57,97,98,99,100,101,102]
def M5:B8:=[116,114,117,101]
def UU:B8:=[102,97,108,115,101]
def Ku:B8:=[34,92,47,98,102,110,114,116]
def Sk:B8:=[34,92,47,8,12,10,13,9]
def YI:B8:=[48]
def YH:B8:=[45]
def YG:B8:=[58]
def str50:B8:=[43]
def str51:B8:=[91,93,123,125,44,61]
def str57:B8:=[48,49,50,51,52,53,54,55,56,57,97,98,99,100,101,102,65,66,67,68,69,70]
def Sj:B8:=[13,10]
def str59:B8:=[48,48,48,48,45,48,48,45,48,48]
def str60:B8:=[32,48,48,58]
def str62:B8:=[84,116,32]
def str63:B8:=[90,122,43,45]
end Go.TVF
end
section
set_option maxRecDepth 100000
namespace Go.TVF
open Go.IntKind(i64 u8)
open Go Go.Proofs
open Go.IntKind (i64 u8)
theorem GQ (a:B8) (s:St) (K:Bool->St->Prop) (h:Ad (1500<(a.length:Int)) (zC0 AC [] s K) (zC3 Hy [] s (λb c d e f g=>zC1 B3 [.str a,Rw b c d e f] g λb c d e f g i j k l m n o _ p q=>CN b c d e f g i j k l m n o (Ad (p≠0) (zC0 AC [] q K) (zC4 Fy [By b c d e f g i j k l m n o] q (λp q=>zC4 Gf [By b c d e f g i j k l m n o] q λq r=>zC1 B3 [.str a,Rw p q (max (1:Int) (a.length:Int)) 0 0] r λr s t u v w x y z A C D F _ G H=>CN r s t u v w x y z A C D F (Ad (G≠0) (K false H) (zC0 Iw [By b c d e f g i j k l m n o,By r s t u v w x y z A C D F] H (λb c=>BIf (!b) (K false c) (zC1 B3 [.str a,Rw (i64.wrap (p-1)) q (max (1:Int) (a.length:Int)) 0 0] c (λb c d e f g i j k l m n o _ r s=>CN b c d e f g i j k l m n o (zC1 B3 [.str a,Rw p (i64.wrap (q-1)) (max (1:Int) (a.length:Int)) 0 0] s (λb c d e f g i j k l m n o _ s t=>CN b c d e f g i j k l m n o (zC1 B3 [.str a,Rw p q (i64.wrap (max (1:Int) (a.length:Int)-1)) 0 0] t (λb c d e f g i j k l m n o _ t u=>CN b c d e f g i j k l m n o (Ad (r=9) (Ad (s=10) (Ad (t=10) (zC0 AC [] u K) (Ad (i64.wrap (max (1:Int) (a.length:Int)-1)=0) (Ad (t=1) (zC0 AC [] u K) (K false u)) (K false u))) (Ad (i64.wrap (q-1)=0) (Ad (s=1) (Ad (t=10) (zC0 AC [] u K) (Ad (i64.wrap (max (1:Int) (a.length:Int)-1)=0) (Ad (t=1) (zC0 AC [] u K) (K false u)) (K false u))) (K false u)) (K false u))) (Ad (i64.wrap (p-1)=0) (Ad (r=1) (Ad (s=10) (Ad (t=10) (zC0 AC [] u K) (Ad (i64.wrap (max (1:Int) (a.length:Int)-1)=0) (Ad (t=1) (zC0 AC [] u K) (K false u)) (K false u))) (Ad (i64.wrap (q-1)=0) (Ad (s=1) (Ad (t=10) (zC0 AC [] u K) (Ad (i64.wrap (max (1:Int) (a.length:Int)-1)=0) (Ad (t=1) (zC0 AC [] u K) (K false u)) (K false u))) (K false u)) (K false u))) (K false u)) (K false u)))))))))))))))))):zC0 fn_datakitlaw26_TableLimits [.str a] s K:=
 tcF ⟨[3,6,7,10,11,12,13,16,19],[],[],NoE⟩ .none Tryz.call5 Tryz.func5 h
theorem J8 (s:St) (K:Bool->St->Prop) (h:zC3 DU [] s λa b c d e f=>zC1 B3 [.str str3,Rw a b c d e] f λf g i j k l m n o p q r s _ t u=>CN f g i j k l m n o p q r s (zC1 B3 [.str str4,Rw a b c d e] u (λa b c d e f g i j k l m n o p q=>CN a b c d e f g i j k l m n (zC8 GD [By 6 false false [] 0 0 0 0 0 [] .nilSlice (.list 13 .full 2 [ziT 1,.bool false,.bool false,.str [],ziT 0,ziT 0,ziT 0,ziT 0,ziT 0,.str [],.nilSlice,.nilSlice,.nilSlice,ziT 4,.bool false,.bool false,.str [],ziT 0,ziT 0,ziT 0,ziT 0,ziT 0,.str str5,.nilSlice,.nilSlice,.nilSlice]) .nilSlice] q (λa b c=>Ad (t=0) (need (isSl s) (Ad ((lenS s:Int)=2) (zIz 1 14 s (need (isPtr (ixT 14 s (Int.toNat (1:Int)))) (zLs c (AU (ixT 14 s (Int.toNat (1:Int))) 0) (λd=>Ad (d=str5) (zIz 1 14 s (need (isPtr (ixT 14 s (Int.toNat (1:Int)))) (need (isPtr (AU (ixT 14 s (Int.toNat (1:Int))) 1)) (zLt c (AU (AU (ixT 14 s (Int.toNat (1:Int))) 1) 12) (λd=>need (isSl d) (Ad ((lenS d:Int)=1) (zIz 1 14 s (need (isPtr (ixT 14 s (Int.toNat (1:Int)))) (need (isPtr (AU (ixT 14 s (Int.toNat (1:Int))) 1)) (zLt c (AU (AU (ixT 14 s (Int.toNat (1:Int))) 1) 12) (λd=>zIz 0 14 d (need (isPtr (ixT 14 d (Int.toNat (0:Int)))) (need (isPtr (AU (ixT 14 d (Int.toNat (0:Int))) 1)) (zLt c (AU (AU (ixT 14 d (Int.toNat (0:Int))) 1) 12) (λd=>need (isSl d) (Ad ((lenS d:Int)=1) (Ad (o=6) (Ad (p=8) (Ad (a=str6) (K (decide (b=0)) c) (K false c)) (K false c)) (K false c)) (K false c))))))))))) (K false c))))))) (K false c))))) (K false c))) (K false c)))))):zC0 AC [] s K:=
 tcF ⟨[1,2,5],[],[],NoE⟩ .none Tryz.call10 Tryz.func10 h
theorem RM (a:B8) (b c d e f:Int) (s:St) (K:Int->Bool->Bool->B8->Int->Int->Int->Int->Int->B8->TV->TV->TV->Int->Int->St->Prop) (h:zC10 KQ [.str a,Rw b c d e f] s λa b c d e f g i j=>Dk a b c d e (Ad (i≠0) (K 0 false false [] 0 0 0 0 0 [] .nilSlice .nilSlice .nilSlice g i j) (zC1 FW [f] j (λa b c d e f g i j k l m n o p q=>CN a b c d e f g i j k l m n (K a b c d e f g i j k l m n o p q))))):zC1 B3 [.str a,Rw b c d e f] s K:=
 tcF ⟨[3,4,7],[],[],NoE⟩ .none Tryz.call11 Tryz.func11 h
end Go.TVF
end
section
set_option maxRecDepth 100000
namespace Go.TVF
open Go.IntKind(i64 u8)
open Go Go.Proofs
open Go.IntKind (i64 u8)
theorem PM (a:Int) (b c:Bool) (d:B8) (e f g i j:Int) (k:B8) (l m n:TV) (s:St) (K:Int->St->Prop) (h:zC4 Ge [By a b c d e f g i j k l m n,ziT 65536] s K):zC4 Fy [By a b c d e f g i j k l m n] s K:=
 tcF ⟨[1],[],[],NoE⟩ .none Tryz.call18 Tryz.func18 h
theorem RH (a:Int) (b c:Bool) (d:B8) (e f g i j:Int) (k:B8) (l m n:TV) (s:St) (K:Int->St->Prop) (h:zC4 Gb [By a b c d e f g i j k l m n,ziT 65536] s K):zC4 Gf [By a b c d e f g i j k l m n] s K:=
 tcF ⟨[1],[],[],NoE⟩ .none Tryz.call19 Tryz.func19 h
theorem RI (a:Int) (b c:Bool) (d:B8) (e f g i j:Int) (k:B8) (l m n:TV) (o:Int) (p q:Bool) (r:B8) (s t u v w:Int) (x:B8) (y z A:TV) (C:St) (K:Bool->St->Prop) (h:zC0 Gc [By a b c d e f g i j k l m n,By o p q r s t u v w x y z A,.bool true,ziT 65536] C K):zC0 Iw [By a b c d e f g i j k l m n,By o p q r s t u v w x y z A] C K:=
 tcF ⟨[2,3],[],[],NoE⟩ .none Tryz.call20 Tryz.func20 h
theorem Pb (a:Int) (b c:Bool) (d:B8) (e f g i j:Int) (k:B8) (l m n:TV) (s:St) (K:B8->Int->St->Prop) (h:zC4 AW [By a b c d e f g i j k l m n] s λo p=>Ad (o≠0) (K [] o p) (zC0 El [By a b c d e f g i j k l m n] p (λo p=>BIf o (K [] 27 p) (EN Bu [.box p.nb 0,By a b c d e f g i j k l m n] (p.push (.cells [.nilSlice,.bool false,ziT 0,ziT 0,.bool false,.int .u8 (0:Int),.int .u8 (0:Int),.bool false,.bool false]) (some 144)) (λa=>zC8 DB [.box p.nb 0] a K))))):zC8 GD [By a b c d e f g i j k l m n] s K:=
 tcF ⟨[1],[],[],NoE⟩ .none Tryz.call34 Tryz.func34 h
theorem PN (a:Int) (b c:Bool) (d:B8) (e f g i j:Int) (k:B8) (l m n:TV) (s:St) (K:Int->St->Prop) (h:Gw (s.push (.cells [ziT 0]) (some 3)) s.nb 0 0 λo=>zC4 Eh [By a b c d e f g i j k l m n,ziT 1,.box s.nb 0] o K):zC4 AW [By a b c d e f g i j k l m n] s K:=
 tcF ⟨[1],[],[],NoE⟩ .none Tryz.call36 Tryz.func36 h
end Go.TVF
end
section
set_option maxRecDepth 100000
namespace Go.TVF
open Go.IntKind(i64 u8)
open Go Go.Proofs
open Go.IntKind (i64 u8)
theorem NV (a:TV) (s:St) (K:Int->Bool->Bool->B8->Int->Int->Int->Int->Int->B8->TV->TV->TV->Int->Int->St->Prop) (h:zC18 Hw [a] s λa b c d=>Ad (c≠0) (K 0 false false [] 0 0 0 0 0 [] .nilSlice .nilSlice .nilSlice b c d) (Ci d a 0 (λb=>HH Aq [a,b] d λa b c d e f g i j k l m n o=>HH Gg [By a b c d e f g i j k l m n] o λa b c d e f g i j k l m n o=>CN a b c d e f g i j k l m n (K a b c d e f g i j k l m n 0 0 o)))):zC1 FW [a] s K:=
 tcF ⟨[2],[],[],NoE⟩ .none Tryz.call40 Tryz.func40 h
end Go.TVF
end
section
set_option maxRecDepth 100000
namespace Go.TVF
open Go.IntKind(i64 u8)
open Go Go.Proofs
open Go.IntKind (i64 u8)
theorem RG (a:Int) (b c:Bool) (d:B8) (e f g i j:Int) (k:B8) (l m n:TV) (o:Int) (s:St) (K:Int->St->Prop) (h:Ad (o<=1) (K 1 s) (zC7 Gd [By a b c d e f g i j k l m n] s (λa b=>need (isSl a) (WR (1:Int) (0:Int) o a (lenS a:Int) b (λa b c d e f g=>Ad (c<f) (zIz c 13 e (Rz g (ixT 13 e c.toNat) (λi j k l m n o p q r s t u=>CN i j k l m n o p q r s t u (zC4 Ge [By i j k l m n o p q r s t u,ziT (i64.wrap (d-1))] g (λg i=>a (max b (i64.wrap (1+g))) (i64.wrap (c+1)) d e f i))))) (K b g)))))):zC4 Ge [By a b c d e f g i j k l m n,ziT o] s K:=
 tcF ⟨[2,7],[],[],NoE⟩ (zSn (zSn (zSn (.seq (zSn (.block (.loop ⟨[(5,zI6),(14,zI6),(1,zI6),(12,zV),(13,zI6)],[],[],[]⟩ .none))) .none)))) Tryz.call51 Tryz.func51 h
theorem RC (a:Int) (b c:Bool) (d:B8) (e f g i j:Int) (k:B8) (l m n:TV) (o:Int) (s:St) (K:Int->St->Prop) (h:Ad (o<1) (K 1 s) (zC7 Gd [By a b c d e f g i j k l m n] s (λa b=>need (isSl a) (WR (1:Int) (0:Int) o a (lenS a:Int) b (λa b c d e f g=>Ad (c<f) (zIz c 13 e (Rz g (ixT 13 e c.toNat) (λi j k l m n o p q r s t u=>CN i j k l m n o p q r s t u (zC4 Gb [By i j k l m n o p q r s t u,ziT (i64.wrap (d-1))] g (λg i=>a (i64.wrap (b+g)) (i64.wrap (c+1)) d e f i))))) (K b g)))))):zC4 Gb [By a b c d e f g i j k l m n,ziT o] s K:=
 tcF ⟨[2,7],[],[],NoE⟩ (zSn (zSn (zSn (.seq (zSn (.block (.loop ⟨[(5,zI6),(14,zI6),(1,zI6),(12,zV),(13,zI6)],[],[],[]⟩ .none))) .none)))) Tryz.call52 Tryz.func52 h
theorem RD (a:Int) (b c:Bool) (d:B8) (e f g i j:Int) (k:B8) (l m n:TV) (o:Int) (p q:Bool) (r:B8) (s t u v w:Int) (x:B8) (y z A:TV) (C:Bool) (D:Int) (F:St) (K:Bool->St->Prop) (h:Ad (a≠o) (K false ((F.push (.cells [.bool C]) (some 4)).push (.cells [ziT D]) (some 3))) (BIf (!(b==p)) (K false ((F.push (.cells [.bool C]) (some 4)).push (.cells [ziT D]) (some 3))) (BIf (!(c==q&&(decide (d=r)&&(decide (e=s)&&true)))) (K false ((F.push (.cells [.bool C]) (some 4)).push (.cells [ziT D]) (some 3))) (BIf (!(decide (f=t)&&(decide (g=u)&&(decide (i=v)&&(decide (j=w)&&true))))) (K false ((F.push (.cells [.bool C]) (some 4)).push (.cells [ziT D]) (some 3))) (Ad (k≠x) (K false ((F.push (.cells [.bool C]) (some 4)).push (.cells [ziT D]) (some 3))) (zC0 CB [l,y] ((F.push (.cells [.bool C]) (some 4)).push (.cells [ziT D]) (some 3)) (λD G=>BIf (!D) (K false G) (Bx G (F.push (.cells [.bool C]) (some 4)).nb 0 (λD=>Ad (D<1) (K false G) (zLbb G F.nb 0 (λD=>BIf (!D) (zC7 JV [By a b c d e f g i j k l m n] G (λa b=>zC7 JV [By o p q r s t u v w x y z A] b λb c=>D9 (c.push (.cells [.nilFunc]) (some 39)) c.nb 0 (.func CZ [.box F.nb 0,.box (F.push (.cells [.bool C]) (some 4)).nb 0]) λd=>Dr d c.nb 0 λe=>zC0 As [m,z,e] d λd e=>BIf d (zC0 At [a,b,.func EW [.box c.nb 0]] e K) (K false e))) (D9 (G.push (.cells [.nilFunc]) (some 39)) G.nb 0 (.func CZ [.box F.nb 0,.box (F.push (.cells [.bool C]) (some 4)).nb 0]) (λa=>Dr a G.nb 0 λb=>zC0 As [m,z,b] a λa b=>BIf a (zC0 At [n,A,.func EW [.box G.nb 0]] b K) (K false b)))))))))))))):zC0 Gc [By a b c d e f g i j k l m n,By o p q r s t u v w x y z A,.bool C,ziT D] F K:=
 tcF ⟨[4,5],[],[],NoE⟩ .none Tryz.call53 Tryz.func53 h
end Go.TVF
end
section
set_option maxRecDepth 100000
namespace Go.TVF
open Go.IntKind(i64 u8)
open Go Go.Proofs
open Go.IntKind (i64 u8)
theorem Lz (a:Nat) (b:TV) (s:St) (K:St->Prop) (h:need (isSl b) (MO (0:Int) (TV.box a 0) b (lenS b:Int) s (λa b c d e f=>Ad (b<e) (zIz b 1 d (zLs f (ixT 1 d b.toNat) (λg=>zLbp f c 1 λi=>BIf i (NP f c 1 true K) (Ci f c 0 (λi=>need (isSl i) (Ad (1048576<i64.wrap ((lenS i:Int)+(g.length:Int))) (NP f c 1 true K) (Ci f c 0 (λi=>AS (DW f 1 (.str g)) λ(g:Nat×List TV)=>need (List.all g.2 Av) (Bn 5 1 1 i g.1 g.2 f (λ(f:TV) g=>zP2 c (need (List.all [f] Av) (Ry g (AU c 0) f (λf=>a (i64.wrap (b+1)) c d e f))))))))))))) (K f)))):EN AR [.box a 0,b] s K:=
 tcF ⟨[],[],[],NoE⟩ (zSn (.block (.loop ⟨[(8,zI6),(0,zV),(6,zV),(7,zI6)],[],[],[]⟩ .none))) Tryz.call77 Tryz.func77 h
end Go.TVF
end
section
set_option maxRecDepth 100000
namespace Go.TVF
open Go.IntKind(i64 u8)
open Go Go.Proofs
open Go.IntKind (i64 u8)
theorem Jf (a:Nat) (s:St) (K:B8->Int->St->Prop) (h:zLbb s a 1 λb=>BIf b (K [] 10 s) (Dr s a 0 (λa=>AS ((toBytes s a).map TV.str) λ(a:TV)=>CG .str a λ(a:B8)=>K a 0 s))):zC8 DB [.box a 0] s K:=
 tcF ⟨[],[],[],NoE⟩ .none Tryz.call80 Tryz.func80 h
theorem PO (a:Int) (b c:Bool) (d:B8) (e f g i j:Int) (k:B8) (l m n:TV) (s:St) (K:Bool->St->Prop) (h:Ad (a=0) (K true s) (Ad (a=5) (K true s) (need (isSl m) (∃(o:Int->TV->Int->Int->Bool->Bool->B8->Int->Int->Int->Int->Int->B8->TV->TV->TV->St->Prop) (p:Int->TV->Int->Int->Bool->Bool->B8->Int->Int->Int->Int->Int->B8->TV->TV->TV->St->Nat),o (0:Int) m (lenS m:Int) a b c d e f g i j k l m n s/\(∀a b c d e f g i j k l m n q r s t,o a b c d e f g i j k l m n q r s t->Ad (a<c) (zIz a 13 b (Rz t (ixT 13 b a.toNat) (λu v w x y z A C D F G H J=>CN u v w x y z A C D F G H J (zC0 El [By u v w x y z A C D F G H J] t (λu v=>BIf u (K true v) (o (i64.wrap (a+1)) b c d e f g i j k l m n q r s v/\p (i64.wrap (a+1)) b c d e f g i j k l m n q r s v<p a b c d e f g i j k l m n q r s t)))))) (need (isSl s) (UE (0:Int) s (lenS s:Int) t (λa b c d e=>Ad (b<d) (zIz b 14 c (S7 e (ixT 14 c b.toNat) (λf g i j k l m n o p q r s t=>MM f g i j k l m n o p q r s t (zC0 El [By g i j k l m n o p q r s t] e (λe f=>BIf e (K true f) (a (i64.wrap (b+1)) c d f)))))) (K false e))))))))):zC0 El [By a b c d e f g i j k l m n] s K:=
 tcF ⟨[1,4,6],[],[],NoE⟩ (zSn (zSn (.seq (zSn (.block (.loop ⟨[(18,zI6),(16,zV),(17,zI6)],[(1,0,0)],[(0,13)],[(0,0,zI6),(0,1,zB),(0,2,zB),(0,3,zS),(0,4,zI6),(0,5,zI6),(0,6,zI6),(0,7,zI6),(0,8,zI6),(0,9,zS),(0,10,zV),(0,11,zV),(0,12,zV)]⟩ .none))) (.seq (zSn (.block (.loop ⟨[(28,zI6),(26,zV),(27,zI6)],[],[],[]⟩ .none))) .none)))) Tryz.call89 Tryz.func89 h
theorem Fp (a:Nat) (b:Int) (c d:Bool) (e:B8) (f g i j k:Int) (l:B8) (m n o:TV) (s:St) (K:St->Prop) (h:Ad (b=6) (EN AR [.box a 0,.list 1 .full 1 [.str str7]] s (λb=>need (isSl n) (MO (0:Int) (TV.box a 0) n (lenS n:Int) b (λa b c d e f=>Ad (b<e) (zIz b 13 d (Rz f (ixT 13 d b.toNat) (λg i j k l m n o p q r s t=>CN g i j k l m n o p q r s t (Ad (0<b) (EN AR [c,.list 1 .full 1 [.str str19]] f (λf=>EN Bu [c,By g i j k l m n o p q r s t] f λf=>a (i64.wrap (b+1)) c d e f)) (EN Bu [c,By g i j k l m n o p q r s t] f (λf=>a (i64.wrap (b+1)) c d e f)))))) (EN AR [c,.list 1 .full 1 [.str UW]] f K))))) (Ad (b=7) (EN AR [.box a 0,.list 1 .full 1 [.str str20]] s (λb=>need (isSl o) (MO (0:Int) (TV.box a 0) o (lenS o:Int) b (λa b c d e f=>Ad (b<e) (zIz b 14 d (S7 f (ixT 14 d b.toNat) (λg i j k l m n o p q r s t u=>MM g i j k l m n o p q r s t u (Ad (0<b) (EN AR [c,.list 1 .full 1 [.str str19]] f (λf=>PG NA [.str g] f λf g=>EN AR [c,.list 1 .full 2 [.str f,.str str9]] g λf=>EN Bu [c,By i j k l m n o p q r s t u] f λf=>a (i64.wrap (b+1)) c d e f)) (PG NA [.str g] f (λf g=>EN AR [c,.list 1 .full 2 [.str f,.str str9]] g λf=>EN Bu [c,By i j k l m n o p q r s t u] f λf=>a (i64.wrap (b+1)) c d e f)))))) (EN AR [c,.list 1 .full 1 [.str str21]] f K))))) (zC8 I3 [By b c d e f g i j k l m n o] s (λb _ c=>EN AR [.box a 0,.list 1 .full 1 [.str b]] c K)))):EN Bu [.box a 0,By b c d e f g i j k l m n o] s K:=
 tcF ⟨[3,5,7],[],[],NoE⟩ (zSn (zSn (.block (zSn (.cond (zSn (.seq (zSn (.block (.loop ⟨[(29,zI6),(0,zV),(27,zV),(28,zI6)],[],[],[]⟩ .none))) .none)) (zSn (.cond (zSn (.seq (zSn (.block (.loop ⟨[(54,zI6),(0,zV),(52,zV),(53,zI6)],[],[],[]⟩ .none))) .none)) .none))))))) Tryz.call90 Tryz.func90 h
theorem PL (a:Int) (b c:Bool) (d:B8) (e f g i j:Int) (k:B8) (l m n:TV) (o:Int) (p:Nat) (s:St) (K:Int->St->Prop) (h:Bx s p 0 λq=>Gw s p 0 (i64.wrap (q+1)) λq=>∃(r:Int->TV->Int->Bool->Bool->B8->Int->Int->Int->Int->Int->B8->TV->TV->TV->St->Prop),Ad (48<o) (K 9 q) (Bx q p 0 (λs=>Ad (65536<s) (K 10 q) (∃(s:Bool->Int->TV->Int->Bool->Bool->B8->Int->Int->Int->Int->Int->B8->TV->TV->TV->St->Prop),Ad (a<0) (s true o (.box p 0) a b c d e f g i j k l m n q) (Ad (8<=a) (s true o (.box p 0) a b c d e f g i j k l m n q) (zC0 Hv [By a b c d e f g i j k l m n] q (λq r=>s q o (.box p 0) a b c d e f g i j k l m n r)))/\(∀a b c d e f g i j k l m n o p q t,s a b c d e f g i j k l m n o p q t->BIf a (K 6 t) (∃(a:Bool->Int->TV->Int->Bool->Bool->B8->Int->Int->Int->Int->Int->B8->TV->TV->TV->St->Prop),Ad (d=2) (zC0 FY [.agg [.bool f,.str g,ziT i]] t (λr s=>BIf (!r) (a true b c d e f g i j k l m n o p q s) (Ad (d=3) (zC0 EY [zga9 j k l m] s (λr s=>a (!r) b c d e f g i j k l m n o p q s)) (a false b c d e f g i j k l m n o p q s)))) (Ad (d=3) (zC0 EY [zga9 j k l m] t (λr s=>a (!r) b c d e f g i j k l m n o p q s)) (a false b c d e f g i j k l m n o p q t))/\(∀b c d e f g i j k l m n o p q s t,a b c d e f g i j k l m n o p q s t->BIf b (K 2 t) (Ad (e=4) (zC0 GW [.str o] t (λa b=>BIf (!a) (K 5 b) (Ad (65536<(o.length:Int)) (K 10 b) (need (isSl p) (Ad (65536<(lenS p:Int)) (K 10 b) (r c d e f g i j k l m n o p q s b)))))) (Ad (65536<(o.length:Int)) (K 10 t) (need (isSl p) (Ad (65536<(lenS p:Int)) (K 10 t) (r c d e f g i j k l m n o p q s t)))))))))))/\(∀a b c d e f g i j k l m n o p q,r a b c d e f g i j k l m n o p q->zC4 Iv [p] q λq r=>Ad (q≠0) (K q r) (need (isSl o) (∃(q:Int->Int->TV->TV->Int->Int->Bool->Bool->B8->Int->Int->Int->Int->Int->B8->TV->TV->TV->St->Prop) (s:Int->Int->TV->TV->Int->Int->Bool->Bool->B8->Int->Int->Int->Int->Int->B8->TV->TV->TV->St->Nat),q (0:Int) a b o (lenS o:Int) c d e f g i j k l m n o p r/\(∀a b c d e f g i j k l m n o p r t u v,q a b c d e f g i j k l m n o p r t u v->Ad (a<e) (zIz a 13 d (Rz v (ixT 13 d a.toNat) (λw x y z A C D F G H J L M=>CN w x y z A C D F G H J L M (zC4 Eh [By w x y z A C D F G H J L M,ziT (i64.wrap (b+1)),c] v (λw x=>Ad (w≠0) (K w x) (q (i64.wrap (a+1)) b c d e f g i j k l m n o p r t u x/\s (i64.wrap (a+1)) b c d e f g i j k l m n o p r t u x<s a b c d e f g i j k l m n o p r t u v)))))) (need (isSl u) (WR (0:Int) b c u (lenS u:Int) v (λa b c d e f g=>Ad (b<f) (zIz b 14 e (S7 g (ixT 14 e b.toNat) (λi j k l m n o p q r s t u v=>MM i j k l m n o p q r s t u v (zC4 Eh [By j k l m n o p q r s t u v,ziT (i64.wrap (c+1)),d] g (λg i=>Ad (g≠0) (K g i) (a (i64.wrap (b+1)) c d e f i)))))) (K 0 g))))))))):zC4 Eh [By a b c d e f g i j k l m n,ziT o,.box p 0] s K:=
 tcF ⟨[3,9,12],[],[],NoE⟩ (zSn (zSn (.cut ⟨[(1,zI6),(2,zV)],[(3,0,0)],[(0,13)],[(0,0,zI6),(0,1,zB),(0,2,zB),(0,3,zS),(0,4,zI6),(0,5,zI6),(0,6,zI6),(0,7,zI6),(0,8,zI6),(0,9,zS),(0,10,zV),(0,11,zV),(0,12,zV)]⟩ (.block (zSn (.cond .none (zSn (.cond .none (.cut ⟨[(27,zB),(1,zI6),(2,zV)],[(3,0,0)],[(0,13)],[(0,0,zI6),(0,1,zB),(0,2,zB),(0,3,zS),(0,4,zI6),(0,5,zI6),(0,6,zI6),(0,7,zI6),(0,8,zI6),(0,9,zS),(0,10,zV),(0,11,zV),(0,12,zV)]⟩ .none (.cond .none (.cut ⟨[(40,zB),(1,zI6),(2,zV)],[(3,0,0)],[(0,13)],[(0,0,zI6),(0,1,zB),(0,2,zB),(0,3,zS),(0,4,zI6),(0,5,zI6),(0,6,zI6),(0,7,zI6),(0,8,zI6),(0,9,zS),(0,10,zV),(0,11,zV),(0,12,zV)]⟩ .none .none)))))))) (zSn (.seq (zSn (.block (.loop ⟨[(91,zI6),(1,zI6),(2,zV),(89,zV),(90,zI6)],[(3,0,0)],[(0,13)],[(0,0,zI6),(0,1,zB),(0,2,zB),(0,3,zS),(0,4,zI6),(0,5,zI6),(0,6,zI6),(0,7,zI6),(0,8,zI6),(0,9,zS),(0,10,zV),(0,11,zV),(0,12,zV)]⟩ .none))) (.seq (zSn (.block (.loop ⟨[(107,zI6),(1,zI6),(2,zV),(105,zV),(106,zI6)],[],[],[]⟩ .none))) .none)))))) Tryz.call93 Tryz.func93 h
end Go.TVF
end
section
set_option maxRecDepth 100000
namespace Go.TVF
open Go.IntKind(i64 u8)
open Go Go.Proofs
open Go.IntKind (i64 u8)
theorem Tc (a:B8) (s:St) (K:Int->St->Prop) (h:S6 (0:Int) a s λa b c d=>Ad (b<(c.length:Int)) (zSd b c (zC30 Bm [.str (List.drop b.toNat c)] d (λd e f=>Ad (d=65533) (Ad (e=1) (K b f) (a (i64.wrap (b+e)) c f)) (a (i64.wrap (b+e)) c f)))) (K (-1:Int) d)):zC4 JD [.str a] s K:=
 tcF ⟨[],[],[],NoE⟩ (zSn (.seq (zSn (.block (.loop ⟨[(3,zI6),(0,zS)],[],[],[]⟩ .none))) .none)) Tryz.call97 Tryz.func97 h
theorem IM (E:TV->St->Prop) (a:Nat) (s:St) (K:Int->B8->B8->TV->B8->St->Prop) (h:zX7 E BC [.box a 0,ziT 0,ziT 1] s λb c=>need (List.all [b] Av) (D9 c a 9 b (λb=>Dr b a 9 λc=>need (List.all [c] Av) (D9 b a 10 c (λb=>zLp6 (TV.box a 0) (0:Int) ([]:B8) ([]:B8) TV.nilSlice ([]:B8) b λa b c d e f g i=>zP2 b (BG E AN [AU b 0,.bool true] i (λi=>zP2 b (WQ E BB [AU b 0] i (λi j _ k l=>BIf (!k) (Ci l b 12 (λa=>zP2 b (need (isPtr (AU b 0)) (zLs l (AU (AU b 0) 0) (λc=>zP2 b (need (isPtr (AU b 0)) (zLi l (AU (AU b 0) 7) (λb=>zSd b c (need (List.all [a] Av) (Dk 1 [] [] a (List.drop b.toNat c) (K 1 [] [] a (List.drop b.toNat c) l))))))))))) (Ad (j=str7) (BG E DR [b] l (λi=>BG E BJ [b] i λi=>a b c d e f g i)) (Ad (i=6) (BG E Cr [b] l (λi=>BG E BJ [b] i λi=>a b c d e f g i)) (Ad (i=5) (BG E Cr [b] l (λi=>BG E BJ [b] i λi=>a b c d e f g i)) (zP2 b (zP2 b (need (isPtr (AU b 0)) (zLi l (AU (AU b 0) 6) (λi=>BG E Ai [AU b 0,ziT i,ziT 3] l λi=>BG E BJ [b] i λi=>a b c d e f g i))))))))))))))))):Ha E Do [.box a 0] s K:=
 tcF ⟨[2,3],[],[53],E⟩ (zSn (zSn (zSn (.block (.loop ⟨[(0,zV)],[(2,0,0)],[(0,5)],[(0,0,zI6),(0,1,zS),(0,2,zS),(0,3,zV),(0,4,zS)]⟩ .none))))) Tryz.call99 Tryz.func99 h
theorem PQ (a:TV) (s:St) (K:TV->Int->Int->St->Prop) (h:zC7 DS [] s λb c=>need (isSl a) (MO (0:Int) b a (lenS a:Int) c (λa b c d e f=>Ad (b<e) (zIz b 16 d (zLa6 f (ixT 16 d b.toNat) (λg i j k l m n o p q r s t u v w=>zNa6 g i j k l m n o p q r s t u v w (zC4 CX [c,PE g i j k l m n o p q r s t u v w,ziT b] f (λf g=>Ad (f≠0) (K .nilPtr b f g) (a (i64.wrap (b+1)) c d e g)))))) (K c 0 0 f)))):zC18 Hw [a] s K:=
 tcF ⟨[7],[],[],NoE⟩ (zSn (zSn (.seq (zSn (.block (.loop ⟨[(12,zI6),(5,zV),(10,zV),(11,zI6)],[],[],[]⟩ .none))) .none))) Tryz.call100 Tryz.func100 h
theorem RJ (a:Int) (b c:Bool) (d:B8) (e f g i j:Int) (k:B8) (l m n:TV) (s:St) (K:Int->Bool->Bool->B8->Int->Int->Int->Int->Int->B8->TV->TV->TV->St->Prop) (h:HH DG [By a b c d e f g i j k l m n,ziT 65536] s λa b c d e f g i j k l m n o=>CN a b c d e f g i j k l m n (K a b c d e f g i j k l m n o)):HH Gg [By a b c d e f g i j k l m n] s K:=
 tcF ⟨[1,2],[],[],NoE⟩ .none Tryz.call101 Tryz.func101 h
theorem Ik (a b:Nat) (s:St) (K:Int->Bool->Bool->B8->Int->Int->Int->Int->Int->B8->TV->TV->TV->St->Prop) (h:Dr s b 0 λc=>need (isSl c) (∃(d:Int->TV->TV->TV->Int->Int->Bool->Bool->B8->Int->Int->Int->Int->Int->B8->TV->TV->TV->Int->Bool->Bool->B8->Int->Int->Int->Int->Int->B8->TV->TV->TV->St->Prop) (e:Int->TV->TV->TV->Int->Int->Bool->Bool->B8->Int->Int->Int->Int->Int->B8->TV->TV->TV->Int->Bool->Bool->B8->Int->Int->Int->Int->Int->B8->TV->TV->TV->St->Nat),d (0:Int) (.box a 0) (.box b 0) c (lenS c:Int) (0:Int) false false ([]:B8) (0:Int) (0:Int) (0:Int) (0:Int) (0:Int) ([]:B8) .nilSlice .nilSlice .nilSlice (7:Int) false false ([]:B8) (0:Int) (0:Int) (0:Int) (0:Int) (0:Int) ([]:B8) .nilSlice .nilSlice .nilSlice s/\(∀a b c f g i j k l m n o p q r s t u v w x y z A C D F G H J L M,d a b c f g i j k l m n o p q r s t u v w x y z A C D F G H J L M->Ad (a<g) (zIz a 1 f (zLs M (ixT 1 f a.toNat) (λN=>Ci M c 1 λO=>AS (DY M O) λ(O:List (B8×TV))=>zP2 (AD .nilPtr (AG N O)) (Rz M (AU (AD .nilPtr (AG N O)) 2) (λP Q R T U W X Y Z a0 a1 a2 a3=>CN P Q R T U W X Y Z a0 a1 a2 a3 (Ci M (AD .nilPtr (AG N O)) 0 (λa4=>need (CV a4) (BIf (!(Cj a4)) (Ci M (AD .nilPtr (AG N O)) 0 (λO=>HH Aq [b,O] M λO P Q R T U W X Y Z a0 a1 a2 a3=>CN O P Q R T U W X Y Z a0 a1 a2 (MM N O P Q R T U W X Y Z a0 a1 a2 (Bn 87 14 184 L 1 [.str N,ziT O,.bool P,.bool Q,.str R,ziT T,ziT U,ziT W,ziT X,ziT Y,.str Z,a0,a1,a2] a3 (λ(N:TV) O=>need (List.all [N] Av) (d (i64.wrap (a+1)) b c f g i j k l m n o p q r s t u v w x y z A C D F G H J N O/\e (i64.wrap (a+1)) b c f g i j k l m n o p q r s t u v w x y z A C D F G H J N O<e a b c f g i j k l m n o p q r s t u v w x y z A C D F G H J L M)))))) (Ci M (AD .nilPtr (AG N O)) 1 (λa4=>need (isSl a4) (Ad (0<(lenS a4:Int)) (Ci M (AD .nilPtr (AG N O)) 1 (λO=>need (isSl O) (∃(P:Int->TV->TV->B8->TV->Int->Int->TV->Int->Int->Bool->Bool->B8->Int->Int->Int->Int->Int->B8->TV->TV->TV->Int->Bool->Bool->B8->Int->Int->Int->Int->Int->B8->TV->TV->TV->Int->Bool->Bool->B8->Int->Int->Int->Int->Int->B8->TV->TV->TV->St->Prop) (Q:Int->TV->TV->B8->TV->Int->Int->TV->Int->Int->Bool->Bool->B8->Int->Int->Int->Int->Int->B8->TV->TV->TV->Int->Bool->Bool->B8->Int->Int->Int->Int->Int->B8->TV->TV->TV->Int->Bool->Bool->B8->Int->Int->Int->Int->Int->B8->TV->TV->TV->St->Nat),P (0:Int) b c N f g a O (lenS O:Int) i j k l m n o p q r s t u v w x y z A C D F G H J L (6:Int) false false ([]:B8) (0:Int) (0:Int) (0:Int) (0:Int) (0:Int) ([]:B8) .nilSlice .nilSlice .nilSlice M/\(∀N O R T U W X Y Z a0 a1 a2 a3 a4 a5 a6 a7 a8 a9 b0 b1 b2 b3 b4 b5 b6 b7 b8 b9 c0 c1 c2 c3 c4 c5 c6 c7 c8 c9 d0 d1 d2 d3 d4 d5 d6 d7 d8 d9,P N O R T U W X Y Z a0 a1 a2 a3 a4 a5 a6 a7 a8 a9 b0 b1 b2 b3 b4 b5 b6 b7 b8 b9 c0 c1 c2 c3 c4 c5 c6 c7 c8 c9 d0 d1 d2 d3 d4 d5 d6 d7 d8 d9->Ad (N<Z) (zIz N 1 Y (zLt d9 (ixT 1 Y N.toNat) (λa=>HH Aq [O,a] d9 λa b c d e f g i j k l m n o=>CN a b c d e f g i j k l m n (Bn 33 13 168 d7 1 [ziT a,.bool b,.bool c,.str d,ziT e,ziT f,ziT g,ziT i,ziT j,.str k,l,m,n] o (λ(a:TV) b=>need (List.all [a] Av) (P (i64.wrap (N+1)) O R T U W X Y Z a0 a1 a2 a3 a4 a5 a6 a7 a8 a9 b0 b1 b2 b3 b4 b5 b6 b7 b8 b9 c0 c1 c2 c3 c4 c5 c6 c7 c8 c9 d0 d1 d2 d3 d4 d5 d6 a d8 b/\Q (i64.wrap (N+1)) O R T U W X Y Z a0 a1 a2 a3 a4 a5 a6 a7 a8 a9 b0 b1 b2 b3 b4 b5 b6 b7 b8 b9 c0 c1 c2 c3 c4 c5 c6 c7 c8 c9 d0 d1 d2 d3 d4 d5 d6 a d8 b<Q N O R T U W X Y Z a0 a1 a2 a3 a4 a5 a6 a7 a8 a9 b0 b1 b2 b3 b4 b5 b6 b7 b8 b9 c0 c1 c2 c3 c4 c5 c6 c7 c8 c9 d0 d1 d2 d3 d4 d5 d6 d7 d8 d9)))))) (MM T c6 c7 c8 c9 d0 d1 d2 d3 d4 d5 d6 d7 d8 (Bn 87 14 184 c5 1 [.str T,ziT c6,.bool c7,.bool c8,.str c9,ziT d0,ziT d1,ziT d2,ziT d3,ziT d4,.str d5,d6,d7,d8] d9 (λ(N:TV) P=>need (List.all [N] Av) (d (i64.wrap (X+1)) O R U W a0 a1 a2 a3 a4 a5 a6 a7 a8 a9 b0 b1 b2 b3 b4 b5 b6 b7 b8 b9 c0 c1 c2 c3 c4 N P/\e (i64.wrap (X+1)) O R U W a0 a1 a2 a3 a4 a5 a6 a7 a8 a9 b0 b1 b2 b3 b4 b5 b6 b7 b8 b9 c0 c1 c2 c3 c4 N P<e a b c f g i j k l m n o p q r s t u v w x y z A C D F G H J L M)))))))) (MM N P Q R T U W X Y Z a0 a1 a2 a3 (Bn 87 14 184 L 1 [.str N,ziT P,.bool Q,.bool R,.str T,ziT U,ziT W,ziT X,ziT Y,ziT Z,.str a0,a1,a2,a3] M (λ(N:TV) O=>need (List.all [N] Av) (d (i64.wrap (a+1)) b c f g i j k l m n o p q r s t u v w x y z A C D F G H J N O/\e (i64.wrap (a+1)) b c f g i j k l m n o p q r s t u v w x y z A C D F G H J N O<e a b c f g i j k l m n o p q r s t u v w x y z A C D F G H J L M))))))))))))))) (CN v w x y z A C D F G H J L (K v w x y z A C D F G H J L M))))):HH Aq [.box a 0,.box b 0] s K:=
 tcF ⟨[4,5,9],[],[],NoE⟩ (zSn (zSn (.seq (zSn (.block (.loop ⟨[(18,zI6),(0,zV),(1,zV),(16,zV),(17,zI6)],[(4,0,0),(5,1,0)],[(0,13),(1,13)],[(0,0,zI6),(0,1,zB),(0,2,zB),(0,3,zS),(0,4,zI6),(0,5,zI6),(0,6,zI6),(0,7,zI6),(0,8,zI6),(0,9,zS),(0,10,zV),(0,11,zV),(0,12,zV),(1,0,zI6),(1,1,zB),(1,2,zB),(1,3,zS),(1,4,zI6),(1,5,zI6),(1,6,zI6),(1,7,zI6),(1,8,zI6),(1,9,zS),(1,10,zV),(1,11,zV),(1,12,zV)]⟩ (zSn (zSn (.seq (.block (zSn (zSn (zSn (.seq (zSn (.cond .none (zSn (.cond (zSn (zSn (.block (.loop ⟨[(55,zI6),(0,zV),(1,zV),(7,zS),(16,zV),(17,zI6),(18,zI6),(53,zV),(54,zI6)],[(4,0,0),(5,1,0),(9,2,0)],[(0,13),(1,13),(2,13)],[(0,0,zI6),(0,1,zB),(0,2,zB),(0,3,zS),(0,4,zI6),(0,5,zI6),(0,6,zI6),(0,7,zI6),(0,8,zI6),(0,9,zS),(0,10,zV),(0,11,zV),(0,12,zV),(1,0,zI6),(1,1,zB),(1,2,zB),(1,3,zS),(1,4,zI6),(1,5,zI6),(1,6,zI6),(1,7,zI6),(1,8,zI6),(1,9,zS),(1,10,zV),(1,11,zV),(1,12,zV),(2,0,zI6),(2,1,zB),(2,2,zB),(2,3,zS),(2,4,zI6),(2,5,zI6),(2,6,zI6),(2,7,zI6),(2,8,zI6),(2,9,zS),(2,10,zV),(2,11,zV),(2,12,zV)]⟩ .none)))) .none)))) .none))))) .none)))))) .none))) Tryz.call102 Tryz.func102 h
end Go.TVF
end
section
set_option maxRecDepth 100000
namespace Go.TVF
open Go.IntKind(i64 u8)
open Go Go.Proofs
open Go.IntKind (i64 u8)
theorem RE (a:Int) (b c:Bool) (d:B8) (e f g i j:Int) (k:B8) (l m n:TV) (s:St) (K:TV->St->Prop) (h:zC7 BL [m] s λa b=>need (isSl n) (MO a (0:Int) n (lenS n:Int) b (λa b c d e f=>Ad (c<e) (zIz c 14 d (S7 f (ixT 14 d c.toNat) (λg i j k l m n o p q r s t u=>MM g i j k l m n o p q r s t u (CN i j k l m n o p q r s t u (Bn 33 13 168 b 1 [ziT i,.bool j,.bool k,.str l,ziT m,ziT n,ziT o,ziT p,ziT q,.str r,s,t,u] f (λ(b:TV) f=>a b (i64.wrap (c+1)) d e f)))))) (K b f)))):zC7 Gd [By a b c d e f g i j k l m n] s K:=
 tcF ⟨[1,5],[],[],NoE⟩ (zSn (zSn (.seq (zSn (.block (.loop ⟨[(3,zV),(12,zI6),(10,zV),(11,zI6)],[],[],[]⟩ .none))) .none))) Tryz.call114 Tryz.func114 h
end Go.TVF
end
section
set_option maxRecDepth 100000
namespace Go.TVF
open Go.IntKind(i64 u8)
open Go Go.Proofs
open Go.IntKind (i64 u8)
theorem Gx (a b:TV) (s:St) (K:Bool->St->Prop) (h:need (isSl a) (need (isSl b) (Ad ((lenS a:Int)≠(lenS b:Int)) (K false s) (need (isSl a) (MO (0:Int) a b (lenS a:Int) s (λa b c d e f=>Ad (b<e) (zIz b 1 c (zLu f (ixT 1 c b.toNat) (λg=>zIz b 1 d (zLu f (ixT 1 d b.toNat) (λi=>Ad (g≠i) (K false f) (a (i64.wrap (b+1)) c d e f)))))) (K true f))))))):zC0 CB [a,b] s K:=
 tcF ⟨[],[],[],NoE⟩ (zSn (zSn (.seq (zSn (.block (.loop ⟨[(13,zI6),(0,zV),(1,zV),(12,zI6)],[],[],[]⟩ .none))) .none))) Tryz.call115 Tryz.func115 h
theorem O4 (a:Int) (b c:Bool) (d:B8) (e f g i j:Int) (k:B8) (l m n:TV) (o:Int) (p q:Bool) (r:B8) (s t u v w:Int) (x:B8) (y z A C D:TV) (F:St) (K:Bool->St->Prop) (h:zLb F C λC=>zLi F D λD=>zC0 Gc [By a b c d e f g i j k l m n,By o p q r s t u v w x y z A,.bool C,ziT (i64.wrap (D-1))] F K):zC0 CZ [By a b c d e f g i j k l m n,By o p q r s t u v w x y z A,C,D] F K:=
 tcF ⟨[4,5],[],[],NoE⟩ .none Tryz.call117 Tryz.func117 h
theorem B0 (a b c:TV) (s:St) (K:Bool->St->Prop) (h:need (isSl a) (need (isSl b) (Ad ((lenS a:Int)≠(lenS b:Int)) (K false s) (need (isSl a) (WR (0:Int) b c a (lenS a:Int) s (λa b c d e f g=>Ad (b<f) (zIz b 13 e (Rz g (ixT 13 e b.toNat) (λi j k l m n o p q r s t u=>CN i j k l m n o p q r s t u (zIz b 13 c (Rz g (ixT 13 c b.toNat) (λv w x y z A C D F G H J L=>CN v w x y z A C D F G H J L (Ja NoE PR d [By i j k l m n o p q r s t u,By v w x y z A C D F G H J L] [.one .bool] g (λ(g:Bool) i=>BIf (!g) (K false i) (a (i64.wrap (b+1)) c d e f i))))))))) (K true g))))))):zC0 As [a,b,c] s K:=
 tcF ⟨[8,9],[],[],NoE⟩ (zSn (zSn (.seq (zSn (.block (.loop ⟨[(17,zI6),(1,zV),(2,zV),(15,zV),(16,zI6)],[],[],[]⟩ .none))) .none))) Tryz.call118 Tryz.func118 h
theorem B1 (a b c:TV) (s:St) (K:Bool->St->Prop) (h:need (isSl a) (need (isSl b) (Ad ((lenS a:Int)≠(lenS b:Int)) (K false s) (need (isSl a) (WR (0:Int) b c a (lenS a:Int) s (λa b c d e f g=>Ad (b<f) (zIz b 14 e (S7 g (ixT 14 e b.toNat) (λi j k l m n o p q r s t u v=>MM i j k l m n o p q r s t u v (zIz b 14 c (S7 g (ixT 14 c b.toNat) (λw x y z A C D F G H J L M N=>MM w x y z A C D F G H J L M N (Ja NoE PR d [zga8 i j k l m n o p q r s t u v,zga8 w x y z A C D F G H J L M N] [.one .bool] g (λ(g:Bool) i=>BIf (!g) (K false i) (a (i64.wrap (b+1)) c d e f i))))))))) (K true g))))))):zC0 At [a,b,c] s K:=
 tcF ⟨[8,9],[],[],NoE⟩ (zSn (zSn (.seq (zSn (.block (.loop ⟨[(17,zI6),(1,zV),(2,zV),(15,zV),(16,zI6)],[],[],[]⟩ .none))) .none))) Tryz.call119 Tryz.func119 h
theorem O3 (a:B8) (b:Int) (c d:Bool) (e:B8) (f g i j k:Int) (l:B8) (m n o:TV) (p:B8) (q:Int) (r s:Bool) (t:B8) (u v w x y:Int) (z:B8) (A C D F:TV) (G:St) (K:Bool->St->Prop) (h:Ad (a=p) (zLt G F (λa=>Ja NoE PR a [By b c d e f g i j k l m n o,By q r s t u v w x y z A C D] [.one .bool] G K)) (K false G)):zC0 EW [zga8 a b c d e f g i j k l m n o,zga8 p q r s t u v w x y z A C D,F] G K:=
 tcF ⟨[3,4],[],[],NoE⟩ .none Tryz.call120 Tryz.func120 h
theorem Ta (a:B8) (s:St) (K:Bool->St->Prop) (h:Jd MC [.str a] s λ_ a b=>K (decide (a=0)) b):zC0 GW [.str a] s K:=
 tcF ⟨[],[],[],NoE⟩ .none Tryz.call127 Tryz.func127 h
theorem Ly (a:B8) (s:St) (K:B8->Int->St->Prop) (h:Ad (a=[]) (K [] 4 s) (zIx 0 a (Ad (((List.getD a (Int.toNat (0:Int)) 0).toNat:Int)≠34) (zIx 0 a (Ad (((List.getD a (Int.toNat (0:Int)) 0).toNat:Int)≠39) (K [] 3 s) (zC36 Cp [.str a,ziT 0] s (λb c d e=>Ad (d≠0) (K [] d e) (Ad (c≠(a.length:Int)) (K [] 3 e) (K b 0 e)))))) (zC36 Cp [.str a,ziT 0] s (λb c d e=>Ad (d≠0) (K [] d e) (Ad (c≠(a.length:Int)) (K [] 3 e) (K b 0 e))))))):zC8 Cg [.str a] s K:=
 tcF ⟨[],[],[],NoE⟩ .none Tryz.call130 Tryz.func130 h
theorem NU (a:B8) (s:St) (K:Bool->St->Prop) (h:zC11 CD [] s λb _ c=>Ad (a≠ []) (zC4 CA [.str a,ziT 0,b] c (λb c=>K (decide (b=(a.length:Int))) c)) (K false c)):zC0 Ey [.str a] s K:=
 tcF ⟨[],[],[],NoE⟩ .none Tryz.call137 Tryz.func137 h
theorem MV (a:B8) (s:St) (K:B8->Int->St->Prop) (h:zC4 GC [.str a] s λb c=>Ad (0<=b) (K [] 5 c) (UE (TV.list 1 .full 1 [.int .u8 (34:Int)]) (0:Int) a c (λa b c d e=>Ad (c<(d.length:Int)) (zIx c d (zC4 BK [.str LQ,.int .u8 ((List.getD d c.toNat 0).toNat:Int)] e (λe f=>Ad (0<=e) (zIx e UV (Bn 5 1 1 b 2 [.int .u8 (92:Int),.int .u8 ((List.getD UV e.toNat 0).toNat:Int)] f (λ(b:TV) e=>a b (i64.wrap (c+1)) d e))) (Ad (((List.getD d c.toNat 0).toNat:Int)<32) (zIx (Int.fdiv ((List.getD d c.toNat 0).toNat:Int) (2^min (Int.toNat (4:Int)) (IntKind.bits .u8))) Kv (zIx (AI .and .u8 ((List.getD d c.toNat 0).toNat:Int) (15:Int)) Kv (Bn 5 1 1 b 6 [.int .u8 (92:Int),.int .u8 (117:Int),.int .u8 (48:Int),.int .u8 (48:Int),.int .u8 ((List.getD Kv (Int.toNat (Int.fdiv ((List.getD d c.toNat 0).toNat:Int) (2^min (Int.toNat (4:Int)) (IntKind.bits .u8)))) 0).toNat:Int),.int .u8 ((List.getD Kv (Int.toNat (AI .and .u8 ((List.getD d c.toNat 0).toNat:Int) (15:Int))) 0).toNat:Int)] f (λ(b:TV) e=>a b (i64.wrap (c+1)) d e)))) (Bn 5 1 1 b 1 [.int .u8 ((List.getD d c.toNat 0).toNat:Int)] f (λ(b:TV) e=>a b (i64.wrap (c+1)) d e)))))) (Bn 5 1 1 b 1 [.int .u8 (34:Int)] e (λ(a:TV) b=>AS ((toBytes b a).map TV.str) λ(a:TV)=>CG .str a λ(a:B8)=>K a 0 b))))):zC8 FB [.str a] s K:=
 tcF ⟨[],[],[],NoE⟩ (zSn (zSn (zSn (.seq (zSn (.block (.loop ⟨[(4,zV),(5,zI6),(0,zS)],[],[],[]⟩ .none))) .none)))) Tryz.call138 Tryz.func138 h
end Go.TVF
end
section
set_option maxRecDepth 100000
namespace Go.TVF
open Go.IntKind(i64 u8)
open Go Go.Proofs
open Go.IntKind (i64 u8)
theorem NS (a:Int) (b c:Bool) (d:B8) (e f g i j:Int) (k:B8) (l m n:TV) (s:St) (K:B8->Int->St->Prop) (h:Ad (a=1) (BIf b (K M5 0 s) (K UU 0 s)) (Ad (a=2) (PG Pq [.agg [.bool c,.str d,ziT e]] s (λa b=>K a 0 b)) (Ad (a=3) (PG QU [zga9 f g i j] s (λa b=>K a 0 b)) (Ad (a=4) (zC8 FB [.str k] s K) (Ad (a=0) (Ad (a=0) (K [] 27 s) (K [] 6 s)) (Ad (a=5) (K [] 27 s) (K [] 6 s))))))):zC8 I3 [By a b c d e f g i j k l m n] s K:=
 tcF ⟨[1],[],[],NoE⟩ .none Tryz.call150 Tryz.func150 h
theorem PK (a:Int) (b c:Bool) (d:B8) (e f g i j:Int) (k:B8) (l m n:TV) (s:St) (K:Bool->St->Prop) (h:Ad (a≠1) (BIf b (K true s) (Ad (a≠2) (BIf (!(c==false&&(decide (d=[])&&(decide (e=0)&&true)))) (K true s) (Ad (a≠3) (BIf (!(decide (f=0)&&(decide (g=0)&&(decide (i=0)&&(decide (j=0)&&true))))) (K true s) (Ad (a≠4) (Ad (k≠ []) (K true s) (Ad (a≠5) (need (isSl l) (Ad (0<(lenS l:Int)) (K true s) (Ad (a≠6) (need (isSl m) (Ad (0<(lenS m:Int)) (K true s) (Ad (a≠7) (need (isSl n) (K (decide (0<(lenS n:Int))) s)) (K false s)))) (Ad (a≠7) (need (isSl n) (K (decide (0<(lenS n:Int))) s)) (K false s))))) (Ad (a≠6) (need (isSl m) (Ad (0<(lenS m:Int)) (K true s) (Ad (a≠7) (need (isSl n) (K (decide (0<(lenS n:Int))) s)) (K false s)))) (Ad (a≠7) (need (isSl n) (K (decide (0<(lenS n:Int))) s)) (K false s))))) (Ad (a≠5) (need (isSl l) (Ad (0<(lenS l:Int)) (K true s) (Ad (a≠6) (need (isSl m) (Ad (0<(lenS m:Int)) (K true s) (Ad (a≠7) (need (isSl n) (K (decide (0<(lenS n:Int))) s)) (K false s)))) (Ad (a≠7) (need (isSl n) (K (decide (0<(lenS n:Int))) s)) (K false s))))) (Ad (a≠6) (need (isSl m) (Ad (0<(lenS m:Int)) (K true s) (Ad (a≠7) (need (isSl n) (K (decide (0<(lenS n:Int))) s)) (K false s)))) (Ad (a≠7) (need (isSl n) (K (decide (0<(lenS n:Int))) s)) (K false s)))))) (Ad (a≠4) (Ad (k≠ []) (K true s) (Ad (a≠5) (need (isSl l) (Ad (0<(lenS l:Int)) (K true s) (Ad (a≠6) (need (isSl m) (Ad (0<(lenS m:Int)) (K true s) (Ad (a≠7) (need (isSl n) (K (decide (0<(lenS n:Int))) s)) (K false s)))) (Ad (a≠7) (need (isSl n) (K (decide (0<(lenS n:Int))) s)) (K false s))))) (Ad (a≠6) (need (isSl m) (Ad (0<(lenS m:Int)) (K true s) (Ad (a≠7) (need (isSl n) (K (decide (0<(lenS n:Int))) s)) (K false s)))) (Ad (a≠7) (need (isSl n) (K (decide (0<(lenS n:Int))) s)) (K false s))))) (Ad (a≠5) (need (isSl l) (Ad (0<(lenS l:Int)) (K true s) (Ad (a≠6) (need (isSl m) (Ad (0<(lenS m:Int)) (K true s) (Ad (a≠7) (need (isSl n) (K (decide (0<(lenS n:Int))) s)) (K false s)))) (Ad (a≠7) (need (isSl n) (K (decide (0<(lenS n:Int))) s)) (K false s))))) (Ad (a≠6) (need (isSl m) (Ad (0<(lenS m:Int)) (K true s) (Ad (a≠7) (need (isSl n) (K (decide (0<(lenS n:Int))) s)) (K false s)))) (Ad (a≠7) (need (isSl n) (K (decide (0<(lenS n:Int))) s)) (K false s))))))) (Ad (a≠3) (BIf (!(decide (f=0)&&(decide (g=0)&&(decide (i=0)&&(decide (j=0)&&true))))) (K true s) (Ad (a≠4) (Ad (k≠ []) (K true s) (Ad (a≠5) (need (isSl l) (Ad (0<(lenS l:Int)) (K true s) (Ad (a≠6) (need (isSl m) (Ad (0<(lenS m:Int)) (K true s) (Ad (a≠7) (need (isSl n) (K (decide (0<(lenS n:Int))) s)) (K false s)))) (Ad (a≠7) (need (isSl n) (K (decide (0<(lenS n:Int))) s)) (K false s))))) (Ad (a≠6) (need (isSl m) (Ad (0<(lenS m:Int)) (K true s) (Ad (a≠7) (need (isSl n) (K (decide (0<(lenS n:Int))) s)) (K false s)))) (Ad (a≠7) (need (isSl n) (K (decide (0<(lenS n:Int))) s)) (K false s))))) (Ad (a≠5) (need (isSl l) (Ad (0<(lenS l:Int)) (K true s) (Ad (a≠6) (need (isSl m) (Ad (0<(lenS m:Int)) (K true s) (Ad (a≠7) (need (isSl n) (K (decide (0<(lenS n:Int))) s)) (K false s)))) (Ad (a≠7) (need (isSl n) (K (decide (0<(lenS n:Int))) s)) (K false s))))) (Ad (a≠6) (need (isSl m) (Ad (0<(lenS m:Int)) (K true s) (Ad (a≠7) (need (isSl n) (K (decide (0<(lenS n:Int))) s)) (K false s)))) (Ad (a≠7) (need (isSl n) (K (decide (0<(lenS n:Int))) s)) (K false s)))))) (Ad (a≠4) (Ad (k≠ []) (K true s) (Ad (a≠5) (need (isSl l) (Ad (0<(lenS l:Int)) (K true s) (Ad (a≠6) (need (isSl m) (Ad (0<(lenS m:Int)) (K true s) (Ad (a≠7) (need (isSl n) (K (decide (0<(lenS n:Int))) s)) (K false s)))) (Ad (a≠7) (need (isSl n) (K (decide (0<(lenS n:Int))) s)) (K false s))))) (Ad (a≠6) (need (isSl m) (Ad (0<(lenS m:Int)) (K true s) (Ad (a≠7) (need (isSl n) (K (decide (0<(lenS n:Int))) s)) (K false s)))) (Ad (a≠7) (need (isSl n) (K (decide (0<(lenS n:Int))) s)) (K false s))))) (Ad (a≠5) (need (isSl l) (Ad (0<(lenS l:Int)) (K true s) (Ad (a≠6) (need (isSl m) (Ad (0<(lenS m:Int)) (K true s) (Ad (a≠7) (need (isSl n) (K (decide (0<(lenS n:Int))) s)) (K false s)))) (Ad (a≠7) (need (isSl n) (K (decide (0<(lenS n:Int))) s)) (K false s))))) (Ad (a≠6) (need (isSl m) (Ad (0<(lenS m:Int)) (K true s) (Ad (a≠7) (need (isSl n) (K (decide (0<(lenS n:Int))) s)) (K false s)))) (Ad (a≠7) (need (isSl n) (K (decide (0<(lenS n:Int))) s)) (K false s)))))))) (Ad (a≠2) (BIf (!(c==false&&(decide (d=[])&&(decide (e=0)&&true)))) (K true s) (Ad (a≠3) (BIf (!(decide (f=0)&&(decide (g=0)&&(decide (i=0)&&(decide (j=0)&&true))))) (K true s) (Ad (a≠4) (Ad (k≠ []) (K true s) (Ad (a≠5) (need (isSl l) (Ad (0<(lenS l:Int)) (K true s) (Ad (a≠6) (need (isSl m) (Ad (0<(lenS m:Int)) (K true s) (Ad (a≠7) (need (isSl n) (K (decide (0<(lenS n:Int))) s)) (K false s)))) (Ad (a≠7) (need (isSl n) (K (decide (0<(lenS n:Int))) s)) (K false s))))) (Ad (a≠6) (need (isSl m) (Ad (0<(lenS m:Int)) (K true s) (Ad (a≠7) (need (isSl n) (K (decide (0<(lenS n:Int))) s)) (K false s)))) (Ad (a≠7) (need (isSl n) (K (decide (0<(lenS n:Int))) s)) (K false s))))) (Ad (a≠5) (need (isSl l) (Ad (0<(lenS l:Int)) (K true s) (Ad (a≠6) (need (isSl m) (Ad (0<(lenS m:Int)) (K true s) (Ad (a≠7) (need (isSl n) (K (decide (0<(lenS n:Int))) s)) (K false s)))) (Ad (a≠7) (need (isSl n) (K (decide (0<(lenS n:Int))) s)) (K false s))))) (Ad (a≠6) (need (isSl m) (Ad (0<(lenS m:Int)) (K true s) (Ad (a≠7) (need (isSl n) (K (decide (0<(lenS n:Int))) s)) (K false s)))) (Ad (a≠7) (need (isSl n) (K (decide (0<(lenS n:Int))) s)) (K false s)))))) (Ad (a≠4) (Ad (k≠ []) (K true s) (Ad (a≠5) (need (isSl l) (Ad (0<(lenS l:Int)) (K true s) (Ad (a≠6) (need (isSl m) (Ad (0<(lenS m:Int)) (K true s) (Ad (a≠7) (need (isSl n) (K (decide (0<(lenS n:Int))) s)) (K false s)))) (Ad (a≠7) (need (isSl n) (K (decide (0<(lenS n:Int))) s)) (K false s))))) (Ad (a≠6) (need (isSl m) (Ad (0<(lenS m:Int)) (K true s) (Ad (a≠7) (need (isSl n) (K (decide (0<(lenS n:Int))) s)) (K false s)))) (Ad (a≠7) (need (isSl n) (K (decide (0<(lenS n:Int))) s)) (K false s))))) (Ad (a≠5) (need (isSl l) (Ad (0<(lenS l:Int)) (K true s) (Ad (a≠6) (need (isSl m) (Ad (0<(lenS m:Int)) (K true s) (Ad (a≠7) (need (isSl n) (K (decide (0<(lenS n:Int))) s)) (K false s)))) (Ad (a≠7) (need (isSl n) (K (decide (0<(lenS n:Int))) s)) (K false s))))) (Ad (a≠6) (need (isSl m) (Ad (0<(lenS m:Int)) (K true s) (Ad (a≠7) (need (isSl n) (K (decide (0<(lenS n:Int))) s)) (K false s)))) (Ad (a≠7) (need (isSl n) (K (decide (0<(lenS n:Int))) s)) (K false s))))))) (Ad (a≠3) (BIf (!(decide (f=0)&&(decide (g=0)&&(decide (i=0)&&(decide (j=0)&&true))))) (K true s) (Ad (a≠4) (Ad (k≠ []) (K true s) (Ad (a≠5) (need (isSl l) (Ad (0<(lenS l:Int)) (K true s) (Ad (a≠6) (need (isSl m) (Ad (0<(lenS m:Int)) (K true s) (Ad (a≠7) (need (isSl n) (K (decide (0<(lenS n:Int))) s)) (K false s)))) (Ad (a≠7) (need (isSl n) (K (decide (0<(lenS n:Int))) s)) (K false s))))) (Ad (a≠6) (need (isSl m) (Ad (0<(lenS m:Int)) (K true s) (Ad (a≠7) (need (isSl n) (K (decide (0<(lenS n:Int))) s)) (K false s)))) (Ad (a≠7) (need (isSl n) (K (decide (0<(lenS n:Int))) s)) (K false s))))) (Ad (a≠5) (need (isSl l) (Ad (0<(lenS l:Int)) (K true s) (Ad (a≠6) (need (isSl m) (Ad (0<(lenS m:Int)) (K true s) (Ad (a≠7) (need (isSl n) (K (decide (0<(lenS n:Int))) s)) (K false s)))) (Ad (a≠7) (need (isSl n) (K (decide (0<(lenS n:Int))) s)) (K false s))))) (Ad (a≠6) (need (isSl m) (Ad (0<(lenS m:Int)) (K true s) (Ad (a≠7) (need (isSl n) (K (decide (0<(lenS n:Int))) s)) (K false s)))) (Ad (a≠7) (need (isSl n) (K (decide (0<(lenS n:Int))) s)) (K false s)))))) (Ad (a≠4) (Ad (k≠ []) (K true s) (Ad (a≠5) (need (isSl l) (Ad (0<(lenS l:Int)) (K true s) (Ad (a≠6) (need (isSl m) (Ad (0<(lenS m:Int)) (K true s) (Ad (a≠7) (need (isSl n) (K (decide (0<(lenS n:Int))) s)) (K false s)))) (Ad (a≠7) (need (isSl n) (K (decide (0<(lenS n:Int))) s)) (K false s))))) (Ad (a≠6) (need (isSl m) (Ad (0<(lenS m:Int)) (K true s) (Ad (a≠7) (need (isSl n) (K (decide (0<(lenS n:Int))) s)) (K false s)))) (Ad (a≠7) (need (isSl n) (K (decide (0<(lenS n:Int))) s)) (K false s))))) (Ad (a≠5) (need (isSl l) (Ad (0<(lenS l:Int)) (K true s) (Ad (a≠6) (need (isSl m) (Ad (0<(lenS m:Int)) (K true s) (Ad (a≠7) (need (isSl n) (K (decide (0<(lenS n:Int))) s)) (K false s)))) (Ad (a≠7) (need (isSl n) (K (decide (0<(lenS n:Int))) s)) (K false s))))) (Ad (a≠6) (need (isSl m) (Ad (0<(lenS m:Int)) (K true s) (Ad (a≠7) (need (isSl n) (K (decide (0<(lenS n:Int))) s)) (K false s)))) (Ad (a≠7) (need (isSl n) (K (decide (0<(lenS n:Int))) s)) (K false s)))))))):zC0 Hv [By a b c d e f g i j k l m n] s K:=
 tcF ⟨[1],[],[],NoE⟩ .none Tryz.call153 Tryz.func153 h
theorem NX (a:Bool) (b:B8) (c:Int) (s:St) (K:Bool->St->Prop) (h:Ad (b=[]) (K (a==false&&(decide (b=[])&&(decide (c=0)&&true))) s) (zC0 E0 [.str b] s (λa d=>BIf a (Ad ((b.length:Int)<=120) (zC4 GE [.str b] d (λa b=>Ad (a=0) (Ad ((-400:Int)<=c) (K (decide (c<=400)) b) (K false b)) (K false b))) (K false d)) (K false d)))):zC0 FY [.agg [.bool a,.str b,ziT c]] s K:=
 tcF ⟨[1],[],[],NoE⟩ .none Tryz.call154 Tryz.func154 h
theorem Pd (a b c d:Int) (s:St) (K:Bool->St->Prop) (h:Ad (a<1) (K false s) (Ad (4<a) (K false s) (Ad (b<0) (K false s) (Ad (3652058<b) (K false s) (Ad (c<0) (K false s) (Ad (86399999999999<c) (K false s) (Ad (d<(-1439:Int)) (K false s) (Ad (1439<d) (K false s) (Ad (a=2) (Ad (b=0) (K (decide (d=0)) s) (K false s)) (Ad (a=1) (Ad (c=0) (K (decide (d=0)) s) (K false s)) (Ad (a=3) (K (decide (d=0)) s) (K true s)))))))))))):zC0 EY [zga9 a b c d] s K:=
 tcF ⟨[1],[],[],NoE⟩ .none Tryz.call155 Tryz.func155 h
theorem RF (a:TV) (s:St) (K:Int->St->Prop) (h:need (isSl a) (MO (0:Int) (TV.map s.nb) a (lenS a:Int) (s.push (.map []) none) (λa b c d e f=>Ad (b<e) (zIz b 14 d (S7 f (ixT 14 d b.toNat) (λg i j k l m n o p q r s t u=>MM g i j k l m n o p q r s t u (zC4 JB [.str g] f (λf i=>Ad (f≠0) (K f i) (AS (DY i c) (λ(f:List (B8×TV))=>CG .bool (AD (.bool false) (AG g f)) λ(f:Bool)=>BIf f (K 8 i) (muK c g (.bool true) i (λf=>a (i64.wrap (b+1)) c d e f))))))))) (K 0 f)))):zC4 Iv [a] s K:=
 tcF ⟨[5],[],[],NoE⟩ (zSn (zSn (.seq (zSn (.block (.loop ⟨[(10,zI6),(3,zV),(8,zV),(9,zI6)],[],[],[]⟩ .none))) .none))) Tryz.call156 Tryz.func156 h
theorem LH (E:TV->St->Prop) (a:Nat) (b c:Int) (s:St) (K:TV->St->Prop) (h:BG E AZ [.box a 0,ziT b,ziT c] s λa=>need (List.all [.map a.nb] Av) (K (.box (a.push (.map []) none).nb 0) ((a.push (.map []) none).push (.cells [.map a.nb,ziT c,.bool false]) (some 290)))):zX7 E BC [.box a 0,ziT b,ziT c] s K:=
 tcF ⟨[],[],[],E⟩ .none Tryz.call158 Tryz.func158 h
theorem LC (E:TV->St->Prop) (a:Nat) (b:Bool) (s:St) (K:St->Prop) (h:S6 (TV.box a 0) b s λa b c d=>WQ E BB [b] d λd e _ f g=>BIf (!f) (K g) (Ad (d≠1) (BIf (!c) (K g) (Ad (d≠2) (Ad (d≠3) (K g) (FN g b 6 (λd=>ZV g b 6 (i64.wrap (d+(e.length:Int))) λd=>a b c d))) (FN g b 6 (λd=>ZV g b 6 (i64.wrap (d+(e.length:Int))) λd=>a b c d)))) (FN g b 6 (λd=>ZV g b 6 (i64.wrap (d+(e.length:Int))) λd=>a b c d)))):BG E AN [.box a 0,.bool b] s K:=
 tcF ⟨[4],[],[],E⟩ (.block (.loop ⟨[(0,zV),(1,zB)],[],[],[]⟩ .none)) Tryz.call159 Tryz.func159 h
theorem LD (E:TV->St->Prop) (a:Nat) (s:St) (K:Int->B8->Int->Bool->St->Prop) (h:Bx s a 6 λb=>Kc s a 0 λc=>Ad (b=(c.length:Int)) (K 0 [] 0 false s) (Kc s a 0 (λb=>Bx s a 6 λc=>zX26 E Ex [.str b,ziT c] s λb c d e f=>Ad (e=4) (Kc f a 0 (λg=>BG E Ai [.box a 0,ziT (g.length:Int),ziT e] f λf=>Ad (e≠0) (Bx f a 6 (λg=>BG E Ai [.box a 0,ziT g,ziT e] f λa=>K b c d true a)) (K b c d true f))) (Ad (e≠0) (Bx f a 6 (λg=>BG E Ai [.box a 0,ziT g,ziT e] f λa=>K b c d true a)) (K b c d true f))))):WQ E BB [.box a 0] s K:=
 tcF ⟨[2,4],[],[21,25],E⟩ .none Tryz.call160 Tryz.func160 h
theorem J2 (E:TV->St->Prop) (a:Nat) (s:St) (K:St->Prop) (h:Bx s a 6 λb=>zX17 E Di [.box a 0] s λc d=>Bx d a 6 λe=>Gw d a 6 (i64.wrap (e+1)) λd=>∃(e:TV->Int->B8->Bool->Bool->TV->Int->Bool->Bool->B8->Int->Int->Int->Int->Int->B8->TV->TV->TV->St->Prop),(Rx E Bf [.box a 0] d λ_ d _ f=>Ad (d=str7) (Bx f a 6 (λd=>Gw f a 6 (i64.wrap (d+1)) λd=>e (.box a 0) b c true true .nilSlice (0:Int) false false ([]:B8) (0:Int) (0:Int) (0:Int) (0:Int) (0:Int) ([]:B8) .nilSlice .nilSlice .nilSlice d)) (e (.box a 0) b c true false .nilSlice (0:Int) false false ([]:B8) (0:Int) (0:Int) (0:Int) (0:Int) (0:Int) ([]:B8) .nilSlice .nilSlice .nilSlice f))/\(∀a b c d f g i j k l m n o p q r s t u v,e a b c d f g i j k l m n o p q r s t u v->zP2 a (zX6 E Dj [AU a 0] v (λe g v=>need (List.all [e] Av) (zP2 a (need (isPtr (AU a 0)) (zLi v (AU (AU a 0) 6) (λw=>zP2 a (need (isPtr (AU a 0)) (zSi v (AU (AU a 0) 6) (i64.wrap (w+g)) (λg=>zP2 a (Ha E Bp [AU a 0,.str UW] g (λ_ _ _ _ _ g=>∃(v:TV->Int->B8->Bool->Bool->TV->Int->Bool->Bool->B8->Int->Int->Int->Int->Int->B8->TV->TV->TV->St->Prop),BIf f (zP2 a (Ha E Bp [AU a 0,.str UW] g (λ_ _ _ _ _ g=>v a b c d f e i j k l m n o p q r s t u g))) (v a b c d f e i j k l m n o p q r s t u g)/\(∀a b c d e f g i j k l m n o p q r s t u,v a b c d e f g i j k l m n o p q r s t u->zX4 E Db [a,ziT b,PE d e f g i j k l m n o p q r s t] u λ_ u=>Ci u a 11 λv=>zNa6 d e f g i j k l m n o p q r s t (Bn 129 16 200 v 1 [.bool d,.bool e,f,ziT g,.bool i,.bool j,.str k,ziT l,ziT m,ziT n,ziT o,ziT p,.str q,r,s,t] u (λ(d:TV) e=>zP2 a (need (List.all [d] Av) (Ry e (AU a 11) d (λd=>zP2 a (need (isPtr (AU a 0)) (zLs d (AU (AU a 0) 0) (λe=>zP2 a (need (isPtr (AU a 0)) (zLi d (AU (AU a 0) 6) (λf=>zSc b f e (BG E DC [a,zga2 7 c (List.drop b.toNat (List.take f.toNat e)) .nilSlice []] d (λb=>Af b [] (.t (AU (AU a 0) 6)) 0=some (ziT f)/\Af b [] (.t (AU (AU a 0) 0)) 0=some (.str e)/\K b))))))))))))))))))))))))))):BG E DR [.box a 0] s K:=
 tcF ⟨[4,5],[],[93,99],E⟩ (zSn (zSn (zSn (zSn (.cut ⟨[(0,zV),(2,zI6),(3,zS)],[(4,0,0)],[(0,16)],[(0,0,zB),(0,1,zB),(0,2,zV),(0,3,zI6),(0,4,zB),(0,5,zB),(0,6,zS),(0,7,zI6),(0,8,zI6),(0,9,zI6),(0,10,zI6),(0,11,zI6),(0,12,zS),(0,13,zV),(0,14,zV),(0,15,zV)]⟩ .none (zSn (zSn (zSn (zSn (.cut ⟨[(0,zV),(2,zI6),(3,zS)],[(4,0,0)],[(0,16)],[(0,0,zB),(0,1,zB),(0,2,zV),(0,3,zI6),(0,4,zB),(0,5,zB),(0,6,zS),(0,7,zI6),(0,8,zI6),(0,9,zI6),(0,10,zI6),(0,11,zI6),(0,12,zS),(0,13,zV),(0,14,zV),(0,15,zV)]⟩ .none .none)))))))))) Tryz.call161 Tryz.func161 h
end Go.TVF
end
section
set_option maxRecDepth 100000
namespace Go.TVF
open Go.IntKind(i64 u8)
open Go Go.Proofs
open Go.IntKind (i64 u8)
theorem Kj (E:TV->St->Prop) (a:Nat) (s:St) (K:St->Prop) (h:Bx s a 6 λb=>zX6 E Dj [.box a 0] s λc d e=>need (List.all [c] Av) (zNa6 false false c 0 false false [] 0 0 0 0 0 [] .nilSlice .nilSlice .nilSlice (zX4 E Db [.box a 0,ziT b,PE false false c 0 false false [] 0 0 0 0 0 [] .nilSlice .nilSlice .nilSlice] e (λb e=>Ha E Aw [.box a 0,ziT 6,ziT d] e λd e f g i j=>Dk d e f g i (BG E AN [.box a 0,.bool false] j (λj=>Ha E Bp [.box a 0,.str str14] j λj k l m n o=>Dk j k l m n (BG E AN [.box a 0,.bool false] o (λo=>UD E BI [.box a 0,ziT b] o λb o p q r s t u v w x y z A C D F G H=>Dk b o p q r (CN s t u v w x y z A C D F G (CN s t u v w x y z A C D F G (Dr H a 11 (λJ=>zNa6 false false c s t u v w x y z A C D F G (Bn 129 16 200 J 1 [.bool false,.bool false,c,ziT s,.bool t,.bool u,.str v,ziT w,ziT x,ziT y,ziT z,ziT A,.str C,D,F,G] H (λ(c:TV) s=>need (List.all [c] Av) (D9 s a 11 c (λc=>BG E DC [.box a 0,zga2 5 [] [] (.list 5 .full 3 [ziT d,.str e,.str f,g,.str i,ziT j,.str k,.str l,m,.str n,ziT b,.str o,.str p,q,.str r]) []] c K)))))))))))))))):BG E Cr [.box a 0] s K:=
 tcF ⟨[5,7,8,9,10],[],[],E⟩ .none Tryz.call162 Tryz.func162 h
theorem LG (E:TV->St->Prop) (a:Nat) (b c:Int) (s:St) (K:St->Prop) (h:E (.iface 163 (.agg [ziT b,ziT c])) s):BG E Ai [.box a 0,ziT b,ziT c] s K:=
 tcF ⟨[],[],[],E⟩ .none Tryz.call163 Tryz.func163 h
theorem Mf (E:TV->St->Prop) (a:Nat) (s:St) (K:St->Prop) (h:BG E AN [.box a 0,.bool false] s λb=>WQ E BB [.box a 0] b λb c _ d e=>BIf d (Ad (b=3) (Bx e a 6 (λb=>Gw e a 6 (i64.wrap (b+(c.length:Int))) λb=>WQ E BB [.box a 0] b λb _ _ c d=>BIf c (Ad (b≠2) (Bx d a 6 (λb=>BG E Ai [.box a 0,ziT b,ziT 3] d K)) (K d)) (K d))) (BIf d (Ad (b≠2) (Bx e a 6 (λb=>BG E Ai [.box a 0,ziT b,ziT 3] e K)) (K e)) (K e))) (BIf d (Ad (b≠2) (Bx e a 6 (λb=>BG E Ai [.box a 0,ziT b,ziT 3] e K)) (K e)) (K e))):BG E BJ [.box a 0] s K:=
 tcF ⟨[2],[],[53],E⟩ .none Tryz.call164 Tryz.func164 h
theorem J3 (s:St) (K:TV->St->Prop) (h:need (List.all [.map s.nb] Av) (zC7 AJ [.box (s.push (.pmap []) none).nb 0,ziT 1] ((s.push (.pmap []) none).push (.cells [.nilPtr,.nilPtr,.map s.nb,ziT 0]) (some 179)) (λa b=>need (List.all [a] Av) (D9 b (s.push (.pmap []) none).nb 0 a (λa=>Dr a (s.push (.pmap []) none).nb 0 λb=>need (List.all [b] Av) (D9 a (s.push (.pmap []) none).nb 1 b (λa=>K (.box (s.push (.pmap []) none).nb 0) a))))))):zC7 DS [] s K:=
 tcF ⟨[],[],[],NoE⟩ .none Tryz.call165 Tryz.func165 h
theorem HJ (a:Nat) (b c:Bool) (d:TV) (e:Int) (f g:Bool) (i:B8) (j k l m n:Int) (o:B8) (p q r:TV) (s:Int) (t:St) (K:Int->St->Prop) (h:zC0 D0 [PE b c d e f g i j k l m n o p q r] t λt u=>BIf (!t) (K 1 u) (Dr u a 1 (λt=>∃(v:TV->TV->Int->Bool->Bool->TV->Int->Bool->Bool->B8->Int->Int->Int->Int->Int->B8->TV->TV->TV->St->Prop),BIf b (Dr u a 0 (λt=>v t (.box a 0) s b c d e f g i j k l m n o p q r u)) (v t (.box a 0) s b c d e f g i j k l m n o p q r u)/\(∀a b c d e f g i j k l m n o p q r s t u,v a b c d e f g i j k l m n o p q r s t u->zC24 Dd [b,a,PE d e f g i j k l m n o p q r s t] u λa u v=>BIf (!u) (K 8 v) (need (isSl f) (zIz (i64.wrap ((lenS f:Int)-1)) 1 f (zLs v (ixT 1 f (Int.toNat (i64.wrap ((lenS f:Int)-1)))) (λu=>FN v a 2 λw=>BIf e (zC4 CR [b,a,.str u] v (λa c=>Ad (a≠0) (K a c) (Ad (48<i64.wrap (w+2)) (Ci c b 0 (λa=>HH Aq [b,a] c λa b c d e f g i j k l m n o=>zC4 AW [By a b c d e f g i j k l m n] o K)) (FN c b 3 (λa=>Ad (65536<a) (Ci c b 0 (λa=>HH Aq [b,a] c λa b c d e f g i j k l m n o=>zC4 AW [By a b c d e f g i j k l m n] o K)) (zC0 AF [f,.func Ca []] c (λa c=>BIf a (Ci c b 0 (λa=>HH Aq [b,a] c λa b c d e f g i j k l m n o=>zC4 AW [By a b c d e f g i j k l m n] o K)) (K 0 c)))))))) (BIf d (zC4 CW [b,a,.str u] v (λa c=>Ad (a≠0) (K a c) (Ad (48<i64.wrap (w+2)) (Ci c b 0 (λa=>HH Aq [b,a] c λa b c d e f g i j k l m n o=>zC4 AW [By a b c d e f g i j k l m n] o K)) (FN c b 3 (λa=>Ad (65536<a) (Ci c b 0 (λa=>HH Aq [b,a] c λa b c d e f g i j k l m n o=>zC4 AW [By a b c d e f g i j k l m n] o K)) (zC0 AF [f,.func Ca []] c (λa c=>BIf a (Ci c b 0 (λa=>HH Aq [b,a] c λa b c d e f g i j k l m n o=>zC4 AW [By a b c d e f g i j k l m n] o K)) (K 0 c)))))))) (Ci v a 1 (λd=>AS (DY v d) λ(d:List (B8×TV))=>need (CV (AD .nilPtr (AG u d))) (BIf (!(Cj (AD .nilPtr (AG u d)))) (K 8 v) (EN Bh [a,.str u,.box v.nb 0] (v.push (.cells [.nilPtr,.nilSlice,ziT g,.bool i,.bool j,.str k,ziT l,ziT m,ziT n,ziT o,ziT p,.str q,r,s,t,ziT c]) (some 213)) (λc=>zC4 AW [By g i j k l m n o p q r s t] c λc d=>Ad (c≠0) (Ci d b 0 (λa=>HH Aq [b,a] d λa b c d e f g i j k l m n o=>zC4 AW [By a b c d e f g i j k l m n] o K)) (FN d b 3 (λc=>zC4 Gf [By g i j k l m n o p q r s t] d λd e=>Af e [] (.t (AU b 3)) 0=some (ziT c)/\ZV e b 3 (i64.wrap (c+d)) λc=>FN c a 2 λd=>zC4 Fy [By g i j k l m n o p q r s t] c λc e=>Af e [] (.t (AU a 2)) 0=some (ziT d)/\Ad (48<i64.wrap (d+c)) (Ci e b 0 (λa=>HH Aq [b,a] e λa b c d e f g i j k l m n o=>zC4 AW [By a b c d e f g i j k l m n] o K)) (FN e b 3 (λa=>Ad (65536<a) (Ci e b 0 (λa=>HH Aq [b,a] e λa b c d e f g i j k l m n o=>zC4 AW [By a b c d e f g i j k l m n] o K)) (zC0 AF [f,.func Ca []] e (λa c=>BIf a (Ci c b 0 (λa=>HH Aq [b,a] c λa b c d e f g i j k l m n o=>zC4 AW [By a b c d e f g i j k l m n] o K)) (K 0 c))))))))))))))))))))):zC4 CX [.box a 0,PE b c d e f g i j k l m n o p q r,ziT s] t K:=
 tcF ⟨[4],[],[71,81],NoE⟩ (zSn (zSn (zSn (.cut ⟨[(7,zV),(0,zV),(2,zI6)],[(4,0,0)],[(0,16)],[(0,0,zB),(0,1,zB),(0,2,zV),(0,3,zI6),(0,4,zB),(0,5,zB),(0,6,zS),(0,7,zI6),(0,8,zI6),(0,9,zI6),(0,10,zI6),(0,11,zI6),(0,12,zS),(0,13,zV),(0,14,zV),(0,15,zV)]⟩ .none .none)))) Tryz.call166 Tryz.func166 h
theorem O5 (a:Int) (b c:Bool) (d:B8) (e f g i j:Int) (k:B8) (l m n:TV) (o:Int) (s:St) (K:Int->Bool->Bool->B8->Int->Int->Int->Int->Int->B8->TV->TV->TV->St->Prop) (h:zC7 CC [l] s λl p=>need (List.all [l] Av) (Ad (o<1) (CN a b c d e f g i j k l .nilSlice .nilSlice (K a b c d e f g i j k l .nilSlice .nilSlice p)) (need (isSl m) (∃(q:TV->Int->Int->TV->Int->Int->Bool->Bool->B8->Int->Int->Int->Int->Int->B8->TV->TV->TV->Int->Bool->Bool->B8->Int->Int->Int->Int->Int->B8->TV->TV->TV->St->Prop) (r:TV->Int->Int->TV->Int->Int->Bool->Bool->B8->Int->Int->Int->Int->Int->B8->TV->TV->TV->Int->Bool->Bool->B8->Int->Int->Int->Int->Int->B8->TV->TV->TV->St->Nat),q .nilSlice (0:Int) o m (lenS m:Int) a b c d e f g i j k l m n (0:Int) false false ([]:B8) (0:Int) (0:Int) (0:Int) (0:Int) (0:Int) ([]:B8) .nilSlice .nilSlice .nilSlice p/\(∀a b c d e f g i j k l m n o p s t u v w x y z A C D F G H J L M,q a b c d e f g i j k l m n o p s t u v w x y z A C D F G H J L M->Ad (b<e) (zIz b 13 d (Rz M (ixT 13 d b.toNat) (λN O P Q R T U W X Y Z a0 a1=>CN N O P Q R T U W X Y Z a0 a1 (HH DG [By N O P Q R T U W X Y Z a0 a1,ziT (i64.wrap (c-1))] M (λN O P Q R T U W X Y Z a0 a1 a2=>CN N O P Q R T U W X Y Z a0 a1 (Jb 33 13 168 a 1 [ziT N,.bool O,.bool P,.str Q,ziT R,ziT T,ziT U,ziT W,ziT X,.str Y,Z,a0,a1] a2 (λ(N:TV) O=>q N (i64.wrap (b+1)) c d e f g i j k l m n o p s t u v w x y z A C D F G H J L O/\r N (i64.wrap (b+1)) c d e f g i j k l m n o p s t u v w x y z A C D F G H J L O<r a b c d e f g i j k l m n o p s t u v w x y z A C D F G H J L M))))))) (need (isSl u) (∃(b:TV->Int->Int->TV->TV->Int->Int->Bool->Bool->B8->Int->Int->Int->Int->Int->B8->TV->TV->TV->Int->Bool->Bool->B8->Int->Int->Int->Int->Int->B8->TV->TV->TV->St->Prop) (d:TV->Int->Int->TV->TV->Int->Int->Bool->Bool->B8->Int->Int->Int->Int->Int->B8->TV->TV->TV->Int->Bool->Bool->B8->Int->Int->Int->Int->Int->B8->TV->TV->TV->St->Nat),b .nilSlice (0:Int) c a u (lenS u:Int) f g i j k l m n o p s t u v w x y z A C D F G H J L M/\(∀a c e f g i j k l m n o p q r s t u v w x y z A C D F G H J L M N,b a c e f g i j k l m n o p q r s t u v w x y z A C D F G H J L M N->Ad (c<i) (zIz c 14 g (S7 N (ixT 14 g c.toNat) (λO P Q R T U W X Y Z a0 a1 a2 a3=>MM O P Q R T U W X Y Z a0 a1 a2 a3 (HH DG [By P Q R T U W X Y Z a0 a1 a2 a3,ziT (i64.wrap (e-1))] N (λP Q R T U W X Y Z a0 a1 a2 a3 a4=>MM O P Q R T U W X Y Z a0 a1 a2 a3 (Jb 87 14 184 a 1 [.str O,ziT P,.bool Q,.bool R,.str T,ziT U,ziT W,ziT X,ziT Y,ziT Z,.str a0,a1,a2,a3] a4 (λ(O:TV) P=>b O (i64.wrap (c+1)) e f g i j k l m n o p q r s t u v w x y z A C D F G H J L M P/\d O (i64.wrap (c+1)) e f g i j k l m n o p q r s t u v w x y z A C D F G H J L M P<d a c e f g i j k l m n o p q r s t u v w x y z A C D F G H J L M N))))))) (need (List.all [f] Av) (need (List.all [a] Av) (CN j k l m n o p q r s t f a (K j k l m n o p q r s t f a N)))))))))))):HH DG [By a b c d e f g i j k l m n,ziT o] s K:=
 tcF ⟨[2,4,7,10],[33,52],[],NoE⟩ (zSn (zSn (zSn (zSn (.seq (zSn (.block (.loop ⟨[(5,zV),(23,zI6),(1,zI6),(21,zV),(22,zI6)],[(2,0,0),(4,1,0)],[(0,13),(1,13)],[(0,0,zI6),(0,1,zB),(0,2,zB),(0,3,zS),(0,4,zI6),(0,5,zI6),(0,6,zI6),(0,7,zI6),(0,8,zI6),(0,9,zS),(0,10,zV),(0,11,zV),(0,12,zV),(1,0,zI6),(1,1,zB),(1,2,zB),(1,3,zS),(1,4,zI6),(1,5,zI6),(1,6,zI6),(1,7,zI6),(1,8,zI6),(1,9,zS),(1,10,zV),(1,11,zV),(1,12,zV)]⟩ .none))) (zSn (.seq (zSn (.block (.loop ⟨[(8,zV),(38,zI6),(1,zI6),(5,zV),(36,zV),(37,zI6)],[(2,0,0),(4,1,0)],[(0,13),(1,13)],[(0,0,zI6),(0,1,zB),(0,2,zB),(0,3,zS),(0,4,zI6),(0,5,zI6),(0,6,zI6),(0,7,zI6),(0,8,zI6),(0,9,zS),(0,10,zV),(0,11,zV),(0,12,zV),(1,0,zI6),(1,1,zB),(1,2,zB),(1,3,zS),(1,4,zI6),(1,5,zI6),(1,6,zI6),(1,7,zI6),(1,8,zI6),(1,9,zS),(1,10,zV),(1,11,zV),(1,12,zV)]⟩ .none))) .none))))))) Tryz.call167 Tryz.func167 h
end Go.TVF
end
section
set_option maxRecDepth 100000
namespace Go.TVF
open Go.IntKind(i64 u8)
open Go Go.Proofs
open Go.IntKind (i64 u8)
theorem Ea (a:TV) (s:St) (K:TV->St->Prop) (h:need (isSl a) (BIf (Cj a) (K .nilSlice s) (AS (DW s 13 a) (λ(a:Nat×List TV)=>need (List.all a.2 Av) (Bn 33 13 168 (.list 13 .full 0 []) a.1 a.2 s K))))):zC7 BL [a] s K:=
 tcF ⟨[],[],[],NoE⟩ .none Tryz.call175 Tryz.func175 h
theorem WY (a:B8) (s:St) (K:Int->Int->St->Prop) (h:UE (0:Int) (0:Int) a s λa b c d e=>Ad (c<(d.length:Int)) (Jd Iy [.str d,ziT c] e (λ_ e f=>Ad (e=0) (K 0 5 f) (a (i64.wrap (b+1)) (i64.wrap (c+e)) d f))) (K b 0 e)):Jd MC [.str a] s K:=
 tcF ⟨[],[],[],NoE⟩ (zSn (zSn (.seq (zSn (.block (.loop ⟨[(4,zI6),(5,zI6),(0,zS)],[],[],[]⟩ .none))) .none))) Tryz.call186 Tryz.func186 h
theorem Mb (a:B8) (b:Int) (s:St) (K:B8->Int->Int->St->Prop) (h:zIx b a (MO (i64.wrap (b+1)) TV.nilSlice a ((List.getD a b.toNat 0).toNat:Int) s (λa b c d e f=>Ad (b<(d.length:Int)) (zSd b d (zC30 Bm [.str (List.drop b.toNat d)] f (λf g i=>zIx b d (Ad (((List.getD d b.toNat 0).toNat:Int)=e) (AS ((toBytes i c).map TV.str) (λ(a:TV)=>CG .str a λ(a:B8)=>K a (i64.wrap (b+1)) 0 i)) (zIx b d (Ad (((List.getD d b.toNat 0).toNat:Int)<32) (K [] 0 5 i) (Ad (f=65533) (Ad (g=1) (K [] 0 5 i) (zIx b d (Ad (((List.getD d b.toNat 0).toNat:Int)≠92) (zSc b (i64.wrap (b+g)) d (AS (DW i 1 (.str (List.drop b.toNat (List.take (Int.toNat (i64.wrap (b+g))) d)))) (λ(f:Nat×List TV)=>need (List.all f.2 Av) (Bn 5 1 1 c f.1 f.2 i (λ(c:TV) f=>a (i64.wrap (b+g)) c d e f))))) (Ad (e=39) (zSc b (i64.wrap (b+g)) d (AS (DW i 1 (.str (List.drop b.toNat (List.take (Int.toNat (i64.wrap (b+g))) d)))) (λ(f:Nat×List TV)=>need (List.all f.2 Av) (Bn 5 1 1 c f.1 f.2 i (λ(c:TV) f=>a (i64.wrap (b+g)) c d e f))))) (Ad ((d.length:Int)<=i64.wrap (b+1)) (K [] 0 4 i) (zIx (i64.wrap (b+1)) d (Ad (((List.getD d (Int.toNat (i64.wrap (b+1))) 0).toNat:Int)=117) (zC44 Dz [.str d,ziT (i64.wrap (b+2))] i (λb f g i=>Ad (g≠0) (K [] 0 g i) (zC7 Dy [c,.int .i32 b] i (λb c=>a f b d e c)))) (zIx (i64.wrap (b+1)) d (zC4 BK [.str Ku,.int .u8 ((List.getD d (Int.toNat (i64.wrap (b+1))) 0).toNat:Int)] i (λf g=>Ad (f<0) (K [] 0 3 g) (zIx f Sk (Bn 5 1 1 c 1 [.int .u8 ((List.getD Sk f.toNat 0).toNat:Int)] g (λ(c:TV) f=>a (i64.wrap (b+2)) c d e f))))))))))))) (zIx b d (Ad (((List.getD d b.toNat 0).toNat:Int)≠92) (zSc b (i64.wrap (b+g)) d (AS (DW i 1 (.str (List.drop b.toNat (List.take (Int.toNat (i64.wrap (b+g))) d)))) (λ(f:Nat×List TV)=>need (List.all f.2 Av) (Bn 5 1 1 c f.1 f.2 i (λ(c:TV) f=>a (i64.wrap (b+g)) c d e f))))) (Ad (e=39) (zSc b (i64.wrap (b+g)) d (AS (DW i 1 (.str (List.drop b.toNat (List.take (Int.toNat (i64.wrap (b+g))) d)))) (λ(f:Nat×List TV)=>need (List.all f.2 Av) (Bn 5 1 1 c f.1 f.2 i (λ(c:TV) f=>a (i64.wrap (b+g)) c d e f))))) (Ad ((d.length:Int)<=i64.wrap (b+1)) (K [] 0 4 i) (zIx (i64.wrap (b+1)) d (Ad (((List.getD d (Int.toNat (i64.wrap (b+1))) 0).toNat:Int)=117) (zC44 Dz [.str d,ziT (i64.wrap (b+2))] i (λb f g i=>Ad (g≠0) (K [] 0 g i) (zC7 Dy [c,.int .i32 b] i (λb c=>a f b d e c)))) (zIx (i64.wrap (b+1)) d (zC4 BK [.str Ku,.int .u8 ((List.getD d (Int.toNat (i64.wrap (b+1))) 0).toNat:Int)] i (λf g=>Ad (f<0) (K [] 0 3 g) (zIx f Sk (Bn 5 1 1 c 1 [.int .u8 ((List.getD Sk f.toNat 0).toNat:Int)] g (λ(c:TV) f=>a (i64.wrap (b+2)) c d e f))))))))))))))))))) (K [] 0 4 f)))):zC36 Cp [.str a,ziT b] s K:=
 tcF ⟨[],[],[],NoE⟩ (zSn (zSn (zSn (.seq (zSn (.block (.loop ⟨[(1,zI6),(8,zV),(0,zS),(7,zU8)],[],[],[]⟩ .none))) .none)))) Tryz.call188 Tryz.func188 h
theorem Lx (s:St) (K:TV->TV->St->Prop) (h:D9 (s.push (.cells [.nilFunc]) (some 273)) s.nb 0 (.func Bj []) λa=>Dr a s.nb 0 λb=>need (List.all [b] Av) (D9 a s.nb 0 b (λa=>Dr a s.nb 0 λb=>K b (.func DP [.box s.nb 0]) a))):zC11 CD [] s K:=
 tcF ⟨[],[],[],NoE⟩ .none Tryz.call198 Tryz.func198 h
theorem O6 (a:B8) (b:Int) (c:TV) (s:St) (K:Int->St->Prop) (h:UE b a c s λa b c d e=>Ad (b<(c.length:Int)) (zIx b c (Ja NoE PR d [.int .u8 ((List.getD c b.toNat 0).toNat:Int)] [.one .bool] e (λ(e:Bool) f=>BIf e (a (i64.wrap (b+1)) c d f) (K b f)))) (K b e)):zC4 CA [.str a,ziT b,c] s K:=
 tcF ⟨[],[],[],NoE⟩ (zSn (.seq (.block (.loop ⟨[(1,zI6),(0,zS),(2,zV)],[],[],[]⟩ .none)) .none)) Tryz.call199 Tryz.func199 h
theorem O9 (a:B8) (s:St) (K:Int->St->Prop) (h:S6 (0:Int) a s λa b c d=>Ad (b<(c.length:Int)) (zSd b c (zC30 Bm [.str (List.drop b.toNat c)] d (λd e f=>Ad (d=65533) (Ad (e=1) (K b f) (a (i64.wrap (b+e)) c f)) (a (i64.wrap (b+e)) c f)))) (K (-1:Int) d)):zC4 GC [.str a] s K:=
 tcF ⟨[],[],[],NoE⟩ (zSn (.seq (zSn (.block (.loop ⟨[(3,zI6),(0,zS)],[],[],[]⟩ .none))) .none)) Tryz.call200 Tryz.func200 h
theorem Kk (a b:B8) (s:St) (K:Bool->St->Prop) (h:zC0 ES [.str a,.str b] s K):zC0 Bq [.str a,.str b] s K:=
 tcF ⟨[],[],[],NoE⟩ .none Tryz.call204 Tryz.func204 h
end Go.TVF
end
section
set_option maxRecDepth 100000
namespace Go.TVF
open Go.IntKind(i64 u8)
open Go Go.Proofs
open Go.IntKind (i64 u8)
theorem Pg (a:B8) (s:St) (K:Bool->St->Prop) (h:Ad ((a.length:Int)<=600) (zC0 Iz [.str a] s (λb c=>BIf b (Ad (a=[]) (K true c) (zIx 0 a (K (decide (((List.getD a (Int.toNat (0:Int)) 0).toNat:Int)≠48)) c))) (K false c))) (K false s)):zC0 E0 [.str a] s K:=
 tcF ⟨[],[],[],NoE⟩ .none Tryz.call217 Tryz.func217 h
theorem Pf (a:B8) (s:St) (K:Int->St->Prop) (h:PG Em [.str a,.str YI] s λb c=>K (i64.wrap ((a.length:Int)-(b.length:Int))) c):zC4 GE [.str a] s K:=
 tcF ⟨[],[],[],NoE⟩ .none Tryz.call218 Tryz.func218 h
theorem S8 (a:B8) (s:St) (K:Int->St->Prop) (h:zC0 GW [.str a] s λb c=>BIf (!b) (K 5 c) (Ad (1024<(a.length:Int)) (K 10 c) (K 0 c))):zC4 JB [.str a] s K:=
 tcF ⟨[],[],[],NoE⟩ .none Tryz.call219 Tryz.func219 h
theorem Kg (E:TV->St->Prop) (a:Nat) (b c:Int) (s:St) (K:St->Prop) (h:Bx s a 1 λd=>Ad (d<c) (BG E Ai [.box a 0,ziT b,ziT 9] s (λc=>Bx c a 8 λd=>Bx c a 2 λe=>Ad (e<=d) (BG E Ai [.box a 0,ziT b,ziT 10] c (λb=>Bx b a 8 λc=>Gw b a 8 (i64.wrap (c+1)) K)) (Bx c a 8 (λb=>Gw c a 8 (i64.wrap (b+1)) K)))) (Bx s a 8 (λc=>Bx s a 2 λd=>Ad (d<=c) (BG E Ai [.box a 0,ziT b,ziT 10] s (λb=>Bx b a 8 λc=>Gw b a 8 (i64.wrap (c+1)) K)) (Bx s a 8 (λb=>Gw s a 8 (i64.wrap (b+1)) K))))):BG E AZ [.box a 0,ziT b,ziT c] s K:=
 tcF ⟨[],[],[],E⟩ .none Tryz.call221 Tryz.func221 h
theorem NT (a:B8) (b:Int) (s:St) (K:Int->B8->Int->Int->St->Prop) (h:Ad (b<0) (K 0 [] 0 1 s) (Ad ((a.length:Int)<b) (K 0 [] 0 1 s) (Ad (b=(a.length:Int)) (K 0 [] 0 7 s) (zC34 GB [.str a,ziT b] s (λc d e f=>Ad (e≠0) (K 0 [] 0 e f) (zSc b d a (K c (List.drop b.toNat (List.take d.toNat a)) b 0 f))))))):zC26 Ex [.str a,ziT b] s K:=
 tcF ⟨[4],[],[],NoE⟩ .none Tryz.call222 Tryz.func222 h
theorem LE (a:Nat) (s:St) (K:B8->St->Prop) (h:Kc s a 0 λb=>Bx s a 7 λc=>Bx s a 6 λd=>zSc c d b (Bx s a 6 (λe=>Gw s a 7 e λa=>K (List.drop c.toNat (List.take d.toNat b)) a))):PG Di [.box a 0] s K:=
 tcF ⟨[],[],[],NoE⟩ .none Tryz.call223 Tryz.func223 h
theorem Me (E:TV->St->Prop) (a:Nat) (s:St) (K:Int->B8->Int->St->Prop) (h:WQ E BB [.box a 0] s λb c d e f=>BIf (!e) (Bx f a 6 (λe=>BG E Ai [.box a 0,ziT e,ziT 4] f λa=>K b c d a)) (K b c d f)):Rx E Bf [.box a 0] s K:=
 tcF ⟨[2,3],[],[],E⟩ .none Tryz.call224 Tryz.func224 h
theorem LF (E:TV->St->Prop) (a:Nat) (s:St) (K:TV->Int->St->Prop) (h:Bx s a 6 λb=>zJn2 (λ(a:TV) (b:Int) c=>FN c a 6 λd=>ZV c a 6 b λc=>MN c a 0 λe=>zSc b (i64.wrap (b+i64.wrap (d-b))) e (zX24 E EX [.str (List.drop b.toNat (List.take (Int.toNat (i64.wrap (b+i64.wrap (d-b)))) e))] c (λc e f=>zJn2 (λ(a:Int) (b:TV) c=>K b a c) λg=>BIf (!e) (BG E Ai [a,ziT b,ziT 3] f (λa=>g (i64.wrap (d-b)) c a)) (g (i64.wrap (d-b)) c f)))) λc=>S6 (TV.box a 0) b s λa b d e=>WQ E BB [b] e λe f g i j=>zJn6 (λ(b:TV) (d:Int) (e:Bool) (f:Int) (g:B8) (i:Int) j=>zJn5 (λ(b:TV) (c _:Int) (d:B8) (_:Int) e=>FN e b 6 λf=>ZV e b 6 (i64.wrap (f+(d.length:Int))) λd=>a b c d) λa=>BIf (!e) (c b d j) (Ad (f≠6) (Ad (f≠5) (c b d j) (a b d f g i j)) (a b d f g i j))) λa=>FN j b 6 λc=>Ad (d=c) (Rx E Bf [b] j (λc e f g=>zJn7 (λ(b:Bool) (c:TV) (d:Int) (e:Bool) (f:Int) (g:B8) (i:Int) j=>BIf b (FN j c 6 (λb=>BG E Ai [c,ziT b,ziT 3] j λb=>a c d e f g i b)) (a c d e f g i j)) λa=>Ad (c≠6) (a (decide (c≠5)) b d i c e f g) (a false b d i c e f g))) (a b d i e f g j)):zX6 E Dj [.box a 0] s K:=
 tcF ⟨[5],[],[],E⟩ (zSn (zSn (.cut ⟨[(0,zV),(4,zI6)],[],[],[]⟩ (.block (.loop ⟨[(0,zV),(4,zI6)],[],[],[]⟩ (.block (zSn (.cut ⟨[(0,zV),(4,zI6),(6,zB)],[(5,0,0)],[(0,3)],[(0,0,zI6),(0,1,zS),(0,2,zI6)]⟩ (zSn (.cond (zSn (.cut ⟨[(34,zB),(0,zV),(4,zI6),(6,zB)],[(5,0,0)],[(0,3)],[(0,0,zI6),(0,1,zS),(0,2,zI6)]⟩ .none .none)) .none)) (.cut ⟨[(0,zV),(4,zI6)],[(5,0,0)],[(0,3)],[(0,0,zI6),(0,1,zS),(0,2,zI6)]⟩ .none .none)))))) (zSn (zSn (zSn (.cut ⟨[(7,zI6),(8,zV)],[],[],[]⟩ .none .none))))))) Tryz.call225 Tryz.func225 h
theorem Ke (E:TV->St->Prop) (a:Nat) (b:B8) (s:St) (K:Int->B8->B8->TV->B8->St->Prop) (h:Rx E Bf [.box a 0] s λc d _ e=>Ad (c≠4) (Bx e a 6 (λc=>BG E Ai [.box a 0,ziT c,ziT 3] e λc=>Ha E Aw [.box a 0,ziT 11,ziT (b.length:Int)] c λa b c d e f=>Dk a b c d e (K a b c d e f))) (Ad (d≠b) (Bx e a 6 (λc=>BG E Ai [.box a 0,ziT c,ziT 3] e λc=>Ha E Aw [.box a 0,ziT 11,ziT (b.length:Int)] c λa b c d e f=>Dk a b c d e (K a b c d e f))) (Ha E Aw [.box a 0,ziT 11,ziT (b.length:Int)] e (λa b c d e f=>Dk a b c d e (K a b c d e f))))):Ha E Bp [.box a 0,.str b] s K:=
 tcF ⟨[4,5],[],[],E⟩ .none Tryz.call226 Tryz.func226 h
theorem Ki (E:TV->St->Prop) (a:Nat) (b:Int) (c d:Bool) (e:TV) (f:Int) (g i:Bool) (j:B8) (k l m n o:Int) (p:B8) (q r s:TV) (t:St) (K:Int->St->Prop) (h:need (isSl e) (∃(u:Int->TV->Int->TV->Int->Bool->Bool->TV->Int->Bool->Bool->B8->Int->Int->Int->Int->Int->B8->TV->TV->TV->St->Prop) (v:Int->TV->Int->TV->Int->Bool->Bool->TV->Int->Bool->Bool->B8->Int->Int->Int->Int->Int->B8->TV->TV->TV->St->Nat),u (0:Int) (.box a 0) b e (lenS e:Int) c d e f g i j k l m n o p q r s t/\(∀a b c d e f g i j k l m n o p q r s t w x y,u a b c d e f g i j k l m n o p q r s t w x y->Ad (a<e) (zIz a 1 d (zLs y (ixT 1 d a.toNat) (λz=>Ad (1024<(z.length:Int)) (zP2 b (BG E Ai [AU b 0,ziT c,ziT 10] y (λz=>u (i64.wrap (a+1)) b c d e f g i j k l m n o p q r s t w x z/\v (i64.wrap (a+1)) b c d e f g i j k l m n o p q r s t w x z<v a b c d e f g i j k l m n o p q r s t w x y))) (u (i64.wrap (a+1)) b c d e f g i j k l m n o p q r s t w x y/\v (i64.wrap (a+1)) b c d e f g i j k l m n o p q r s t w x y<v a b c d e f g i j k l m n o p q r s t w x y)))) (Ci y b 10 (λa=>∃(d:TV->TV->Int->Bool->Bool->TV->Int->Bool->Bool->B8->Int->Int->Int->Int->Int->B8->TV->TV->TV->St->Prop),BIf f (Ci y b 9 (λa=>d a b c f g i j k l m n o p q r s t w x y)) (d a b c f g i j k l m n o p q r s t w x y)/\(∀a b c e f g i j k l m n o p q r s t u v,d a b c e f g i j k l m n o p q r s t u v->BG E EK [b,ziT c,a,PE e f g i j k l m n o p q r s t u] v λd=>need (isSl g) ((JU 1 g=true/\0<=i64.wrap ((lenS g:Int)-1)/\i64.wrap ((lenS g:Int)-1)<=(lenS g:Int))/\need (isSl (slT 1 .non g 0 (Int.toNat (i64.wrap ((lenS g:Int)-1))))) (∃(v:TV->Int->TV->Int->TV->Int->Bool->Bool->TV->Int->Bool->Bool->B8->Int->Int->Int->Int->Int->B8->TV->TV->TV->St->Prop) (w:TV->Int->TV->Int->TV->Int->Bool->Bool->TV->Int->Bool->Bool->B8->Int->Int->Int->Int->Int->B8->TV->TV->TV->St->Nat),v a (0:Int) b c (slT 1 .non g 0 (Int.toNat (i64.wrap ((lenS g:Int)-1)))) (lenS (slT 1 .non g 0 (Int.toNat (i64.wrap ((lenS g:Int)-1)))):Int) e f g i j k l m n o p q r s t u d/\(∀a b c d e f g i j k l m n o p q r s t u x y z,v a b c d e f g i j k l m n o p q r s t u x y z->Ad (b<f) (zIz b 1 e (zLs z (ixT 1 e b.toNat) (λA=>Ci z a 0 λC=>AS (DY z C) λ(C:List (B8×TV))=>need (CV (AD .nilPtr (AG A C))) (BIf (Cj (AD .nilPtr (AG A C))) (FN z a 1 (λC=>zX7 E BC [c,ziT d,ziT (i64.wrap (C+1))] z λC D=>need (List.all [C] Av) (Ci (D.push (.cells [C,.nilPtr]) (some 360)) a 0 (λF=>muK F A (.box D.nb 0) (D.push (.cells [C,.nilPtr]) (some 360)) λA=>Dr A D.nb 0 λC=>need (CV C) (BIf (Cj C) (Dr A D.nb 1 (λC=>v C (i64.wrap (b+1)) c d e f g i j k l m n o p q r s t u x y A/\w C (i64.wrap (b+1)) c d e f g i j k l m n o p q r s t u x y A<w a b c d e f g i j k l m n o p q r s t u x y z)) (v C (i64.wrap (b+1)) c d e f g i j k l m n o p q r s t u x y A/\w C (i64.wrap (b+1)) c d e f g i j k l m n o p q r s t u x y A<w a b c d e f g i j k l m n o p q r s t u x y z)))))) (Ci z (AD .nilPtr (AG A C)) 0 (λD=>need (CV D) (BIf (Cj D) (Ci z (AD .nilPtr (AG A C)) 1 (λA=>v A (i64.wrap (b+1)) c d e f g i j k l m n o p q r s t u x y z/\w A (i64.wrap (b+1)) c d e f g i j k l m n o p q r s t u x y z<w a b c d e f g i j k l m n o p q r s t u x y z)) (v D (i64.wrap (b+1)) c d e f g i j k l m n o p q r s t u x y z/\w D (i64.wrap (b+1)) c d e f g i j k l m n o p q r s t u x y z<w a b c d e f g i j k l m n o p q r s t u x y z)))))))) (need (isSl j) (zIz (i64.wrap ((lenS j:Int)-1)) 1 j (zLs z (ixT 1 j (Int.toNat (i64.wrap ((lenS j:Int)-1)))) (λb=>Ci z a 0 λe=>AS (DY z e) λ(e:List (B8×TV))=>BIf i (need (CV (AD .nilPtr (AG b e))) (BIf (Cj (AD .nilPtr (AG b e))) (zP2 c (FN z a 1 (λe=>BG E AZ [AU c 0,ziT d,ziT (i64.wrap (e+1))] z λf=>Af f [] (.t (AU a 1)) 0=some (ziT e)/\Ci (f.push (.cells [.nilPtr,.nilPtr]) (some 360)) a 0 λe=>muK e b (.box f.nb 0) (f.push (.cells [.nilPtr,.nilPtr]) (some 360)) λb=>FN b a 1 λe=>zX7 E BC [c,ziT d,ziT (i64.wrap (e+2))] b λb d=>need (List.all [b] Av) (D9 d f.nb 1 b (λb=>Dr b f.nb 1 λd=>zP2 c (need (List.all [d] Av) (Ry b (AU c 10) d (λb=>FN b a 1 λa=>K (i64.wrap (a+1)) b)))))))) (FN z a 1 (λf=>zX7 E BC [c,ziT d,ziT (i64.wrap (f+2))] z λd f=>zP2 (AD .nilPtr (AG b e)) (need (List.all [d] Av) (Ry f (AU (AD .nilPtr (AG b e)) 1) d (λd=>Ci d (AD .nilPtr (AG b e)) 1 λb=>zP2 c (need (List.all [b] Av) (Ry d (AU c 10) b (λb=>FN b a 1 λa=>K (i64.wrap (a+1)) b)))))))))) (BIf g (need (CV (AD .nilPtr (AG b e))) (BIf (Cj (AD .nilPtr (AG b e))) (FN z a 1 (λe=>zX7 E BC [c,ziT d,ziT (i64.wrap (e+1))] z λd e=>need (List.all [d] Av) (Ci (e.push (.cells [d,.nilPtr]) (some 360)) a 0 (λf=>muK f b (.box e.nb 0) (e.push (.cells [d,.nilPtr]) (some 360)) λb=>Dr b e.nb 0 λd=>NP b d 2 true λb=>Dr b e.nb 0 λd=>zP2 c (need (List.all [d] Av) (Ry b (AU c 10) d (λb=>FN b a 1 λa=>K (i64.wrap (a+1)) b))))))) (Ci z (AD .nilPtr (AG b e)) 0 (λd=>NP z d 2 true λd=>Ci d (AD .nilPtr (AG b e)) 0 λb=>zP2 c (need (List.all [b] Av) (Ry d (AU c 10) b (λb=>FN b a 1 λa=>K (i64.wrap (a+1)) b))))))) (Ci z a 0 (λc=>muK c b (.box z.nb 0) (z.push (.cells [.nilPtr,.nilPtr]) (some 360)) λb=>FN b a 1 λa=>K (i64.wrap (a+1)) b)))))))))))))))):zX4 E Db [.box a 0,ziT b,PE c d e f g i j k l m n o p q r s] t K:=
 tcF ⟨[5],[],[126],E⟩ (zSn (.seq (zSn (.block (.loop ⟨[(18,zI6),(0,zV),(1,zI6),(16,zV),(17,zI6)],[(5,0,0)],[(0,16)],[(0,0,zB),(0,1,zB),(0,2,zV),(0,3,zI6),(0,4,zB),(0,5,zB),(0,6,zS),(0,7,zI6),(0,8,zI6),(0,9,zI6),(0,10,zI6),(0,11,zI6),(0,12,zS),(0,13,zV),(0,14,zV),(0,15,zV)]⟩ .none))) (zSn (.cut ⟨[(9,zV),(0,zV),(1,zI6)],[(5,0,0)],[(0,16)],[(0,0,zB),(0,1,zB),(0,2,zV),(0,3,zI6),(0,4,zB),(0,5,zB),(0,6,zS),(0,7,zI6),(0,8,zI6),(0,9,zI6),(0,10,zI6),(0,11,zI6),(0,12,zS),(0,13,zV),(0,14,zV),(0,15,zV)]⟩ .none (zSn (.seq (zSn (.block (.loop ⟨[(9,zV),(54,zI6),(0,zV),(1,zI6),(52,zV),(53,zI6)],[(5,0,0)],[(0,16)],[(0,0,zB),(0,1,zB),(0,2,zV),(0,3,zI6),(0,4,zB),(0,5,zB),(0,6,zS),(0,7,zI6),(0,8,zI6),(0,9,zI6),(0,10,zI6),(0,11,zI6),(0,12,zS),(0,13,zV),(0,14,zV),(0,15,zV)]⟩ .none))) .none)))))) Tryz.call227 Tryz.func227 h
theorem Mg (a:Nat) (b:Int) (c d:B8) (e:TV) (f:B8) (s:St) (K:St->Prop) (h:Dr s a 12 λg=>need (isSl g) (Ad (b=5) (Ad (0<=i64.wrap ((lenS g:Int)-1)) (Dr s a 12 (λi=>zIz (i64.wrap ((lenS g:Int)-1)) 5 i (need (isPtr (ixT 5 i (Int.toNat (i64.wrap ((lenS g:Int)-1))))) (zLi s (AU (ixT 5 i (Int.toNat (i64.wrap ((lenS g:Int)-1)))) 0) (λi=>Ad (i=7) ((Dr s a 12 λa=>zIz (i64.wrap ((lenS g:Int)-1)) 5 a (need (isPtr (ixT 5 a (Int.toNat (i64.wrap ((lenS g:Int)-1))))) (zLt s (AU (ixT 5 a (Int.toNat (i64.wrap ((lenS g:Int)-1)))) 3) (λi=>need (isSl i) (Jb 43 5 80 i 1 [ziT 0,.str [],.str [],.nilSlice,.str []] s (λ(j:TV) k=>zIz (i64.wrap ((lenS g:Int)-1)) 5 a (need (isPtr (ixT 5 a (Int.toNat (i64.wrap ((lenS g:Int)-1))))) (need (List.all [j] Av) (Ry k (AU (ixT 5 a (Int.toNat (i64.wrap ((lenS g:Int)-1)))) 3) j (λa=>zIz (lenS i:Int) 5 j (Dk b c d e f (stB a (ixT 5 j (Int.toNat (lenS i:Int))) [ziT b,.str c,.str d,e,.str f] K))))))))))))/\Dr s a 12 λi=>Dr s a 12 λj=>zIz (i64.wrap ((lenS g:Int)-1)) 5 j (need (isPtr (ixT 5 j (Int.toNat (i64.wrap ((lenS g:Int)-1))))) (zLt s (AU (ixT 5 j (Int.toNat (i64.wrap ((lenS g:Int)-1)))) 3) (λk=>Dk b c d e f (Jb 43 5 80 k 1 [ziT b,.str c,.str d,e,.str f] s (λ(b:TV) c=>Af c [] (.t (.box a 12)) 0=some j/\Af c [] (.t (.box a 12)) 0=some i/\zIz (i64.wrap ((lenS g:Int)-1)) 5 i (need (isPtr (ixT 5 i (Int.toNat (i64.wrap ((lenS g:Int)-1))))) (need (List.all [b] Av) (Ry c (AU (ixT 5 i (Int.toNat (i64.wrap ((lenS g:Int)-1)))) 3) b K))))))))) (Dr s a 12 (λg=>need (isSl g) (Jb 43 5 80 g 1 [ziT 0,.str [],.str [],.nilSlice,.str []] s (λ(i:TV) j=>zIz (lenS g:Int) 5 i (Dk b c d e f (stB j (ixT 5 i (Int.toNat (lenS g:Int))) [ziT b,.str c,.str d,e,.str f] (λb=>need (List.all [i] Av) (D9 b a 12 i K)))/\need (List.all [i] Av) (D9 j a 12 i (λa=>Dk b c d e f (stB a (ixT 5 i (Int.toNat (lenS g:Int))) [ziT b,.str c,.str d,e,.str f] K))))))))))))) (Dr s a 12 (λg=>need (isSl g) (Jb 43 5 80 g 1 [ziT 0,.str [],.str [],.nilSlice,.str []] s (λ(i:TV) j=>zIz (lenS g:Int) 5 i (Dk b c d e f (stB j (ixT 5 i (Int.toNat (lenS g:Int))) [ziT b,.str c,.str d,e,.str f] (λb=>need (List.all [i] Av) (D9 b a 12 i K)))/\need (List.all [i] Av) (D9 j a 12 i (λa=>Dk b c d e f (stB a (ixT 5 i (Int.toNat (lenS g:Int))) [ziT b,.str c,.str d,e,.str f] K))))))))) (Dr s a 12 (λg=>need (isSl g) (Jb 43 5 80 g 1 [ziT 0,.str [],.str [],.nilSlice,.str []] s (λ(i:TV) j=>zIz (lenS g:Int) 5 i (Dk b c d e f (stB j (ixT 5 i (Int.toNat (lenS g:Int))) [ziT b,.str c,.str d,e,.str f] (λb=>need (List.all [i] Av) (D9 b a 12 i K)))/\need (List.all [i] Av) (D9 j a 12 i (λa=>Dk b c d e f (stB a (ixT 5 i (Int.toNat (lenS g:Int))) [ziT b,.str c,.str d,e,.str f] K)))))))))):EN DC [.box a 0,zga2 b c d e f] s K:=
 tcF ⟨[3,29],[42,61,71],[49,54,58,61],NoE⟩ .none Tryz.call228 Tryz.func228 h
theorem LA (a:Nat) (b c:Int) (s:St) (K:Int->B8->B8->TV->B8->St->Prop) (h:Kc s a 0 λd=>Bx s a 6 λe=>Bx s a 6 λf=>zSc e (i64.wrap (f+c)) d (PG Di [.box a 0] s (λg i=>Af i [] (.t (.box a 6)) 0=some (ziT f)/\Af i [] (.t (.box a 6)) 0=some (ziT e)/\Af i [] (.t (.box a 0)) 0=some (.str d)/\Bx i a 6 λj=>Gw i a 6 (i64.wrap (j+c)) λi=>Bx i a 6 λj=>Gw i a 7 j λa=>K b g (List.drop e.toNat (List.take (Int.toNat (i64.wrap (f+c))) d)) .nilSlice [] a))):zC32 Aw [.box a 0,ziT b,ziT c] s K:=
 tcF ⟨[6,7],[],[14,18,22],NoE⟩ .none Tryz.call229 Tryz.func229 h
theorem Kd (E:TV->St->Prop) (a:Nat) (b:Int) (s:St) (K:Int->B8->B8->TV->B8->Int->Bool->Bool->B8->Int->Int->Int->Int->Int->B8->TV->TV->TV->St->Prop) (h:Rx E Bf [.box a 0] s λc d _ e=>Ad (c=6) (zX5 E DA [.str d] e (λc e f g i j k l m n o p q r s=>CN c e f g i j k l m n o p q (Ad (r=3) (Bx s a 6 (λt=>BG E Ai [.box a 0,ziT t,ziT r] s λs=>Bx s a 6 λt=>BG E AZ [.box a 0,ziT t,ziT b] s λb=>Ad (r≠0) (Bx b a 6 (λs=>BG E Ai [.box a 0,ziT s,ziT r] b λb=>Ha E Aw [.box a 0,ziT 2,ziT (d.length:Int)] b λa b d r s t=>Dk a b d r s (CN c e f g i j k l m n o p q (K a b d r s c e f g i j k l m n o p q t)))) (Ha E Aw [.box a 0,ziT 2,ziT (d.length:Int)] b (λa b d r s t=>Dk a b d r s (CN c e f g i j k l m n o p q (K a b d r s c e f g i j k l m n o p q t)))))) (Bx s a 6 (λt=>BG E AZ [.box a 0,ziT t,ziT b] s λb=>Ad (r≠0) (Bx b a 6 (λs=>BG E Ai [.box a 0,ziT s,ziT r] b λb=>Ha E Aw [.box a 0,ziT 2,ziT (d.length:Int)] b λa b d r s t=>Dk a b d r s (CN c e f g i j k l m n o p q (K a b d r s c e f g i j k l m n o p q t)))) (Ha E Aw [.box a 0,ziT 2,ziT (d.length:Int)] b (λa b d r s t=>Dk a b d r s (CN c e f g i j k l m n o p q (K a b d r s c e f g i j k l m n o p q t))))))))) (Ad (c=5) (zX5 E DA [.str d] e (λc e f g i j k l m n o p q r s=>CN c e f g i j k l m n o p q (Ad (r=3) (Bx s a 6 (λt=>BG E Ai [.box a 0,ziT t,ziT r] s λs=>Bx s a 6 λt=>BG E AZ [.box a 0,ziT t,ziT b] s λb=>Ad (r≠0) (Bx b a 6 (λs=>BG E Ai [.box a 0,ziT s,ziT r] b λb=>Ha E Aw [.box a 0,ziT 2,ziT (d.length:Int)] b λa b d r s t=>Dk a b d r s (CN c e f g i j k l m n o p q (K a b d r s c e f g i j k l m n o p q t)))) (Ha E Aw [.box a 0,ziT 2,ziT (d.length:Int)] b (λa b d r s t=>Dk a b d r s (CN c e f g i j k l m n o p q (K a b d r s c e f g i j k l m n o p q t)))))) (Bx s a 6 (λt=>BG E AZ [.box a 0,ziT t,ziT b] s λb=>Ad (r≠0) (Bx b a 6 (λs=>BG E Ai [.box a 0,ziT s,ziT r] b λb=>Ha E Aw [.box a 0,ziT 2,ziT (d.length:Int)] b λa b d r s t=>Dk a b d r s (CN c e f g i j k l m n o p q (K a b d r s c e f g i j k l m n o p q t)))) (Ha E Aw [.box a 0,ziT 2,ziT (d.length:Int)] b (λa b d r s t=>Dk a b d r s (CN c e f g i j k l m n o p q (K a b d r s c e f g i j k l m n o p q t))))))))) (Ad (d=str7) (Bx e a 6 (λc=>BG E AZ [.box a 0,ziT c,ziT b] e λc=>UD E Ek [.box a 0,ziT b] c λa b c d e f g i j k l m n o p q r s t=>Dk a b c d e (CN f g i j k l m n o p q r s (K a b c d e f g i j k l m n o p q r s t)))) (Ad (d=str20) (Bx e a 6 (λc=>BG E AZ [.box a 0,ziT c,ziT b] e λc=>UD E DQ [.box a 0,ziT b] c λa b c d e f g i j k l m n o p q r s t=>Dk a b c d e (CN f g i j k l m n o p q r s (K a b c d e f g i j k l m n o p q r s t)))) (Bx e a 6 (λb=>BG E Ai [.box a 0,ziT b,ziT 3] e λa=>K 0 [] [] .nilSlice [] 0 false false [] 0 0 0 0 0 [] .nilSlice .nilSlice .nilSlice a)))))):UD E BI [.box a 0,ziT b] s K:=
 tcF ⟨[4,5,6,7],[],[],E⟩ .none Tryz.call230 Tryz.func230 h
theorem Il (a:Nat) (b:Int) (s:St) (K:TV->St->Prop) (h:need (List.all [.map s.nb] Av) (Dr ((s.push (.map []) none).push (.cells [.nilSlice,.map s.nb,ziT b]) (some 210)) a 2 (λc=>puK c (.box (s.push (.map []) none).nb 0) (.bool true) ((s.push (.map []) none).push (.cells [.nilSlice,.map s.nb,ziT b]) (some 210)) λb=>Bx b a 3 λc=>Gw b a 3 (i64.wrap (c+1)) λa=>K (.box (s.push (.map []) none).nb 0) a))):zC7 AJ [.box a 0,ziT b] s K:=
 tcF ⟨[],[],[],NoE⟩ .none Tryz.call231 Tryz.func231 h
theorem MW (a b:Bool) (c:TV) (d:Int) (e f:Bool) (g:B8) (i j k l m:Int) (n:B8) (o p q:TV) (s:St) (K:Bool->St->Prop) (h:need (isSl c) (Ad (0<(lenS c:Int)) (BIf a (BIf (!a) (K true s) (zC0 DH [By d e f g i j k l m n o p q] s K)) (BIf (!b) (BIf (!a) (K true s) (zC0 DH [By d e f g i j k l m n o p q] s K)) (K false s))) (K false s))):zC0 D0 [PE a b c d e f g i j k l m n o p q] s K:=
 tcF ⟨[1],[],[],NoE⟩ .none Tryz.call232 Tryz.func232 h
end Go.TVF
end
section
set_option maxRecDepth 100000
namespace Go.TVF
open Go.IntKind(i64 u8)
open Go Go.Proofs
open Go.IntKind (i64 u8)
theorem Im (a b:Nat) (c d:Bool) (e:TV) (f:Int) (g i:Bool) (j:B8) (k l m n o:Int) (p:B8) (q r s:TV) (t:St) (K:TV->Bool->St->Prop) (h:need (isSl e) ((JU 1 e=true/\0<=i64.wrap ((lenS e:Int)-1)/\i64.wrap ((lenS e:Int)-1)<=(lenS e:Int))/\need (isSl (slT 1 .non e 0 (Int.toNat (i64.wrap ((lenS e:Int)-1))))) (∃(u:TV->Int->TV->TV->Int->Bool->Bool->TV->Int->Bool->Bool->B8->Int->Int->Int->Int->Int->B8->TV->TV->TV->St->Prop) (v:TV->Int->TV->TV->Int->Bool->Bool->TV->Int->Bool->Bool->B8->Int->Int->Int->Int->Int->B8->TV->TV->TV->St->Nat),u (.box b 0) (0:Int) (.box a 0) (slT 1 .non e 0 (Int.toNat (i64.wrap ((lenS e:Int)-1)))) (lenS (slT 1 .non e 0 (Int.toNat (i64.wrap ((lenS e:Int)-1)))):Int) c d e f g i j k l m n o p q r s t/\(∀a b c d e f g i j k l m n o p q r s t w x y,u a b c d e f g i j k l m n o p q r s t w x y->Ad (b<e) (zIz b 1 d (zLs y (ixT 1 d b.toNat) (λz=>Ci y a 1 λA=>AS (DY y A) λ(A:List (B8×TV))=>need (CV (AD .nilPtr (AG z A))) (BIf (Cj (AD .nilPtr (AG z A))) (FN y a 2 (λA=>zC7 AJ [c,ziT (i64.wrap (A+1))] y λA C=>need (List.all [A] Av) (EN Bh [a,.str z,.box C.nb 0] (C.push (.cells [A,.nilSlice,ziT 0,.bool false,.bool false,.str [],ziT 0,ziT 0,ziT 0,ziT 0,ziT 0,.str [],.nilSlice,.nilSlice,.nilSlice,ziT 0]) (some 213)) (λz=>u A (i64.wrap (b+1)) c d e f g i j k l m n o p q r s t w x z/\v A (i64.wrap (b+1)) c d e f g i j k l m n o p q r s t w x z<v a b c d e f g i j k l m n o p q r s t w x y)))) (Ci y (AD .nilPtr (AG z A)) 0 (λC=>need (CV C) (BIf (!(Cj C)) (Ci y (AD .nilPtr (AG z A)) 0 (λz=>u z (i64.wrap (b+1)) c d e f g i j k l m n o p q r s t w x y/\v z (i64.wrap (b+1)) c d e f g i j k l m n o p q r s t w x y<v a b c d e f g i j k l m n o p q r s t w x y)) (Ci y (AD .nilPtr (AG z A)) 1 (λC=>need (isSl C) (Ad (0<(lenS C:Int)) (BIf f (Ci y (AD .nilPtr (AG z A)) 1 (λC=>Ci y (AD .nilPtr (AG z A)) 1 λz=>need (isSl z) (zIz (i64.wrap ((lenS z:Int)-1)) 1 C (zLt y (ixT 1 C (Int.toNat (i64.wrap ((lenS z:Int)-1)))) (λz=>u z (i64.wrap (b+1)) c d e f g i j k l m n o p q r s t w x y/\v z (i64.wrap (b+1)) c d e f g i j k l m n o p q r s t w x y<v a b c d e f g i j k l m n o p q r s t w x y))))) (K .nilPtr false y)) (K .nilPtr false y))))))))))) (K a true y))))):zC24 Dd [.box a 0,.box b 0,PE c d e f g i j k l m n o p q r s] t K:=
 tcF ⟨[5],[],[],NoE⟩ (zSn (.seq (zSn (.block (.loop ⟨[(1,zV),(20,zI6),(0,zV),(18,zV),(19,zI6)],[(5,0,0)],[(0,16)],[(0,0,zB),(0,1,zB),(0,2,zV),(0,3,zI6),(0,4,zB),(0,5,zB),(0,6,zS),(0,7,zI6),(0,8,zI6),(0,9,zI6),(0,10,zI6),(0,11,zI6),(0,12,zS),(0,13,zV),(0,14,zV),(0,15,zV)]⟩ .none))) .none)) Tryz.call233 Tryz.func233 h
theorem Hf (a b:Nat) (c:B8) (s:St) (K:Int->St->Prop) (h:Dr s b 1 λd=>AS (DY s d) λ(d:List (B8×TV))=>need (CV (AD .nilPtr (AG c d))) (BIf (Cj (AD .nilPtr (AG c d))) (EN Bh [.box b 0,.str c,.box s.nb 0] (s.push (.cells [.nilPtr,.nilSlice,ziT 0,.bool false,.bool false,.str [],ziT 0,ziT 0,ziT 0,ziT 0,ziT 0,.str [],.nilSlice,.nilSlice,.nilSlice,ziT 0]) (some 213)) (λc=>Bx c a 3 λd=>Gw c a 3 (i64.wrap (d+1)) λc=>Bx c b 2 λb=>zC7 AJ [.box a 0,ziT (i64.wrap (b+2))] c λb c=>need (List.all [b] Av) (D9 c a 1 b (λb=>Dr b s.nb 1 λc=>Dr b a 1 λa=>need (List.all [a] Av) (need (List.all [a] Av) (Bn 176 1 8 c 1 [a] b (λ(a:TV) b=>need (List.all [a] Av) (D9 b s.nb 1 a (λa=>K 0 a))))))))) (Ci s (AD .nilPtr (AG c d)) 1 (λe=>need (isSl e) (Ad ((lenS e:Int)=0) (K 6 s) (Bx s b 2 (λb=>zC7 AJ [.box a 0,ziT (i64.wrap (b+2))] s λb e=>need (List.all [b] Av) (D9 e a 1 b (λb=>Ci b (AD .nilPtr (AG c d)) 1 λe=>Dr b a 1 λa=>need (List.all [a] Av) (need (List.all [a] Av) (Bn 176 1 8 e 1 [a] b (λ(a:TV) b=>zP2 (AD .nilPtr (AG c d)) (need (List.all [a] Av) (Ry b (AU (AD .nilPtr (AG c d)) 1) a (λa=>K 0 a))))))))))))))):zC4 CR [.box a 0,.box b 0,.str c] s K:=
 tcF ⟨[],[],[],NoE⟩ .none Tryz.call234 Tryz.func234 h
theorem HI (a b:Nat) (c:B8) (s:St) (K:Int->St->Prop) (h:Dr s b 1 λd=>AS (DY s d) λ(d:List (B8×TV))=>need (CV (AD .nilPtr (AG c d))) (BIf (Cj (AD .nilPtr (AG c d))) (Bx s b 2 (λd=>zC7 AJ [.box a 0,ziT (i64.wrap (d+1))] s λd e=>need (List.all [d] Av) (EN Bh [.box b 0,.str c,.box e.nb 0] (e.push (.cells [d,.nilSlice,ziT 0,.bool false,.bool false,.str [],ziT 0,ziT 0,ziT 0,ziT 0,ziT 0,.str [],.nilSlice,.nilSlice,.nilSlice,ziT 0]) (some 213)) (λb=>Dr b e.nb 0 λc=>need (CV c) (BIf (Cj c) (K 8 b) (Dr b a 2 (λc=>Dr b e.nb 0 λd=>AS (plook b c d false (.bool false)) λ(c:TV)=>CG .bool c λ(c:Bool)=>BIf (!c) (K 8 b) (Dr b a 2 (λc=>Dr b e.nb 0 λd=>pdK c d b λb=>Dr b e.nb 0 λc=>need (List.all [c] Av) (D9 b a 1 c (λa=>K 0 a))))))))))) (Ci s (AD .nilPtr (AG c d)) 0 (λb=>need (CV b) (BIf (Cj b) (K 8 s) (Dr s a 2 (λb=>Ci s (AD .nilPtr (AG c d)) 0 λe=>AS (plook s b e false (.bool false)) λ(b:TV)=>CG .bool b λ(b:Bool)=>BIf (!b) (K 8 s) (Dr s a 2 (λb=>Ci s (AD .nilPtr (AG c d)) 0 λe=>pdK b e s λb=>Ci b (AD .nilPtr (AG c d)) 0 λc=>need (List.all [c] Av) (D9 b a 1 c (λa=>K 0 a))))))))))):zC4 CW [.box a 0,.box b 0,.str c] s K:=
 tcF ⟨[],[],[],NoE⟩ .none Tryz.call235 Tryz.func235 h
theorem Kl (a:Nat) (b:B8) (c:Nat) (s:St) (K:St->Prop) (h:Dr s a 0 λd=>Bn 9 1 16 d 1 [.str b] s λ(d:TV) e=>need (List.all [d] Av) (D9 e a 0 d (λd=>Dr d a 1 λa=>muK a b (.box c 0) d K))):EN Bh [.box a 0,.str b,.box c 0] s K:=
 tcF ⟨[],[],[],NoE⟩ .none Tryz.call236 Tryz.func236 h
theorem D3 (a b:TV) (s:St) (K:Bool->St->Prop) (h:zC4 CE [a,b] s λa b=>K (decide (0<=a)) b):zC0 AF [a,b] s K:=
 tcF ⟨[],[],[],NoE⟩ .none Tryz.call237 Tryz.func237 h
theorem PP (a:B8) (s:St) (K:Bool->St->Prop) (h:zC0 GP [.str a] s λb c=>BIf (!b) (K true c) (K (decide (1024<(a.length:Int))) c)):zC0 Ca [.str a] s K:=
 tcF ⟨[],[],[],NoE⟩ .none Tryz.call238 Tryz.func238 h
theorem Gy (a:TV) (s:St) (K:TV->St->Prop) (h:need (isSl a) (BIf (Cj a) (K .nilSlice s) (AS (DW s 1 a) (λ(a:Nat×List TV)=>need (List.all a.2 Av) (Jb 5 1 1 (.list 1 .full 0 []) a.1 a.2 s K))))):zC7 CC [a] s K:=
 tcF ⟨[],[7],[],NoE⟩ .none Tryz.call239 Tryz.func239 h
end Go.TVF
end
section
set_option maxRecDepth 100000
namespace Go.TVF
open Go.IntKind(i64 u8)
open Go Go.Proofs
open Go.IntKind (i64 u8)
theorem RL (a:B8) (b:Int) (s:St) (K:Int->Int->St->Prop) (h:Ad (b<0) (K 0 0 s) (Ad ((a.length:Int)<=b) (K 0 0 s) (zIx b a (Jd KO [.int .u8 ((List.getD a b.toNat 0).toNat:Int)] s (λc d e=>Ad (c=0) (K 0 0 e) (Ad (i64.wrap ((a.length:Int)-b)<c) (K 0 0 e) (WR d (1:Int) a b c e (λa b c d e f g=>Ad (c<f) (zIx (i64.wrap (e+c)) d (Ad (AI .and .u8 ((List.getD d (Int.toNat (i64.wrap (e+c))) 0).toNat:Int) (192:Int)≠128) (K 0 0 g) (a (AI .or .i64 (i64.wrap (b*2^min (Int.toNat (6:Int)) (IntKind.bits .i64))) (i64.wrap (AI .and .u8 ((List.getD d (Int.toNat (i64.wrap (e+c))) 0).toNat:Int) (63:Int)))) (i64.wrap (c+1)) d e f g))) (zC0 Ix [ziT b] g (λa c=>BIf (!a) (K 0 0 c) (zC4 JC [ziT b] c (λa c=>Ad (a≠f) (K 0 0 c) (K b f c))))))))))))):Jd Iy [.str a,ziT b] s K:=
 tcF ⟨[],[],[],NoE⟩ (zSn (zSn (zSn (zSn (.seq (zSn (.block (.loop ⟨[(4,zI6),(7,zI6),(0,zS),(1,zI6),(6,zI6)],[],[],[]⟩ .none))) .none))))) Tryz.call264 Tryz.func264 h
theorem Mc (a:B8) (b:Int) (s:St) (K:Int->Int->Int->St->Prop) (h:Jd C0 [.str a,ziT b] s λc d e=>Ad (d≠0) (K 0 0 d e) (Ad (56320<=c) (Ad (c<=57343) (K 0 0 5 e) (Ad (c<55296) (K (IntKind.i32.wrap c) (i64.wrap (b+4)) 0 e) (Ad (57343<c) (K (IntKind.i32.wrap c) (i64.wrap (b+4)) 0 e) (zLp6 (0:Int) a b c (TV.list 1 .full 2 [.int .u8 (92:Int),.int .u8 (117:Int)]) (lenS (.list 1 .full 2 [.int .u8 (92:Int),.int .u8 (117:Int)]):Int) e (λa b c d e f g i=>Ad (b<g) (zIz b 1 f (zLu i (ixT 1 f b.toNat) (λj=>Ad ((c.length:Int)<=i64.wrap (i64.wrap (d+4)+b)) (K 0 0 4 i) (zIx (i64.wrap (i64.wrap (d+4)+b)) c (Ad (((List.getD c (Int.toNat (i64.wrap (i64.wrap (d+4)+b))) 0).toNat:Int)≠j) (K 0 0 5 i) (a (i64.wrap (b+1)) c d e f g i)))))) (Jd C0 [.str c,ziT (i64.wrap (d+6))] i (λa b c=>Ad (b≠0) (K 0 0 b c) (Ad (a<56320) (K 0 0 5 c) (Ad (57343<a) (K 0 0 5 c) (K (IntKind.i32.wrap (i64.wrap (i64.wrap (i64.wrap (65536+i64.wrap (i64.wrap (e-55296)*2^min (Int.toNat (10:Int)) (IntKind.bits .i64)))+a)-56320))) (i64.wrap (d+10)) 0 c)))))))))) (Ad (c<55296) (K (IntKind.i32.wrap c) (i64.wrap (b+4)) 0 e) (Ad (57343<c) (K (IntKind.i32.wrap c) (i64.wrap (b+4)) 0 e) (zLp6 (0:Int) a b c (TV.list 1 .full 2 [.int .u8 (92:Int),.int .u8 (117:Int)]) (lenS (.list 1 .full 2 [.int .u8 (92:Int),.int .u8 (117:Int)]):Int) e (λa b c d e f g i=>Ad (b<g) (zIz b 1 f (zLu i (ixT 1 f b.toNat) (λj=>Ad ((c.length:Int)<=i64.wrap (i64.wrap (d+4)+b)) (K 0 0 4 i) (zIx (i64.wrap (i64.wrap (d+4)+b)) c (Ad (((List.getD c (Int.toNat (i64.wrap (i64.wrap (d+4)+b))) 0).toNat:Int)≠j) (K 0 0 5 i) (a (i64.wrap (b+1)) c d e f g i)))))) (Jd C0 [.str c,ziT (i64.wrap (d+6))] i (λa b c=>Ad (b≠0) (K 0 0 b c) (Ad (a<56320) (K 0 0 5 c) (Ad (57343<a) (K 0 0 5 c) (K (IntKind.i32.wrap (i64.wrap (i64.wrap (i64.wrap (65536+i64.wrap (i64.wrap (e-55296)*2^min (Int.toNat (10:Int)) (IntKind.bits .i64)))+a)-56320))) (i64.wrap (d+10)) 0 c))))))))))):zC44 Dz [.str a,ziT b] s K:=
 tcF ⟨[],[],[],NoE⟩ (zSn (zSn (zSn (zSn (zSn (.seq (zSn (.block (.loop ⟨[(39,zI6),(0,zS),(1,zI6),(7,zI6),(37,zV),(38,zI6)],[],[],[]⟩ .none))) .none)))))) Tryz.call266 Tryz.func266 h
theorem Ma (a:TV) (b:Int) (s:St) (K:TV->St->Prop) (h:Ad (IntKind.u32.wrap b<=127) (Bn 5 1 1 a 1 [.int .u8 (u8.wrap b)] s K) (zC7 Ei [a,.int .i32 b] s K)):zC7 Dy [a,.int .i32 b] s K:=
 tcF ⟨[],[],[],NoE⟩ .none Tryz.call267 Tryz.func267 h
theorem J0 (a:Int) (s:St) (K:Bool->St->Prop) (h:Ad (97<=a) (Ad (a<=122) (K true s) (Ad (65<=a) (Ad (a<=90) (K true s) (Ad (48<=a) (Ad (a<=57) (K true s) (Ad (a=95) (K true s) (K (decide (a=45)) s))) (Ad (a=95) (K true s) (K (decide (a=45)) s)))) (Ad (48<=a) (Ad (a<=57) (K true s) (Ad (a=95) (K true s) (K (decide (a=45)) s))) (Ad (a=95) (K true s) (K (decide (a=45)) s))))) (Ad (65<=a) (Ad (a<=90) (K true s) (Ad (48<=a) (Ad (a<=57) (K true s) (Ad (a=95) (K true s) (K (decide (a=45)) s))) (Ad (a=95) (K true s) (K (decide (a=45)) s)))) (Ad (48<=a) (Ad (a<=57) (K true s) (Ad (a=95) (K true s) (K (decide (a=45)) s))) (Ad (a=95) (K true s) (K (decide (a=45)) s))))):zC0 Bj [.int .u8 a] s K:=
 tcF ⟨[],[],[],NoE⟩ .none Tryz.call271 Tryz.func271 h
theorem JZ (a:Int) (b:TV) (s:St) (K:Bool->St->Prop) (h:zLt s b λb=>Ja NoE PR b [.int .u8 a] [.one .bool] s λ(b:Bool) c=>BIf b (K true c) (Ad (a=43) (K true c) (Ad (a=46) (K true c) (K (decide (a=58)) c)))):zC0 DP [.int .u8 a,b] s K:=
 tcF ⟨[],[],[],NoE⟩ .none Tryz.call272 Tryz.func272 h
theorem Ij (a b:B8) (s:St) (K:Bool->St->Prop) (h:Ad ((b.length:Int)<=(a.length:Int)) (zSd (b.length:Int) a (K (decide (List.take (Int.toNat (b.length:Int)) a=b)) s)) (K false s)):zC0 ES [.str a,.str b] s K:=
 tcF ⟨[],[],[],NoE⟩ .none Tryz.call277 Tryz.func277 h
end Go.TVF
end
section
set_option maxRecDepth 100000
namespace Go.TVF
open Go.IntKind(i64 u8)
open Go Go.Proofs
open Go.IntKind (i64 u8)
theorem RN (a:B8) (s:St) (K:Bool->St->Prop) (h:UE (0:Int) a (a.length:Int) s λa b c d e=>Ad (b<d) (zIx b c (Ad (((List.getD c b.toNat 0).toNat:Int)<48) (K false e) (zIx b c (Ad (57<((List.getD c b.toNat 0).toNat:Int)) (K false e) (a (i64.wrap (b+1)) c d e))))) (K true e)):zC0 Iz [.str a] s K:=
 tcF ⟨[],[],[],NoE⟩ (zSn (.seq (zSn (.block (.loop ⟨[(6,zI6),(0,zS),(5,zI6)],[],[],[]⟩ .none))) .none)) Tryz.call294 Tryz.func294 h
theorem O8 (a:B8) (b:Int) (s:St) (K:Int->Int->Int->St->Prop) (h:zC11 CD [] s λ_ c d=>zIx b a (Ad (((List.getD a b.toNat 0).toNat:Int)=32) (zC4 CA [.str a,ziT b,.func DZ []] d (λa b=>K 1 a 0 b)) (Ad (((List.getD a b.toNat 0).toNat:Int)=9) (zC4 CA [.str a,ziT b,.func DZ []] d (λa b=>K 1 a 0 b)) (Ad (((List.getD a b.toNat 0).toNat:Int)=10) (Jd Ew [.str a,ziT b] d (λa b c=>K 2 a b c)) (Ad (((List.getD a b.toNat 0).toNat:Int)=13) (Jd Ew [.str a,ziT b] d (λa b c=>K 2 a b c)) (Ad (((List.getD a b.toNat 0).toNat:Int)=35) (Jd EJ [.str a,ziT b] d (λa b c=>K 3 a b c)) (zC4 BK [.str str51,.int .u8 ((List.getD a b.toNat 0).toNat:Int)] d (λd e=>Ad (0<=d) (K 4 (i64.wrap (b+1)) 0 e) (Ad (((List.getD a b.toNat 0).toNat:Int)=34) (zC36 Cp [.str a,ziT b] e (λ_ a b c=>K 5 a b c)) (Ad (((List.getD a b.toNat 0).toNat:Int)=39) (zC36 Cp [.str a,ziT b] e (λ_ a b c=>K 5 a b c)) (Ja NoE PR c [.int .u8 ((List.getD a b.toNat 0).toNat:Int)] [.one .bool] e (λ(c:Bool) d=>BIf c (zC4 Fz [.str a,ziT b] d (λa b=>K 6 a 0 b)) (K 0 0 3 d))))))))))))):zC34 GB [.str a,ziT b] s K:=
 tcF ⟨[],[],[],NoE⟩ .none Tryz.call296 Tryz.func296 h
theorem Pa (a:B8) (s:St) (K:TV->Bool->St->Prop) (h:UE TV.nilSlice (0:Int) a s λa b c d e=>zJn3 (λ(b:TV) (c:Int) (d:B8) e=>a b (i64.wrap (c+1)) d e) λa=>zJn3 (λ(b:TV) (c:Int) (d:B8) e=>Ad (c=(d.length:Int)) (K b true e) (zIx c d (Ad (((List.getD d c.toNat 0).toNat:Int)≠46) (K .nilSlice false e) (a b c d e)))) λa=>zJn5 (λ(b:Bool) (c:B8) (d:TV) (e f:Int) g=>BIf b (zC26 Ex [.str c,ziT e] g (λ_ b _ _ f=>zC8 Cg [.str b] f λf g i=>Ad (g≠0) (K .nilSlice false i) (Bn 9 1 16 d 1 [.str f] i (λ(d:TV) f=>a d (i64.wrap (e+(b.length:Int))) c f)))) (zJn4 (λ(b:Int) (c:B8) (d:TV) (e:Int) f=>Ad (b=e) (K .nilSlice false f) (zSc e b c (Bn 9 1 16 d 1 [.str (List.drop e.toNat (List.take b.toNat c))] f (λ(d:TV) e=>a d b c e)))) (λa=>MO e c d f g λb c d e f g=>zJn4 (λ(a:B8) (c:TV) (d e:Int) f=>b (i64.wrap (d+1)) a c e f) λb=>Ad (c<(d.length:Int)) (zSc c (i64.wrap (c+1)) d (zC0 Ey [.str (List.drop c.toNat (List.take (Int.toNat (i64.wrap (c+1))) d))] g (λg i=>BIf g (b d e c f i) (a c d e f i)))) (a c d e f g)))) λa=>Ad (c<(d.length:Int)) (zIx c d (Ad (((List.getD d c.toNat 0).toNat:Int)=34) (a true d b c c e) (zIx c d (a (decide (((List.getD d c.toNat 0).toNat:Int)=39)) d b c c e)))) (a false d b c c e)):zC24 EX [.str a] s K:=
 tcF ⟨[7],[],[],NoE⟩ (zSn (zSn (zSn (.block (.loop ⟨[(4,zV),(5,zI6),(0,zS)],[],[],[]⟩ (.cut ⟨[(4,zV),(5,zI6),(0,zS)],[],[],[]⟩ (.block (zSn (.cut ⟨[(4,zV),(5,zI6),(0,zS)],[],[],[]⟩ (.cut ⟨[(29,zB),(0,zS),(4,zV),(5,zI6),(6,zI6)],[],[],[]⟩ .none (.cond .none (.cut ⟨[(5,zI6),(0,zS),(4,zV),(6,zI6)],[],[],[]⟩ (.block (.loop ⟨[(5,zI6),(0,zS),(4,zV),(6,zI6)],[],[],[]⟩ (.cut ⟨[(0,zS),(4,zV),(5,zI6),(6,zI6)],[],[],[]⟩ .none .none))) .none))) .none))) .none)))))) Tryz.call297 Tryz.func297 h
theorem LI (E:TV->St->Prop) (a:Nat) (b:Int) (c:Nat) (d e:Bool) (f:TV) (g:Int) (i j:Bool) (k:B8) (l m n o p:Int) (q:B8) (r s t:TV) (u:St) (K:St->Prop) (h:need (isSl f) ((JU 1 f=true/\0<=i64.wrap ((lenS f:Int)-1)/\i64.wrap ((lenS f:Int)-1)<=(lenS f:Int))/\need (isSl (slT 1 .non f 0 (Int.toNat (i64.wrap ((lenS f:Int)-1))))) (∃(v:TV->Int->TV->Int->TV->Int->Bool->Bool->TV->Int->Bool->Bool->B8->Int->Int->Int->Int->Int->B8->TV->TV->TV->St->Prop) (w:TV->Int->TV->Int->TV->Int->Bool->Bool->TV->Int->Bool->Bool->B8->Int->Int->Int->Int->Int->B8->TV->TV->TV->St->Nat),v (.box c 0) (0:Int) (.box a 0) b (slT 1 .non f 0 (Int.toNat (i64.wrap ((lenS f:Int)-1)))) (lenS (slT 1 .non f 0 (Int.toNat (i64.wrap ((lenS f:Int)-1)))):Int) d e f g i j k l m n o p q r s t u/\(∀a b c d e f g i j k l m n o p q r s t u x y z,v a b c d e f g i j k l m n o p q r s t u x y z->Ad (b<f) (zIz b 1 e (zLs z (ixT 1 e b.toNat) (λA=>Ci z a 0 λC=>AS (DY z C) λ(C:List (B8×TV))=>need (CV (AD .nilPtr (AG A C))) (BIf (Cj (AD .nilPtr (AG A C))) (K z) (Ci z (AD .nilPtr (AG A C)) 0 (λD=>need (CV D) (BIf (!(Cj D)) (Ci z (AD .nilPtr (AG A C)) 0 (λA=>v A (i64.wrap (b+1)) c d e f g i j k l m n o p q r s t u x y z/\w A (i64.wrap (b+1)) c d e f g i j k l m n o p q r s t u x y z<w a b c d e f g i j k l m n o p q r s t u x y z)) (Ci z (AD .nilPtr (AG A C)) 1 (λD=>need (CV D) (BIf (!(Cj D)) (BIf g (Ci z (AD .nilPtr (AG A C)) 1 (λA=>v A (i64.wrap (b+1)) c d e f g i j k l m n o p q r s t u x y z/\w A (i64.wrap (b+1)) c d e f g i j k l m n o p q r s t u x y z<w a b c d e f g i j k l m n o p q r s t u x y z)) (zP2 c (BG E Ai [AU c 0,ziT d,ziT 8] z (λA=>v a (i64.wrap (b+1)) c d e f g i j k l m n o p q r s t u x y A/\w a (i64.wrap (b+1)) c d e f g i j k l m n o p q r s t u x y A<w a b c d e f g i j k l m n o p q r s t u x y z)))) (zP2 c (BG E Ai [AU c 0,ziT d,ziT 8] z (λA=>v a (i64.wrap (b+1)) c d e f g i j k l m n o p q r s t u x y A/\w a (i64.wrap (b+1)) c d e f g i j k l m n o p q r s t u x y A<w a b c d e f g i j k l m n o p q r s t u x y z))))))))))))) (Ci z a 0 (λa=>need (isSl j) (zIz (i64.wrap ((lenS j:Int)-1)) 1 j (zLs z (ixT 1 j (Int.toNat (i64.wrap ((lenS j:Int)-1)))) (λb=>AS (DY z a) λ(a:List (B8×TV))=>need (CV (AD .nilPtr (AG b a))) (BIf (Cj (AD .nilPtr (AG b a))) (K z) (BIf i (Ci z (AD .nilPtr (AG b a)) 1 (λe=>need (CV e) (BIf (Cj e) (zP2 c (BG E Ai [AU c 0,ziT d,ziT 6] z K)) (BIf (!i) (BIf (!g) (zP2 c (BG E Ai [AU c 0,ziT d,ziT 8] z K)) (Ci z (AD .nilPtr (AG b a)) 0 (λe=>need (CV e) (BIf (Cj e) (zP2 c (BG E Ai [AU c 0,ziT d,ziT 8] z K)) (Ci z (AD .nilPtr (AG b a)) 0 (λa=>zLbp z a 2 λa=>BIf a (zP2 c (BG E Ai [AU c 0,ziT d,ziT 8] z K)) (K z))))))) (K z))))) (BIf (!i) (BIf (!g) (zP2 c (BG E Ai [AU c 0,ziT d,ziT 8] z K)) (Ci z (AD .nilPtr (AG b a)) 0 (λe=>need (CV e) (BIf (Cj e) (zP2 c (BG E Ai [AU c 0,ziT d,ziT 8] z K)) (Ci z (AD .nilPtr (AG b a)) 0 (λa=>zLbp z a 2 λa=>BIf a (zP2 c (BG E Ai [AU c 0,ziT d,ziT 8] z K)) (K z))))))) (K z))))))))))))):BG E EK [.box a 0,ziT b,.box c 0,PE d e f g i j k l m n o p q r s t] u K:=
 tcF ⟨[7],[],[],E⟩ (zSn (.seq (zSn (.block (.loop ⟨[(2,zV),(20,zI6),(0,zV),(1,zI6),(18,zV),(19,zI6)],[(7,0,0)],[(0,16)],[(0,0,zB),(0,1,zB),(0,2,zV),(0,3,zI6),(0,4,zB),(0,5,zB),(0,6,zS),(0,7,zI6),(0,8,zI6),(0,9,zI6),(0,10,zI6),(0,11,zI6),(0,12,zS),(0,13,zV),(0,14,zV),(0,15,zV)]⟩ .none))) .none)) Tryz.call298 Tryz.func298 h
theorem Md (a:B8) (s:St) (K:Int->Bool->Bool->B8->Int->Int->Int->Int->Int->B8->TV->TV->TV->Int->St->Prop) (h:Ad (a≠ []) (zIx 0 a (Ad (((List.getD a (Int.toNat (0:Int)) 0).toNat:Int)=34) (zC8 Cg [.str a] s (λa b c=>Ad (b=0) (Ad (65536<(a.length:Int)) (Ad ((10:Int)≠(0:Int)) (K 0 false false [] 0 0 0 0 0 [] .nilSlice .nilSlice .nilSlice 10 c) (K 4 false false [] 0 0 0 0 0 a .nilSlice .nilSlice .nilSlice 0 c)) (Ad (b≠0) (K 0 false false [] 0 0 0 0 0 [] .nilSlice .nilSlice .nilSlice b c) (K 4 false false [] 0 0 0 0 0 a .nilSlice .nilSlice .nilSlice 0 c))) (Ad (b≠0) (K 0 false false [] 0 0 0 0 0 [] .nilSlice .nilSlice .nilSlice b c) (K 4 false false [] 0 0 0 0 0 a .nilSlice .nilSlice .nilSlice 0 c)))) (zIx 0 a (Ad (((List.getD a (Int.toNat (0:Int)) 0).toNat:Int)=39) (zC8 Cg [.str a] s (λa b c=>Ad (b=0) (Ad (65536<(a.length:Int)) (Ad ((10:Int)≠(0:Int)) (K 0 false false [] 0 0 0 0 0 [] .nilSlice .nilSlice .nilSlice 10 c) (K 4 false false [] 0 0 0 0 0 a .nilSlice .nilSlice .nilSlice 0 c)) (Ad (b≠0) (K 0 false false [] 0 0 0 0 0 [] .nilSlice .nilSlice .nilSlice b c) (K 4 false false [] 0 0 0 0 0 a .nilSlice .nilSlice .nilSlice 0 c))) (Ad (b≠0) (K 0 false false [] 0 0 0 0 0 [] .nilSlice .nilSlice .nilSlice b c) (K 4 false false [] 0 0 0 0 0 a .nilSlice .nilSlice .nilSlice 0 c)))) (Ad (a=M5) (K 1 (decide (a=M5)) false [] 0 0 0 0 0 [] .nilSlice .nilSlice .nilSlice 0 s) (Ad (a=UU) (K 1 (decide (a=M5)) false [] 0 0 0 0 0 [] .nilSlice .nilSlice .nilSlice 0 s) (UF Ez [.str a] s (λb c d e f=>Ad (e=0) (K 2 false b c d 0 0 0 0 [] .nilSlice .nilSlice .nilSlice 0 f) (Ad (e≠3) (K 0 false false [] 0 0 0 0 0 [] .nilSlice .nilSlice .nilSlice e f) (zC41 EZ [.str a] f (λa b c d e f=>Ad (e≠0) (K 0 false false [] 0 0 0 0 0 [] .nilSlice .nilSlice .nilSlice e f) (K 3 false false [] 0 a b c d [] .nilSlice .nilSlice .nilSlice 0 f)))))))))))) (Ad (a=M5) (K 1 (decide (a=M5)) false [] 0 0 0 0 0 [] .nilSlice .nilSlice .nilSlice 0 s) (Ad (a=UU) (K 1 (decide (a=M5)) false [] 0 0 0 0 0 [] .nilSlice .nilSlice .nilSlice 0 s) (UF Ez [.str a] s (λb c d e f=>Ad (e=0) (K 2 false b c d 0 0 0 0 [] .nilSlice .nilSlice .nilSlice 0 f) (Ad (e≠3) (K 0 false false [] 0 0 0 0 0 [] .nilSlice .nilSlice .nilSlice e f) (zC41 EZ [.str a] f (λa b c d e f=>Ad (e≠0) (K 0 false false [] 0 0 0 0 0 [] .nilSlice .nilSlice .nilSlice e f) (K 3 false false [] 0 a b c d [] .nilSlice .nilSlice .nilSlice 0 f))))))))):zC5 DA [.str a] s K:=
 tcF ⟨[2,6,8],[],[],NoE⟩ .none Tryz.call299 Tryz.func299 h
theorem Kh (E:TV->St->Prop) (a:Nat) (b:Int) (s:St) (K:Int->B8->B8->TV->B8->Int->Bool->Bool->B8->Int->Int->Int->Int->Int->B8->TV->TV->TV->St->Prop) (h:Ha E Aw [.box a 0,ziT 3,ziT 1] s λc d e f g i=>Dk c d e f g (∃(j:TV->Int->Int->B8->B8->TV->B8->Int->Bool->Bool->B8->Int->Int->Int->Int->Int->B8->TV->TV->TV->Int->B8->B8->TV->B8->Int->Bool->Bool->B8->Int->Int->Int->Int->Int->B8->TV->TV->TV->St->Prop) (k:TV->Int->Int->B8->B8->TV->B8->Int->Bool->Bool->B8->Int->Int->Int->Int->Int->B8->TV->TV->TV->Int->B8->B8->TV->B8->Int->Bool->Bool->B8->Int->Int->Int->Int->Int->B8->TV->TV->TV->St->Nat),j (.box a 0) b (0:Int) ([]:B8) ([]:B8) .nilSlice ([]:B8) (0:Int) false false ([]:B8) (0:Int) (0:Int) (0:Int) (0:Int) (0:Int) ([]:B8) .nilSlice .nilSlice .nilSlice c d e f g (6:Int) false false ([]:B8) (0:Int) (0:Int) (0:Int) (0:Int) (0:Int) ([]:B8) .nilSlice .nilSlice .nilSlice i/\(∀a b c d e f g i l m n o p q r s t u v w x y z A C D F G H J L M N O P Q R T U,j a b c d e f g i l m n o p q r s t u v w x y z A C D F G H J L M N O P Q R T U->BG E AN [a,.bool true] U λW=>Rx E Bf [a] W λ_ W _ X=>Ad (W=UW) (zX17 E B9 [a] X (λa b=>Dk x y z A a (CN D F G H J L M N O P Q R T (K x y z A a D F G H J L M N O P Q R T b)))) (UD E BI [a,ziT (i64.wrap (b+1))] X (λW X Y Z a0 a1 a2 a3 a4 a5 a6 a7 a8 a9 b0 b1 b2 b3 b4=>Dk W X Y Z a0 (CN a1 a2 a3 a4 a5 a6 a7 a8 a9 b0 b1 b2 b3 (BG E AN [a,.bool true] b4 (λb4=>Rx E Bf [a] b4 λ_ b4 _ b5=>Ad (b4≠UW) (Ha E Bp [a,.str str18] b5 (λb4 b5 b6 b7 b8 b9=>Dk b4 b5 b6 b7 b8 (Bn 43 5 80 (.list 5 .full 1 [ziT W,.str X,.str Y,Z,.str a0]) 1 [ziT b4,.str b5,.str b6,b7,.str b8] b9 (λ(W:TV) X=>need (List.all [W] Av) (Dk 5 [] [] W [] (Bn 43 5 80 A 1 [ziT 5,.str [],.str [],W,.str []] X (λ(W:TV) X=>need (List.all [W] Av) (CN a1 a2 a3 a4 a5 a6 a7 a8 a9 b0 b1 b2 b3 (Bn 33 13 168 R 1 [ziT a1,.bool a2,.bool a3,.str a4,ziT a5,ziT a6,ziT a7,ziT a8,ziT a9,.str b0,b1,b2,b3] X (λ(X:TV) Y=>need (List.all [X] Av) (j a b c d e f g i l m n o p q r s t u v w x y z W C D F G H J L M N O P Q X T Y/\k a b c d e f g i l m n o p q r s t u v w x y z W C D F G H J L M N O P Q X T Y<k a b c d e f g i l m n o p q r s t u v w x y z A C D F G H J L M N O P Q R T U))))))))))) (Bn 43 5 80 A 1 [ziT 5,.str [],.str [],.list 5 .full 1 [ziT W,.str X,.str Y,Z,.str a0],.str []] b5 (λ(W:TV) X=>need (List.all [W] Av) (CN a1 a2 a3 a4 a5 a6 a7 a8 a9 b0 b1 b2 b3 (Bn 33 13 168 R 1 [ziT a1,.bool a2,.bool a3,.str a4,ziT a5,ziT a6,ziT a7,ziT a8,ziT a9,.str b0,b1,b2,b3] X (λ(X:TV) Y=>need (List.all [X] Av) (j a b c d e f g i l m n o p q r s t u v w x y z W C D F G H J L M N O P Q X T Y/\k a b c d e f g i l m n o p q r s t u v w x y z W C D F G H J L M N O P Q X T Y<k a b c d e f g i l m n o p q r s t u v w x y z A C D F G H J L M N O P Q R T U)))))))))))))):UD E Ek [.box a 0,ziT b] s K:=
 tcF ⟨[4,5,6,7,8,9,10],[],[],E⟩ (zSn (zSn (zSn (.block (.loop ⟨[(0,zV),(1,zI6)],[(4,0,0),(5,1,0),(6,2,0),(7,3,0)],[(0,5),(1,13),(2,5),(3,13)],[(0,0,zI6),(0,1,zS),(0,2,zS),(0,3,zV),(0,4,zS),(1,0,zI6),(1,1,zB),(1,2,zB),(1,3,zS),(1,4,zI6),(1,5,zI6),(1,6,zI6),(1,7,zI6),(1,8,zI6),(1,9,zS),(1,10,zV),(1,11,zV),(1,12,zV),(2,0,zI6),(2,1,zS),(2,2,zS),(2,3,zV),(2,4,zS),(3,0,zI6),(3,1,zB),(3,2,zB),(3,3,zS),(3,4,zI6),(3,5,zI6),(3,6,zI6),(3,7,zI6),(3,8,zI6),(3,9,zS),(3,10,zV),(3,11,zV),(3,12,zV)]⟩ .none))))) Tryz.call300 Tryz.func300 h
theorem J1 (E:TV->St->Prop) (a:Nat) (b:Int) (s:St) (K:Int->B8->B8->TV->B8->Int->Bool->Bool->B8->Int->Int->Int->Int->Int->B8->TV->TV->TV->St->Prop) (h:Ha E Aw [.box a 0,ziT 4,ziT 1] s λc d e f g i=>Dk c d e f g (BG E AN [.box a 0,.bool false] (i.push (.map []) none) (λj=>Rx E Bf [.box a 0] j λ_ j _ k=>Ad (j=str21) (zX17 E B9 [.box a 0] k (λa b=>Dk c d e f a (K c d e f a 7 false false [] 0 0 0 0 0 [] .nilSlice .nilSlice .nilSlice b))) (∃(j:TV->Int->TV->Int->B8->B8->TV->B8->Int->Bool->Bool->B8->Int->Int->Int->Int->Int->B8->TV->TV->TV->Int->B8->B8->TV->B8->Int->Bool->Bool->B8->Int->Int->Int->Int->Int->B8->TV->TV->TV->St->Prop) (l:TV->Int->TV->Int->B8->B8->TV->B8->Int->Bool->Bool->B8->Int->Int->Int->Int->Int->B8->TV->TV->TV->Int->B8->B8->TV->B8->Int->Bool->Bool->B8->Int->Int->Int->Int->Int->B8->TV->TV->TV->St->Nat),j (.box a 0) b (.map i.nb) (0:Int) ([]:B8) ([]:B8) .nilSlice ([]:B8) (0:Int) false false ([]:B8) (0:Int) (0:Int) (0:Int) (0:Int) (0:Int) ([]:B8) .nilSlice .nilSlice .nilSlice c d e f g (7:Int) false false ([]:B8) (0:Int) (0:Int) (0:Int) (0:Int) (0:Int) ([]:B8) .nilSlice .nilSlice .nilSlice k/\(∀a b c d e f g i k m n o p q r s t u v w x y z A C D F G H J L M N O P Q R T U W,j a b c d e f g i k m n o p q r s t u v w x y z A C D F G H J L M N O P Q R T U W->zX48 E Ej [a,c] W λX Y Z a0 a1 a2 a3=>Dk Y Z a0 a1 a2 (BG E AN [a,.bool false] a3 (λa3=>Ha E Bp [a,.str str14] a3 λa3 a4 a5 a6 a7 a8=>Dk a3 a4 a5 a6 a7 (BG E AN [a,.bool false] a8 (λa8=>UD E BI [a,ziT (i64.wrap (b+1))] a8 λa8 a9 b0 b1 b2 b3 b4 b5 b6 b7 b8 b9 c0 c1 c2 c3 c4 c5 c6=>Dk a8 a9 b0 b1 b2 (CN b3 b4 b5 b6 b7 b8 b9 c0 c1 c2 c3 c4 c5 (MM X b3 b4 b5 b6 b7 b8 b9 c0 c1 c2 c3 c4 c5 (Bn 87 14 184 U 1 [.str X,ziT b3,.bool b4,.bool b5,.str b6,ziT b7,ziT b8,ziT b9,ziT c0,ziT c1,.str c2,c3,c4,c5] c6 (λ(X:TV) b3=>need (List.all [X] Av) (BG E AN [a,.bool false] b3 (λb3=>Rx E Bf [a] b3 λ_ b3 _ b4=>Ad (b3=str21) (Bn 43 5 80 C 1 [ziT 5,.str [],.str [],.list 5 .full 3 [ziT Y,.str Z,.str a0,a1,.str a2,ziT a3,.str a4,.str a5,a6,.str a7,ziT a8,.str a9,.str b0,b1,.str b2],.str []] b4 (λ(b:TV) c=>need (List.all [b] Av) (zX17 E B9 [a] c (λa c=>Dk y z A b a (CN F G H J L M N O P Q R T X (K y z A b a F G H J L M N O P Q R T X c)))))) (Ha E Bp [a,.str str18] b4 (λb3 b4 b5 b6 b7 b8=>Dk b3 b4 b5 b6 b7 (Bn 43 5 80 (.list 5 .full 3 [ziT Y,.str Z,.str a0,a1,.str a2,ziT a3,.str a4,.str a5,a6,.str a7,ziT a8,.str a9,.str b0,b1,.str b2]) 1 [ziT b3,.str b4,.str b5,b6,.str b7] b8 (λ(Y:TV) Z=>need (List.all [Y] Av) (Dk 5 [] [] Y [] (Bn 43 5 80 C 1 [ziT 5,.str [],.str [],Y,.str []] Z (λ(Y:TV) Z=>need (List.all [Y] Av) (BG E AN [a,.bool false] Z (λZ=>j a b c d e f g i k m n o p q r s t u v w x y z A Y D F G H J L M N O P Q R T X Z/\l a b c d e f g i k m n o p q r s t u v w x y z A Y D F G H J L M N O P Q R T X Z<l a b c d e f g i k m n o p q r s t u v w x y z A C D F G H J L M N O P Q R T U W)))))))))))))))))))))))):UD E DQ [.box a 0,ziT b] s K:=
 tcF ⟨[4,5,6,7,10,11,12,13,14],[],[],E⟩ (zSn (zSn (zSn (zSn (zSn (zSn (.block (.loop ⟨[(0,zV),(1,zI6),(8,zV)],[(4,0,0),(5,1,0),(6,2,0),(7,3,0)],[(0,5),(1,13),(2,5),(3,13)],[(0,0,zI6),(0,1,zS),(0,2,zS),(0,3,zV),(0,4,zS),(1,0,zI6),(1,1,zB),(1,2,zB),(1,3,zS),(1,4,zI6),(1,5,zI6),(1,6,zI6),(1,7,zI6),(1,8,zI6),(1,9,zS),(1,10,zV),(1,11,zV),(1,12,zV),(2,0,zI6),(2,1,zS),(2,2,zS),(2,3,zV),(2,4,zS),(3,0,zI6),(3,1,zB),(3,2,zB),(3,3,zS),(3,4,zI6),(3,5,zI6),(3,6,zI6),(3,7,zI6),(3,8,zI6),(3,9,zS),(3,10,zV),(3,11,zV),(3,12,zV)]⟩ .none)))))))) Tryz.call301 Tryz.func301 h
theorem Pc (a:Int) (b c:Bool) (d:B8) (e f g i j:Int) (k:B8) (l m n:TV) (s:St) (K:Bool->St->Prop) (h:Ad (a=0) (BIf (!b) (BIf (c==false&&(decide (d=[])&&(decide (e=0)&&true))) (BIf (decide (f=0)&&(decide (g=0)&&(decide (i=0)&&(decide (j=0)&&true)))) (Ad (k=[]) (need (isSl l) (Ad ((lenS l:Int)=0) (need (isSl m) (Ad ((lenS m:Int)=0) (need (isSl n) (K (decide ((lenS n:Int)=0)) s)) (K false s))) (K false s))) (K false s)) (K false s)) (K false s)) (K false s)) (K false s)):zC0 DH [By a b c d e f g i j k l m n] s K:=
 tcF ⟨[1],[],[],NoE⟩ .none Tryz.call302 Tryz.func302 h
theorem EI (a b:TV) (s:St) (K:Int->St->Prop) (h:need (isSl a) (MO (0:Int) a b (lenS a:Int) s (λa b c d e f=>Ad (b<e) (zIz b 1 c (zLs f (ixT 1 c b.toNat) (λg=>Ja NoE PR d [.str g] [.one .bool] f λ(f:Bool) g=>BIf f (K b g) (a (i64.wrap (b+1)) c d e g)))) (K (-1:Int) f)))):zC4 CE [a,b] s K:=
 tcF ⟨[],[],[],NoE⟩ (zSn (.seq (zSn (.block (.loop ⟨[(8,zI6),(0,zV),(1,zV),(7,zI6)],[],[],[]⟩ .none))) .none)) Tryz.call303 Tryz.func303 h
end Go.TVF
end
section
set_option maxRecDepth 100000
namespace Go.TVF
open Go.IntKind(i64 u8)
open Go Go.Proofs
open Go.IntKind (i64 u8)
theorem UN (a:Int) (s:St) (K:Int->Int->St->Prop) (h:Ad (a<128) (K 1 (i64.wrap a) s) (Ad (192<=a) (Ad (a<224) (K 2 (i64.wrap (AI .and .u8 a (31:Int))) s) (Ad (224<=a) (Ad (a<240) (K 3 (i64.wrap (AI .and .u8 a (15:Int))) s) (Ad (240<=a) (Ad (a<248) (K 4 (i64.wrap (AI .and .u8 a (7:Int))) s) (K 0 0 s)) (K 0 0 s))) (Ad (240<=a) (Ad (a<248) (K 4 (i64.wrap (AI .and .u8 a (7:Int))) s) (K 0 0 s)) (K 0 0 s)))) (Ad (224<=a) (Ad (a<240) (K 3 (i64.wrap (AI .and .u8 a (15:Int))) s) (Ad (240<=a) (Ad (a<248) (K 4 (i64.wrap (AI .and .u8 a (7:Int))) s) (K 0 0 s)) (K 0 0 s))) (Ad (240<=a) (Ad (a<248) (K 4 (i64.wrap (AI .and .u8 a (7:Int))) s) (K 0 0 s)) (K 0 0 s))))):Jd KO [.int .u8 a] s K:=
 tcF ⟨[],[],[],NoE⟩ .none Tryz.call323 Tryz.func323 h
theorem RK (a:Int) (s:St) (K:Bool->St->Prop) (h:Ad (0<=a) (Ad (a<=1114111) (Ad (a<55296) (K true s) (K (decide (57343<a)) s)) (K false s)) (K false s)):zC0 Ix [ziT a] s K:=
 tcF ⟨[],[],[],NoE⟩ .none Tryz.call324 Tryz.func324 h
theorem S9 (a:Int) (s:St) (K:Int->St->Prop) (h:Ad (a<128) (K 1 s) (Ad (a<2048) (K 2 s) (Ad (a<65536) (K 3 s) (K 4 s)))):zC4 JC [ziT a] s K:=
 tcF ⟨[],[],[],NoE⟩ .none Tryz.call325 Tryz.func325 h
theorem O7 (a:B8) (b:Int) (s:St) (K:Int->Int->St->Prop) (h:MO (0:Int) b a b s λa b c d e f=>Ad (c<i64.wrap (e+4)) (Ad ((d.length:Int)<=c) (K 0 4 f) (zIx c d (zC4 BK [.str str57,.int .u8 ((List.getD d c.toNat 0).toNat:Int)] f (λf g=>Ad (f<0) (K 0 3 g) (Ad (16<=f) (a (i64.wrap (i64.wrap (b*16)+i64.wrap (f-6))) (i64.wrap (c+1)) d e g) (a (i64.wrap (i64.wrap (b*16)+f)) (i64.wrap (c+1)) d e g)))))) (K b 0 f)):Jd C0 [.str a,ziT b] s K:=
 tcF ⟨[],[],[],NoE⟩ (zSn (zSn (.seq (zSn (.block (.loop ⟨[(6,zI6),(7,zI6),(0,zS),(1,zI6)],[],[],[]⟩ .none))) .none))) Tryz.call328 Tryz.func328 h
theorem Hd (a:TV) (b:Int) (s:St) (K:TV->St->Prop) (h:Ad (IntKind.u32.wrap b<=2047) (Bn 5 1 1 a 2 [.int .u8 (AI .or .u8 (192:Int) (u8.wrap (Int.fdiv b (2^min (Int.toNat (6:Int)) (IntKind.bits .i32))))),.int .u8 (AI .or .u8 (128:Int) (AI .and .u8 (u8.wrap b) (63:Int)))] s K) (Ad (IntKind.u32.wrap b<55296) (Ad (IntKind.u32.wrap b<55296) (Bn 5 1 1 a 3 [.int .u8 (AI .or .u8 (224:Int) (u8.wrap (Int.fdiv b (2^min (Int.toNat (12:Int)) (IntKind.bits .i32))))),.int .u8 (AI .or .u8 (128:Int) (AI .and .u8 (u8.wrap (Int.fdiv b (2^min (Int.toNat (6:Int)) (IntKind.bits .i32)))) (63:Int))),.int .u8 (AI .or .u8 (128:Int) (AI .and .u8 (u8.wrap b) (63:Int)))] s K) (Ad (65535<IntKind.u32.wrap b) (Ad (IntKind.u32.wrap b<=1114111) (Bn 5 1 1 a 4 [.int .u8 (AI .or .u8 (240:Int) (u8.wrap (Int.fdiv b (2^min (Int.toNat (18:Int)) (IntKind.bits .i32))))),.int .u8 (AI .or .u8 (128:Int) (AI .and .u8 (u8.wrap (Int.fdiv b (2^min (Int.toNat (12:Int)) (IntKind.bits .i32)))) (63:Int))),.int .u8 (AI .or .u8 (128:Int) (AI .and .u8 (u8.wrap (Int.fdiv b (2^min (Int.toNat (6:Int)) (IntKind.bits .i32)))) (63:Int))),.int .u8 (AI .or .u8 (128:Int) (AI .and .u8 (u8.wrap b) (63:Int)))] s K) (Bn 5 1 1 a 3 [.int .u8 (239:Int),.int .u8 (191:Int),.int .u8 (189:Int)] s K)) (Bn 5 1 1 a 3 [.int .u8 (239:Int),.int .u8 (191:Int),.int .u8 (189:Int)] s K))) (Ad (57343<IntKind.u32.wrap b) (Ad (IntKind.u32.wrap b<=65535) (Bn 5 1 1 a 3 [.int .u8 (AI .or .u8 (224:Int) (u8.wrap (Int.fdiv b (2^min (Int.toNat (12:Int)) (IntKind.bits .i32))))),.int .u8 (AI .or .u8 (128:Int) (AI .and .u8 (u8.wrap (Int.fdiv b (2^min (Int.toNat (6:Int)) (IntKind.bits .i32)))) (63:Int))),.int .u8 (AI .or .u8 (128:Int) (AI .and .u8 (u8.wrap b) (63:Int)))] s K) (Ad (65535<IntKind.u32.wrap b) (Ad (IntKind.u32.wrap b<=1114111) (Bn 5 1 1 a 4 [.int .u8 (AI .or .u8 (240:Int) (u8.wrap (Int.fdiv b (2^min (Int.toNat (18:Int)) (IntKind.bits .i32))))),.int .u8 (AI .or .u8 (128:Int) (AI .and .u8 (u8.wrap (Int.fdiv b (2^min (Int.toNat (12:Int)) (IntKind.bits .i32)))) (63:Int))),.int .u8 (AI .or .u8 (128:Int) (AI .and .u8 (u8.wrap (Int.fdiv b (2^min (Int.toNat (6:Int)) (IntKind.bits .i32)))) (63:Int))),.int .u8 (AI .or .u8 (128:Int) (AI .and .u8 (u8.wrap b) (63:Int)))] s K) (Bn 5 1 1 a 3 [.int .u8 (239:Int),.int .u8 (191:Int),.int .u8 (189:Int)] s K)) (Bn 5 1 1 a 3 [.int .u8 (239:Int),.int .u8 (191:Int),.int .u8 (189:Int)] s K))) (Ad (65535<IntKind.u32.wrap b) (Ad (IntKind.u32.wrap b<=1114111) (Bn 5 1 1 a 4 [.int .u8 (AI .or .u8 (240:Int) (u8.wrap (Int.fdiv b (2^min (Int.toNat (18:Int)) (IntKind.bits .i32))))),.int .u8 (AI .or .u8 (128:Int) (AI .and .u8 (u8.wrap (Int.fdiv b (2^min (Int.toNat (12:Int)) (IntKind.bits .i32)))) (63:Int))),.int .u8 (AI .or .u8 (128:Int) (AI .and .u8 (u8.wrap (Int.fdiv b (2^min (Int.toNat (6:Int)) (IntKind.bits .i32)))) (63:Int))),.int .u8 (AI .or .u8 (128:Int) (AI .and .u8 (u8.wrap b) (63:Int)))] s K) (Bn 5 1 1 a 3 [.int .u8 (239:Int),.int .u8 (191:Int),.int .u8 (189:Int)] s K)) (Bn 5 1 1 a 3 [.int .u8 (239:Int),.int .u8 (191:Int),.int .u8 (189:Int)] s K))))):zC7 Ei [a,.int .i32 b] s K:=
 tcF ⟨[],[],[],NoE⟩ .none Tryz.call329 Tryz.func329 h
theorem MU (a:Int) (s:St) (K:Bool->St->Prop) (h:Ad (a=32) (K true s) (K (decide (a=9)) s)):zC0 DZ [.int .u8 a] s K:=
 tcF ⟨[],[],[],NoE⟩ .none Tryz.call346 Tryz.func346 h
theorem NR (a:B8) (b:Int) (s:St) (K:Int->Int->St->Prop) (h:zIx b a (Ad (((List.getD a b.toNat 0).toNat:Int)=10) (K (i64.wrap (b+1)) 0 s) (Ad (i64.wrap (b+1)=(a.length:Int)) (K 0 4 s) (zIx (i64.wrap (b+1)) a (Ad (((List.getD a (Int.toNat (i64.wrap (b+1))) 0).toNat:Int)=10) (K (i64.wrap (b+2)) 0 s) (K 0 3 s)))))):Jd Ew [.str a,ziT b] s K:=
 tcF ⟨[],[],[],NoE⟩ .none Tryz.call347 Tryz.func347 h
theorem Lw (a:B8) (b:Int) (s:St) (K:Int->Int->St->Prop) (h:S6 b a s λa b c d=>Ad (b<(c.length:Int)) (zIx b c (Ad (((List.getD c b.toNat 0).toNat:Int)≠10) (zSd b c (zC0 Bq [.str (List.drop b.toNat c),.str Sj] d (λd e=>BIf (!d) (zSd b c (zC30 Bm [.str (List.drop b.toNat c)] e (λd e f=>Ad (d=65533) (Ad (e=1) (K 0 5 f) (a (i64.wrap (b+e)) c f)) (a (i64.wrap (b+e)) c f)))) (K b 0 e)))) (K b 0 d))) (K b 0 d)):Jd EJ [.str a,ziT b] s K:=
 tcF ⟨[],[],[],NoE⟩ (zSn (.seq (.block (.loop ⟨[(1,zI6),(0,zS)],[],[],[]⟩ .none)) .none)) Tryz.call348 Tryz.func348 h
theorem MT (a:B8) (b:Int) (s:St) (K:Int->St->Prop) (h:zC11 CD [] s λ_ c d=>zC4 CA [.str a,ziT b,c] d λd e=>Ad (i64.wrap (d-b)=10) (zSc b d a (zC0 Dh [.str (List.drop b.toNat (List.take d.toNat a)),.str str59] e (λb e=>BIf b (zSd d a (zC0 Dh [.str (List.drop d.toNat a),.str str60] e (λb e=>BIf b (zC4 CA [.str a,ziT (i64.wrap (d+1)),c] e K) (K d e)))) (K d e)))) (K d e)):zC4 Fz [.str a,ziT b] s K:=
 tcF ⟨[],[],[],NoE⟩ .none Tryz.call349 Tryz.func349 h
theorem NZ (a:B8) (s:St) (K:Bool->B8->Int->Int->St->Prop) (h:zC0 Bq [.str a,.str YH] s λb c=>zJn5 (λ(a:B8) (b c:Bool) (d:B8) (e:Int) f=>zC4 Eo [.str a] f λf g=>zJn6 (λ(a:B8) (b:Bool) (c:Int) (d:Bool) (e:B8) (f:Int) g=>zSd c a (zSd c a (zJn7 (λ(a b:B8) (c:Int) (d e:Bool) (f:B8) (g:Int) i=>Ad (a≠ []) (zJn7 (λ(a:B8) (b:Bool) (c:B8) (d:Int) (e:Bool) (f:B8) (g:Int) i=>zSd 1 a (zC0 Bq [.str (List.drop (Int.toNat (1:Int)) a),.str YH] i (λi j=>zJn8 (λ(a:B8) (b:Bool) (c:B8) (d:Int) (e _:Bool) (_:B8) (_:Int) f=>Ad (a=[]) (K false [] 0 3 f) (zC4 Eo [.str a] f (λf g=>Ad (f≠(a.length:Int)) (K false [] 0 3 g) (PG EL [.str a,.str YI] g (λa f=>zC4 FX [ziT d,.bool e,.str a] f λa d=>UF DI [.bool b,.str c,ziT a] d K))))) λk=>BIf i (zSd 1 (List.drop (Int.toNat (1:Int)) a) (k (List.drop (Int.toNat (1:Int)) (List.drop (Int.toNat (1:Int)) a)) b c d i e f g j)) (zC0 Bq [.str (List.drop (Int.toNat (1:Int)) a),.str str50] j (λj l=>BIf j (zSd 1 (List.drop (Int.toNat (1:Int)) a) (k (List.drop (Int.toNat (1:Int)) (List.drop (Int.toNat (1:Int)) a)) b c d i e f g l)) (k (List.drop (Int.toNat (1:Int)) a) b c d i e f g l)))))) (λj=>zIx 0 a (Ad (((List.getD a (Int.toNat (0:Int)) 0).toNat:Int)≠101) (zIx 0 a (Ad (((List.getD a (Int.toNat (0:Int)) 0).toNat:Int)≠69) (K false [] 0 3 i) (j a d b c e f g i))) (j a d b c e f g i)))) (UF DI [.bool d,.str b,ziT c] i K)) (λi=>zC0 Bq [.str (List.drop c.toNat a),.str str8] g λg j=>BIf g (zSd 1 (List.drop c.toNat a) (zC4 Eo [.str (List.drop (Int.toNat (1:Int)) (List.drop c.toNat a))] j (λg j=>Ad (g=0) (K false [] 0 3 j) (zSc 1 (i64.wrap (g+1)) (List.drop c.toNat a) (zPl (List.take c.toNat a) (List.drop (Int.toNat (1:Int)) (List.take (Int.toNat (i64.wrap (g+1))) (List.drop c.toNat a))) (zSd (i64.wrap (g+1)) (List.drop c.toNat a) (i (List.drop (Int.toNat (i64.wrap (g+1))) (List.drop c.toNat a)) (List.take c.toNat a++List.drop (Int.toNat (1:Int)) (List.take (Int.toNat (i64.wrap (g+1))) (List.drop c.toNat a))) (i64.wrap (0-g)) b d e f j))))))) (i (List.drop c.toNat a) (List.take c.toNat a) (0:Int) b d e f j))))) λi=>Ad (f=0) (K false [] 0 3 g) (Ad (1<f) (zIx 0 a (Ad (((List.getD a (Int.toNat (0:Int)) 0).toNat:Int)=48) (K false [] 0 3 g) (i a b f c d e g))) (i a b f c d e g))) λd=>BIf b (zSd 1 a (d (List.drop (Int.toNat (1:Int)) a) b false ([]:B8) (0:Int) c)) (d a b false ([]:B8) (0:Int) c)):UF Ez [.str a] s K:=
 tcF ⟨[2],[],[],NoE⟩ (zSn (zSn (.cut ⟨[(0,zS),(4,zB)],[(2,0,0)],[(0,3)],[(0,0,zB),(0,1,zS),(0,2,zI6)]⟩ .none (zSn (.cut ⟨[(0,zS),(4,zB),(5,zI6)],[(2,0,0)],[(0,3)],[(0,0,zB),(0,1,zS),(0,2,zI6)]⟩ .none (zSn (zSn (zSn (.cut ⟨[(0,zS),(6,zS),(7,zI6),(4,zB)],[(2,0,0)],[(0,3)],[(0,0,zB),(0,1,zS),(0,2,zI6)]⟩ .none (.seq (zSn (.cond (.cut ⟨[(0,zS),(4,zB),(6,zS),(7,zI6)],[(2,0,0)],[(0,3)],[(0,0,zB),(0,1,zS),(0,2,zI6)]⟩ .none (zSn (zSn (.cut ⟨[(0,zS),(4,zB),(6,zS),(7,zI6),(8,zB)],[(2,0,0)],[(0,3)],[(0,0,zB),(0,1,zS),(0,2,zI6)]⟩ .none .none)))) .none)) .none)))))))))) Tryz.call350 Tryz.func350 h
theorem Pe (a:B8) (s:St) (K:Int->Int->Int->Int->Int->St->Prop) (h:zC4 DT [.box s.nb 0,.box (s.push (.cells [.str a,.bool false]) (some 400)).nb 0] ((s.push (.cells [.str a,.bool false]) (some 400)).push (.cells [ziT 0,ziT 0,ziT 0,ziT 0,ziT 0,ziT 0,ziT 0,.int .u8 (0:Int),ziT 0,ziT 0]) (some 402)) λb c=>zLbb c s.nb 1 λd=>BIf d (K 0 0 0 0 3 c) (Kc c s.nb 0 (λd=>Ad (d≠ []) (K 0 0 0 0 3 c) (Ad (b≠2) (Bx c (s.push (.cells [.str a,.bool false]) (some 400)).nb 0 (λd=>Bx c (s.push (.cells [.str a,.bool false]) (some 400)).nb 1 λe=>Bx c (s.push (.cells [.str a,.bool false]) (some 400)).nb 2 λf=>Jd GH [ziT d,ziT e,ziT f] c λc d e=>Ad (d≠0) (K 0 0 0 0 2 e) (Bx e (s.push (.cells [.str a,.bool false]) (some 400)).nb 3 (λd=>Ad (23<d) (K 0 0 0 0 2 e) (Bx e (s.push (.cells [.str a,.bool false]) (some 400)).nb 4 (λd=>Ad (59<d) (K 0 0 0 0 2 e) (Bx e (s.push (.cells [.str a,.bool false]) (some 400)).nb 5 (λd=>Ad (59<d) (K 0 0 0 0 2 e) (Bx e (s.push (.cells [.str a,.bool false]) (some 400)).nb 8 (λd=>Ad (23<d) (K 0 0 0 0 2 e) (Bx e (s.push (.cells [.str a,.bool false]) (some 400)).nb 9 (λd=>Ad (59<d) (K 0 0 0 0 2 e) (Bx e (s.push (.cells [.str a,.bool false]) (some 400)).nb 3 (λd=>Bx e (s.push (.cells [.str a,.bool false]) (some 400)).nb 4 λf=>Bx e (s.push (.cells [.str a,.bool false]) (some 400)).nb 5 λg=>Bx e (s.push (.cells [.str a,.bool false]) (some 400)).nb 6 λi=>Bx e (s.push (.cells [.str a,.bool false]) (some 400)).nb 8 λj=>Bx e (s.push (.cells [.str a,.bool false]) (some 400)).nb 9 λk=>zLub e (s.push (.cells [.str a,.bool false]) (some 400)).nb 7 λa=>Ad (a=45) (K b c (i64.wrap (i64.wrap (i64.wrap (i64.wrap (i64.wrap (i64.wrap (d*60)+f)*60)+g)*1000000000)+i)) (i64.wrap (0-i64.wrap (i64.wrap (j*60)+k))) 0 e) (K b c (i64.wrap (i64.wrap (i64.wrap (i64.wrap (i64.wrap (i64.wrap (d*60)+f)*60)+g)*1000000000)+i)) (i64.wrap (i64.wrap (j*60)+k)) 0 e))))))))))))))) (Bx c (s.push (.cells [.str a,.bool false]) (some 400)).nb 3 (λd=>Ad (23<d) (K 0 0 0 0 2 c) (Bx c (s.push (.cells [.str a,.bool false]) (some 400)).nb 4 (λd=>Ad (59<d) (K 0 0 0 0 2 c) (Bx c (s.push (.cells [.str a,.bool false]) (some 400)).nb 5 (λd=>Ad (59<d) (K 0 0 0 0 2 c) (Bx c (s.push (.cells [.str a,.bool false]) (some 400)).nb 8 (λd=>Ad (23<d) (K 0 0 0 0 2 c) (Bx c (s.push (.cells [.str a,.bool false]) (some 400)).nb 9 (λd=>Ad (59<d) (K 0 0 0 0 2 c) (Bx c (s.push (.cells [.str a,.bool false]) (some 400)).nb 3 (λd=>Bx c (s.push (.cells [.str a,.bool false]) (some 400)).nb 4 λe=>Bx c (s.push (.cells [.str a,.bool false]) (some 400)).nb 5 λf=>Bx c (s.push (.cells [.str a,.bool false]) (some 400)).nb 6 λg=>Bx c (s.push (.cells [.str a,.bool false]) (some 400)).nb 8 λi=>Bx c (s.push (.cells [.str a,.bool false]) (some 400)).nb 9 λj=>zLub c (s.push (.cells [.str a,.bool false]) (some 400)).nb 7 λa=>Ad (a=45) (K b 0 (i64.wrap (i64.wrap (i64.wrap (i64.wrap (i64.wrap (i64.wrap (d*60)+e)*60)+f)*1000000000)+g)) (i64.wrap (0-i64.wrap (i64.wrap (i*60)+j))) 0 c) (K b 0 (i64.wrap (i64.wrap (i64.wrap (i64.wrap (i64.wrap (i64.wrap (d*60)+e)*60)+f)*1000000000)+g)) (i64.wrap (i64.wrap (i*60)+j)) 0 c))))))))))))))))):zC41 EZ [.str a] s K:=
 tcF ⟨[2,7],[],[],NoE⟩ .none Tryz.call351 Tryz.func351 h
theorem Jg (a:Nat) (s:St) (K:B8->St->Prop) (h:zC32 Aw [.box a 0,ziT 11,ziT 1] s λa b c d e f=>Dk a b c d e (zPl b c (K (b++c) f))):PG B9 [.box a 0] s K:=
 tcF ⟨[3],[],[],NoE⟩ .none Tryz.call352 Tryz.func352 h
theorem Kf (E:TV->St->Prop) (a:Nat) (b:TV) (s:St) (K:B8->Int->B8->B8->TV->B8->St->Prop) (h:Rx E Bf [.box a 0] s λc d e f=>zJn11 (λ(a:B8) (b c:TV) (d:Int) (e f:B8) (g:TV) (i:B8) (j:Int) (k:B8) (l:Int) m=>zJn11 (λ(a b:TV) (c:B8) (d:Int) (e f:B8) (g:TV) (i:B8) (j:Int) (k:B8) (l:Int) m=>zJn11 (λ(a b:TV) (c:B8) (_:Int) (_ _:B8) (_:TV) (_:B8) (_:Int) (d:B8) (_:Int) e=>muK b c (.bool true) e λb=>Ha E Aw [a,ziT 6,ziT (d.length:Int)] b λa b d e f g=>Dk a b d e f (K c a b d e f g)) λn=>AS (DY m b) λ(o:List (B8×TV))=>CG .bool (AD (.bool false) (AG c o)) λ(o:Bool)=>BIf o (FN m a 6 (λo=>BG E Ai [a,ziT o,ziT 8] m λm=>n a b c d e f g i j k l m)) (n a b c d e f g i j k l m)) λn=>Ad (1024<(a.length:Int)) (FN m b 6 (λo=>BG E Ai [b,ziT o,ziT 10] m λm=>n b c a d e f g i j k l m)) (n b c a d e f g i j k l m)) λg=>Ad (c=5) (zX8 E Cg [.str d] f (λf _ i=>g f (.box a 0) b (0:Int) ([]:B8) ([]:B8) .nilSlice ([]:B8) c d e i)) (zJn12 (λ(a:Bool) (b c:TV) (d:B8) (e:Int) (f i:B8) (j:TV) (k:B8) (l:Int) (m:B8) (n:Int) o=>BIf a (FN o b 6 (λa=>BG E Ai [b,ziT a,ziT 3] o λa=>g d b c e f i j k l m n a)) (g d b c e f i j k l m n o)) (λg=>Ad (c≠6) (g true (.box a 0) b d (0:Int) ([]:B8) ([]:B8) .nilSlice ([]:B8) c d e f) (zX0 E Ey [.str d] f (λf i=>g (!f) (.box a 0) b d (0:Int) ([]:B8) ([]:B8) .nilSlice ([]:B8) c d e i))))):zX48 E Ej [.box a 0,b] s K:=
 tcF ⟨[5,6],[],[],E⟩ (zSn (zSn (zSn (.cut ⟨[(7,zS),(0,zV),(1,zV)],[(5,0,0),(6,1,0)],[(0,5),(1,3)],[(0,0,zI6),(0,1,zS),(0,2,zS),(0,3,zV),(0,4,zS),(1,0,zI6),(1,1,zS),(1,2,zI6)]⟩ (.block (zSn (.cond .none (.cut ⟨[(22,zB),(0,zV),(1,zV),(7,zS)],[(5,0,0),(6,1,0)],[(0,5),(1,3)],[(0,0,zI6),(0,1,zS),(0,2,zS),(0,3,zV),(0,4,zS),(1,0,zI6),(1,1,zS),(1,2,zI6)]⟩ .none .none)))) (.cut ⟨[(0,zV),(1,zV),(7,zS)],[(5,0,0),(6,1,0)],[(0,5),(1,3)],[(0,0,zI6),(0,1,zS),(0,2,zS),(0,3,zV),(0,4,zS),(1,0,zI6),(1,1,zS),(1,2,zI6)]⟩ .none (.cut ⟨[(0,zV),(1,zV),(7,zS)],[(5,0,0),(6,1,0)],[(0,5),(1,3)],[(0,0,zI6),(0,1,zS),(0,2,zS),(0,3,zV),(0,4,zS),(1,0,zI6),(1,1,zS),(1,2,zI6)]⟩ .none .none)))))) Tryz.call353 Tryz.func353 h
end Go.TVF
end
section
set_option maxRecDepth 100000
namespace Go.TVF
open Go.IntKind(i64 u8)
open Go Go.Proofs
open Go.IntKind (i64 u8)
theorem MY (a:Int) (s:St) (K:Int->St->Prop) (h:K (i64.wrap (i64.wrap (i64.wrap (i64.wrap (365*i64.wrap (a-1))+i64.wrap (Int.tdiv (i64.wrap (a-1)) (4:Int)))-i64.wrap (Int.tdiv (i64.wrap (a-1)) (100:Int)))+i64.wrap (Int.tdiv (i64.wrap (a-1)) (400:Int)))) s):zC4 FC [ziT a] s K:=
 tcF ⟨[],[],[],NoE⟩ .none Tryz.call366 Tryz.func366 h
theorem MZ (a b:Int) (s:St) (K:Int->St->Prop) (h:zC0 D1 [ziT a] s λc d=>BIf (!c) (K 0 d) (Ad (b<1) (K 0 d) (Ad (12<b) (K 0 d) (Ad (b=2) (zC0 FZ [ziT a] d (λa c=>BIf a (K 29 c) ((0<=i64.wrap (b-1)/\i64.wrap (b-1)<((12:Nat):Int))/\AS ([ziT 31,ziT 28,ziT 31,ziT 30,ziT 31,ziT 30,ziT 31,ziT 31,ziT 30,ziT 31,ziT 30,ziT 31]:List TV)[0+Int.toNat (i64.wrap (b-1))*1+0]? λ(a:TV)=>CG (.int .i64) a λ(a:Int)=>K a c))) ((0<=i64.wrap (b-1)/\i64.wrap (b-1)<((12:Nat):Int))/\AS ([ziT 31,ziT 28,ziT 31,ziT 30,ziT 31,ziT 30,ziT 31,ziT 31,ziT 30,ziT 31,ziT 30,ziT 31]:List TV)[0+Int.toNat (i64.wrap (b-1))*1+0]? λ(a:TV)=>CG (.int .i64) a λ(a:Int)=>K a d))))):zC4 D2 [ziT a,ziT b] s K:=
 tcF ⟨[5],[],[],NoE⟩ .none Tryz.call367 Tryz.func367 h
theorem Lv (a b:B8) (s:St) (K:Bool->St->Prop) (h:Ad ((a.length:Int)<(b.length:Int)) (K false s) (UE (0:Int) a b s (λa b c d e=>Ad (b<(d.length:Int)) (zIx b d (Ad (((List.getD d b.toNat 0).toNat:Int)=48) (zIx b c (Ad (((List.getD c b.toNat 0).toNat:Int)<48) (K false e) (zIx b c (Ad (57<((List.getD c b.toNat 0).toNat:Int)) (K false e) (zIx b d (Ad (((List.getD d b.toNat 0).toNat:Int)≠48) (zIx b c (zIx b d (Ad (((List.getD c b.toNat 0).toNat:Int)≠((List.getD d b.toNat 0).toNat:Int)) (K false e) (a (i64.wrap (b+1)) c d e)))) (a (i64.wrap (b+1)) c d e))))))) (zIx b d (Ad (((List.getD d b.toNat 0).toNat:Int)≠48) (zIx b c (zIx b d (Ad (((List.getD c b.toNat 0).toNat:Int)≠((List.getD d b.toNat 0).toNat:Int)) (K false e) (a (i64.wrap (b+1)) c d e)))) (a (i64.wrap (b+1)) c d e))))) (K true e)))):zC0 Dh [.str a,.str b] s K:=
 tcF ⟨[],[],[],NoE⟩ (zSn (zSn (.seq (zSn (.block (.loop ⟨[(5,zI6),(0,zS),(1,zS)],[],[],[]⟩ .none))) .none))) Tryz.call372 Tryz.func372 h
theorem PU (a:B8) (s:St) (K:Int->St->Prop) (h:S6 (0:Int) a s λa b c d=>Ad (b<(c.length:Int)) (zIx b c (Ad (48<=((List.getD c b.toNat 0).toNat:Int)) (zIx b c (Ad (((List.getD c b.toNat 0).toNat:Int)<=57) (a (i64.wrap (b+1)) c d) (K b d))) (K b d))) (K b d)):zC4 Eo [.str a] s K:=
 tcF ⟨[],[],[],NoE⟩ (zSn (zSn (.seq (.block (.loop ⟨[(3,zI6),(0,zS)],[],[],[]⟩ .none)) .none))) Tryz.call373 Tryz.func373 h
theorem NW (a:Int) (b:Bool) (c:B8) (s:St) (K:Int->St->Prop) (h:Ad ((c.length:Int)<=12) (Jd GF [.str c] s (λc _ d=>BIf b (K (i64.wrap (a-c)) d) (K (i64.wrap (a+c)) d))) (BIf b (K (i64.wrap (a-1099511627776)) s) (K (i64.wrap (a+1099511627776)) s))):zC4 FX [ziT a,.bool b,.str c] s K:=
 tcF ⟨[],[],[],NoE⟩ .none Tryz.call374 Tryz.func374 h
theorem Pj (a:Bool) (b:B8) (c:Int) (s:St) (K:Bool->B8->Int->Int->St->Prop) (h:zLp8 (0:Int) a b c (b.length:Int) false ([]:B8) (0:Int) s λa b c d e f g i j k=>Ad (b<f) (zIx b d (Ad (((List.getD d b.toNat 0).toNat:Int)<48) (K false [] 0 3 k) (zIx b d (Ad (57<((List.getD d b.toNat 0).toNat:Int)) (K false [] 0 3 k) (a (i64.wrap (b+1)) c d e f g i j k))))) (PG EL [.str d,.str YI] k (λa b=>UF GG [.bool c,.str a,ziT e] b K))):UF DI [.bool a,.str b,ziT c] s K:=
 tcF ⟨[6],[],[],NoE⟩ (zSn (.seq (zSn (.block (.loop ⟨[(11,zI6),(0,zB),(1,zS),(2,zI6),(10,zI6)],[(6,0,0)],[(0,3)],[(0,0,zB),(0,1,zS),(0,2,zI6)]⟩ .none))) .none)) Tryz.call376 Tryz.func376 h
theorem J4 (a b:Nat) (s:St) (K:Int->St->Prop) (h:Kc s a 0 λc=>Ad (2<(c.length:Int)) (Kc s a 0 (λc=>zIx 2 c (Ad (((List.getD c (Int.toNat (2:Int)) 0).toNat:Int)=58) (EN Cb [.box a 0,.box b 0] s (λa=>K 2 a)) (EN CU [.box a 0,.box b 0] s (λc=>Kc c a 0 λd=>Ad (d=[]) (K 1 c) (RB AT [.box a 0,.str str62] c (λ_ c=>EN Cb [.box a 0,.box b 0] c λc=>Kc c a 0 λd=>Ad (d=[]) (K 3 c) (EN Cw [.box a 0,.box b 0] c (λa=>K 4 a))))))))) (EN CU [.box a 0,.box b 0] s (λc=>Kc c a 0 λd=>Ad (d=[]) (K 1 c) (RB AT [.box a 0,.str str62] c (λ_ c=>EN Cb [.box a 0,.box b 0] c λc=>Kc c a 0 λd=>Ad (d=[]) (K 3 c) (EN Cw [.box a 0,.box b 0] c (λa=>K 4 a))))))):zC4 DT [.box a 0,.box b 0] s K:=
 tcF ⟨[],[],[],NoE⟩ .none Tryz.call377 Tryz.func377 h
theorem Pk (a b c:Int) (s:St) (K:Int->Int->St->Prop) (h:Ad (c<1) (K 0 2 s) (zC4 D2 [ziT a,ziT b] s (λd e=>Ad (d<c) (K 0 2 e) (zC4 FC [ziT a] e (λd e=>MO (i64.wrap (i64.wrap (d+c)-1)) (1:Int) a b e λa b c d e f=>Ad (c<e) (zC4 D2 [ziT d,ziT c] f (λf g=>a (i64.wrap (b+f)) (i64.wrap (c+1)) d e g)) (K b 0 f)))))):Jd GH [ziT a,ziT b,ziT c] s K:=
 tcF ⟨[],[],[],NoE⟩ (zSn (zSn (zSn (.seq (zSn (.block (.loop ⟨[(8,zI6),(9,zI6),(0,zI6),(1,zI6)],[],[],[]⟩ .none))) .none)))) Tryz.call378 Tryz.func378 h
theorem MX (a:Int) (s:St) (K:Bool->St->Prop) (h:Ad (1<=a) (K (decide (a<=9999)) s) (K false s)):zC0 D1 [ziT a] s K:=
 tcF ⟨[],[],[],NoE⟩ .none Tryz.call382 Tryz.func382 h
theorem N0 (a:Int) (s:St) (K:Bool->St->Prop) (h:zC0 D1 [ziT a] s λb c=>BIf b (Ad (Int.tmod a (4:Int)=0) (Ad (Int.tmod a (100:Int)≠0) (K true c) (K (decide (Int.tmod a (400:Int)=0)) c)) (K false c)) (K false c)):zC0 FZ [ziT a] s K:=
 tcF ⟨[],[],[],NoE⟩ .none Tryz.call383 Tryz.func383 h
theorem Ph (a:B8) (s:St) (K:Int->Int->St->Prop) (h:zC0 E0 [.str a] s λb c=>BIf (!b) (K 0 3 c) (MO (0:Int) (0:Int) a (a.length:Int) c (λa b c d e f=>Ad (c<e) (zIx c d (Ad (i64.wrap (Int.tdiv (i64.wrap (9223372036854775807-i64.wrap (u8.wrap (((List.getD d c.toNat 0).toNat:Int)-48)))) (10:Int))<b) (K 0 2 f) (a (i64.wrap (i64.wrap (b*10)+i64.wrap (u8.wrap (((List.getD d c.toNat 0).toNat:Int)-48)))) (i64.wrap (c+1)) d e f))) (K b 0 f)))):Jd GF [.str a] s K:=
 tcF ⟨[],[],[],NoE⟩ (zSn (zSn (zSn (.seq (zSn (.block (.loop ⟨[(4,zI6),(12,zI6),(0,zS),(11,zI6)],[],[],[]⟩ .none))) .none)))) Tryz.call386 Tryz.func386 h
theorem Pi (a:Bool) (b:B8) (c:Int) (s:St) (K:Bool->B8->Int->Int->St->Prop) (h:Ad (b=[]) (K false [] 0 0 s) (PG Em [.str b,.str YI] s (λd e=>zSd (i64.wrap ((b.length:Int)-i64.wrap ((b.length:Int)-(d.length:Int)))) b (Ad (i64.wrap (400-i64.wrap ((b.length:Int)-(d.length:Int)))<c) (K false [] 0 2 e) (Ad (c<i64.wrap ((-400:Int)-i64.wrap ((b.length:Int)-(d.length:Int)))) (K false [] 0 2 e) (Ad (120<((List.take (Int.toNat (i64.wrap ((b.length:Int)-i64.wrap ((b.length:Int)-(d.length:Int))))) b).length:Int)) (K false [] 0 2 e) (K a (List.take (Int.toNat (i64.wrap ((b.length:Int)-i64.wrap ((b.length:Int)-(d.length:Int))))) b) (i64.wrap (c+i64.wrap ((b.length:Int)-(d.length:Int)))) 0 e))))))):UF GG [.bool a,.str b,ziT c] s K:=
 tcF ⟨[6],[],[],NoE⟩ .none Tryz.call390 Tryz.func390 h
theorem Jh (a b:Nat) (s:St) (K:St->Prop) (h:zC4 AB [.box a 0,ziT 2] s λc d=>Gw d b 3 c λc=>RB AT [.box a 0,.str YG] c λ_ c=>zC4 AB [.box a 0,ziT 2] c λc d=>Gw d b 4 c λc=>RB AT [.box a 0,.str YG] c λ_ c=>zC4 AB [.box a 0,ziT 2] c λc d=>Gw d b 5 c λc=>Kc c a 0 λd=>Ad (d≠ []) (Kc c a 0 (λd=>zIx 0 d (Ad (((List.getD d (Int.toNat (0:Int)) 0).toNat:Int)=46) (Kc c a 0 (λd=>zSd 1 d (zSsb c a 0 (List.drop (Int.toNat (1:Int)) d) (λc=>zC4 CY [.box a 0] c λa c=>Gw c b 6 a K)))) (K c)))) (K c)):EN Cb [.box a 0,.box b 0] s K:=
 tcF ⟨[],[],[],NoE⟩ .none Tryz.call391 Tryz.func391 h
theorem J5 (a b:Nat) (s:St) (K:St->Prop) (h:zC4 AB [.box a 0,ziT 4] s λc d=>Gw d b 0 c λc=>RB AT [.box a 0,.str YH] c λ_ c=>zC4 AB [.box a 0,ziT 2] c λc d=>Gw d b 1 c λc=>RB AT [.box a 0,.str YH] c λ_ c=>zC4 AB [.box a 0,ziT 2] c λa c=>Gw c b 2 a K):EN CU [.box a 0,.box b 0] s K:=
 tcF ⟨[],[],[],NoE⟩ .none Tryz.call392 Tryz.func392 h
theorem Km (a:Nat) (b:B8) (s:St) (K:Int->St->Prop) (h:Kc s a 0 λc=>Ad (c≠ []) (MO (0:Int) (TV.box a 0) b (b.length:Int) s (λa b c d e f=>Ad (b<e) (MN f c 0 (λg=>zIx 0 g (zIx b d (Ad (((List.getD g (Int.toNat (0:Int)) 0).toNat:Int)=((List.getD d b.toNat 0).toNat:Int)) (MN f c 0 (λa=>zSd 1 a (zSsp f c 0 (List.drop (Int.toNat (1:Int)) a) (λa=>zIx b d (K ((List.getD d b.toNat 0).toNat:Int) a))))) (a (i64.wrap (b+1)) c d e f))))) (NP f c 1 true (λa=>K 0 a)))) (zSbb s a 1 true (λa=>K 0 a))):RB AT [.box a 0,.str b] s K:=
 tcF ⟨[],[],[],NoE⟩ (zSn (.seq (zSn (.cond (zSn (.block (.loop ⟨[(13,zI6),(0,zV),(1,zS),(12,zI6)],[],[],[]⟩ .none))) .none)) .none)) Tryz.call393 Tryz.func393 h
theorem IN (a b:Nat) (s:St) (K:St->Prop) (h:RB AT [.box a 0,.str str63] s λc d=>D9 d b 7 (.int .u8 c) λc=>zLub c b 7 λd=>Ad (d=43) (zC4 AB [.box a 0,ziT 2] c (λc d=>Gw d b 8 c λc=>RB AT [.box a 0,.str YG] c λ_ c=>zC4 AB [.box a 0,ziT 2] c λa c=>Gw c b 9 a K)) (zLub c b 7 (λd=>Ad (d=45) (zC4 AB [.box a 0,ziT 2] c (λc d=>Gw d b 8 c λc=>RB AT [.box a 0,.str YG] c λ_ c=>zC4 AB [.box a 0,ziT 2] c λa c=>Gw c b 9 a K)) (K c)))):EN Cw [.box a 0,.box b 0] s K:=
 tcF ⟨[],[],[],NoE⟩ .none Tryz.call394 Tryz.func394 h
theorem IO (a:Nat) (b:Int) (s:St) (K:Int->St->Prop) (h:Kc s a 0 λc=>Ad ((c.length:Int)<b) (zSbb s a 1 true (λa=>K 0 a)) (WR (0:Int) (0:Int) (TV.box a 0) b b s (λa b c d e f g=>Ad (c<f) (MN g d 0 (λi=>zIx c i (Ad (((List.getD i c.toNat 0).toNat:Int)<48) (NP g d 1 true (λa=>K 0 a)) (MN g d 0 (λi=>zIx c i (Ad (57<((List.getD i c.toNat 0).toNat:Int)) (NP g d 1 true (λa=>K 0 a)) (MN g d 0 (λi=>zIx c i (a (i64.wrap (i64.wrap (10*b)+i64.wrap (u8.wrap (((List.getD i c.toNat 0).toNat:Int)-48)))) (i64.wrap (c+1)) d e f g))))))))) (MN g d 0 (λa=>zSd e a (zSsp g d 0 (List.drop e.toNat a) (λa=>K b a))))))):zC4 AB [.box a 0,ziT b] s K:=
 tcF ⟨[],[],[],NoE⟩ (zSn (zSn (zSn (.seq (zSn (.block (.loop ⟨[(5,zI6),(18,zI6),(0,zV),(1,zI6),(17,zI6)],[],[],[]⟩ .none))) .none)))) Tryz.call397 Tryz.func397 h
theorem HK (a:Nat) (s:St) (K:Int->St->Prop) (h:UE (0:Int) (0:Int) (TV.box a 0) s λa b c d e=>MN e d 0 λf=>Ad (c<(f.length:Int)) (MN e d 0 (λf=>zIx c f (Ad (48<=((List.getD f c.toNat 0).toNat:Int)) (MN e d 0 (λf=>zIx c f (Ad (((List.getD f c.toNat 0).toNat:Int)<=57) (Ad (c<9) (MN e d 0 (λf=>zIx c f (a (i64.wrap (i64.wrap (10*b)+i64.wrap (u8.wrap (((List.getD f c.toNat 0).toNat:Int)-48)))) (i64.wrap (c+1)) d e))) (a b (i64.wrap (c+1)) d e)) (Ad (c<1) (NP e d 1 true (λa=>K 0 a)) (Ad (9<c) (NP e d 1 true (λa=>K 0 a)) (MN e d 0 (λa=>zSd c a (zSsp e d 0 (List.drop c.toNat a) (λa=>S6 b c a λa b c d=>Ad (c<9) (a (i64.wrap (b*10)) (i64.wrap (c+1)) d) (K b d)))))))))) (Ad (c<1) (NP e d 1 true (λa=>K 0 a)) (Ad (9<c) (NP e d 1 true (λa=>K 0 a)) (MN e d 0 (λa=>zSd c a (zSsp e d 0 (List.drop c.toNat a) (λa=>S6 b c a λa b c d=>Ad (c<9) (a (i64.wrap (b*10)) (i64.wrap (c+1)) d) (K b d)))))))))) (Ad (c<1) (NP e d 1 true (λa=>K 0 a)) (Ad (9<c) (NP e d 1 true (λa=>K 0 a)) (MN e d 0 (λa=>zSd c a (zSsp e d 0 (List.drop c.toNat a) (λa=>S6 b c a λa b c d=>Ad (c<9) (a (i64.wrap (b*10)) (i64.wrap (c+1)) d) (K b d)))))))):zC4 CY [.box a 0] s K:=
 tcF ⟨[],[],[],NoE⟩ (zSn (zSn (.seq (.block (.loop ⟨[(3,zI6),(4,zI6),(0,zV)],[],[],[]⟩ .none)) (zSn (zSn (.seq (.block (.loop ⟨[(3,zI6),(4,zI6)],[],[],[]⟩ .none)) .none)))))) Tryz.call398 Tryz.func398 h
end Go.TVF
end
section
set_option maxRecDepth 100000
namespace Go.TVF
open Go.IntKind(i64 u8)
open Go Go.Proofs
open Go.IntKind (i64 u8)
theorem PT (s:St) (K:Int->Int->Int->Int->Int->St->Prop) (h:K 48 65536 1048576 1024 65536 s):zC3 Hy [] s K:=
 tcF ⟨[0],[],[],NoE⟩ .none Tryz.call17 Tryz.func17 h
theorem J6 (s:St) (K:Int->Int->Int->Int->Int->St->Prop) (h:zC3 DV [] s K):zC3 DU [] s K:=
 tcF ⟨[0],[],[],NoE⟩ .none Tryz.call38 Tryz.func38 h
theorem J7 (s:St) (K:Int->Int->Int->Int->Int->St->Prop) (h:K 48 65536 1048576 1024 65536 s):zC3 DV [] s K:=
 tcF ⟨[0],[],[],NoE⟩ .none Tryz.call95 Tryz.func95 h
theorem PS (a b c d e:Int) (s:St) (K:Bool->St->Prop) (h:Ad (1<=a) (Ad (a<=48) (Ad (1<=b) (Ad (b<=65536) (Ad (1<=c) (Ad (c<=1048576) (Ad (0<=d) (Ad (d<=1024) (Ad (0<=e) (K (decide (e<=65536)) s) (K false s)) (K false s)) (K false s)) (K false s)) (K false s)) (K false s)) (K false s)) (K false s)) (K false s)):zC0 Hx [Rw a b c d e] s K:=
 tcF ⟨[1],[],[],NoE⟩ .none Tryz.call96 Tryz.func96 h
end Go.TVF
end
namespace Go.TVF
open Go.IntKind(i64 u8)
open Go Go.Proofs
section
structure Sc where
 kind:Int
 b:Bool
 neg:Bool
 dg:B8
 ex:Int
 tk:Int
 td:Int
 tn:Int
 tz:Int
 text:B8
 bytes:B8
mutual
inductive Vl where
 | mk (s:Sc) (l:List Vl) (f:List Fd)
inductive Fd where
 | mk (k:B8) (v:Vl)
end
def Vl.sc:Vl->Sc | .mk s _ _=>s
def Vl.list:Vl->List Vl | .mk _ l _=>l
def Vl.flds:Vl->List Fd | .mk _ _ f=>f
def Fd.key:Fd->B8 | .mk k _=>k
def Fd.val:Fd->Vl | .mk _ v=>v
def SlR (st:St) (sz:Nat) (v:TV) (n:Nat) (xs:List TV):Prop:=
 Rd sz v n xs∨∃b off cap l,v= .ms sz b off n cap/\b<st.nb/\st.box b= .cells l/\off+cap*sz<=l.length/\n<=cap/\xs=(l.drop off).take (n*sz)
theorem SlR.of_rd {st:St} {sz n:Nat} {v:TV} {xs:List TV} (h:Rd sz v n xs):SlR st sz v n xs:= .inl h
def CH (st st':St):Prop:=st.nb<=st'.nb/\∀b,b<st.nb->st'.box b=st.box b
theorem SlR.keep {st st':St} (k:CH st st') {sz n:Nat} {v:TV} {xs:List TV} (h:SlR st sz v n xs):SlR st' sz v n xs:=by
 rcases h with h | ⟨b,off,cap,l,h1,h2,h3,h4,h5,h6⟩
 ·exact .inl h
 ·exact .inr ⟨b,off,cap,l,h1,Nat.lt_of_lt_of_le h2 k.1,(k.2 b h2).trans h3,h4,h5,h6⟩
mutual
def VlR (st:St):Vl->List TV->Prop
 | .mk s l f,cs=>∃ub ul uf xl xf,cs=[.int .i64 s.kind,.bool s.b,.bool s.neg,.str s.dg,.int .i64 s.ex,.int .i64 s.tk,.int .i64 s.td,.int .i64 s.tn,.int .i64 s.tz,.str s.text,ub,ul,uf]/\
   SlR st 1 ub s.bytes.length (AV s.bytes)/\SlR st 13 ul l.length xl/\VsR st l xl/\SlR st 14 uf f.length xf/\FsR st f xf
def VsR (st:St):List Vl->List TV->Prop
 | [],xs=>xs=[]
 | v::r,xs=>∃a b,xs=a++b/\VlR st v a/\VsR st r b
def FdR (st:St):Fd->List TV->Prop
 | .mk k v,xs=>∃cs,xs= .str k::cs/\VlR st v cs
def FsR (st:St):List Fd->List TV->Prop
 | [],xs=>xs=[]
 | d::r,xs=>∃a b,xs=a++b/\FdR st d a/\FsR st r b
end
mutual
theorem VlR.keep {st st':St} (k:CH st st'):∀{v:Vl} {cs:List TV},VlR st v cs->VlR st' v cs
 | .mk s l f,cs,h=>by
  unfold VlR at h⊢;obtain⟨ub,ul,uf,xl,xf,h0,h1,h2,h3,h4,h5⟩:=h;exact⟨ub,ul,uf,xl,xf,h0,h1.keep k,h2.keep k,VsR.keep k h3,h4.keep k,FsR.keep k h5⟩
theorem VsR.keep {st st':St} (k:CH st st'):∀{l:List Vl} {cs:List TV},VsR st l cs->VsR st' l cs
 | [],cs,h=>by unfold VsR at h⊢;exact h
 | v::r,cs,h=>by
  unfold VsR at h⊢;obtain⟨a,b,h0,h1,h2⟩:=h;exact⟨a,b,h0,VlR.keep k h1,VsR.keep k h2⟩
theorem FdR.keep {st st':St} (k:CH st st'):∀{d:Fd} {cs:List TV},FdR st d cs->FdR st' d cs
 | .mk key v,cs,h=>by
  unfold FdR at h⊢;obtain⟨c,h0,h1⟩:=h;exact⟨c,h0,VlR.keep k h1⟩
theorem FsR.keep {st st':St} (k:CH st st'):∀{l:List Fd} {cs:List TV},FsR st l cs->FsR st' l cs
 | [],cs,h=>by unfold FsR at h⊢;exact h
 | d::r,cs,h=>by
  unfold FsR at h⊢;obtain⟨a,b,h0,h1,h2⟩:=h;exact⟨a,b,h0,FdR.keep k h1,FsR.keep k h2⟩
end
theorem VlR.len {st:St} {v:Vl} {cs:List TV} (h:VlR st v cs):cs.length=13:=by
 cases v;obtain⟨ub,ul,uf,xl,xf,rfl,_⟩:=h;rfl
theorem FdR.len {st:St} {v:Fd} {cs:List TV} (h:FdR st v cs):cs.length=14:=by
 cases v;grind [FdR,VlR.len]
theorem VsR.len {st:St}:∀{l:List Vl} {xs:List TV},VsR st l xs->xs.length=l.length*13
 | [],xs,h=>by grind [VsR]
 | v::r,xs,h=>by
  obtain⟨a,b,rfl,h1,h2⟩:=h;rw[List.length_append,h1.len,VsR.len h2,List.length_cons];omega
theorem FsR.len {st:St}:∀{l:List Fd} {xs:List TV},FsR st l xs->xs.length=l.length*14
 | [],xs,h=>by grind [FsR]
 | v::r,xs,h=>by
  obtain⟨a,b,rfl,h1,h2⟩:=h;rw[List.length_append,h1.len,FsR.len h2,List.length_cons];omega
theorem VsR.get {st:St}:∀{l:List Vl} {xs:List TV} {i:Nat} {v:Vl},VsR st l xs->l[i]? =some v->∃cs,VlR st v cs/\(xs.drop (i*13)).take 13=cs/\cs.length=13
 | [],xs,i,v,h,hi=>by simp at hi
 | w::r,xs,i,v,h,hi=>by
  obtain⟨a,b,rfl,h1,h2⟩:=h;cases i with
  | zero=>
   simp at hi;subst hi;refine⟨a,h1,?_,h1.len⟩;rw[Nat.zero_mul,List.drop_zero,<-h1.len,List.take_left]
  | succ i=>
   obtain⟨cs,h3,h4,h5⟩:=VsR.get h2 (by simpa using hi);refine⟨cs,h3,?_,h5⟩;rw[show(i+1)*13=a.length+i*13 by rw[h1.len];omega,List.drop_append];simp;rw[List.drop_of_length_le (by omega),List.nil_append];exact h4
theorem FsR.get {st:St}:∀{l:List Fd} {xs:List TV} {i:Nat} {v:Fd},FsR st l xs->l[i]? =some v->∃cs,FdR st v cs/\(xs.drop (i*14)).take 14=cs/\cs.length=14
 | [],xs,i,v,h,hi=>by simp at hi
 | w::r,xs,i,v,h,hi=>by
  obtain⟨a,b,rfl,h1,h2⟩:=h;cases i with
  | zero=>
   simp at hi;subst hi;refine⟨a,h1,?_,h1.len⟩;rw[Nat.zero_mul,List.drop_zero,<-h1.len,List.take_left]
  | succ i=>
   obtain⟨cs,h3,h4,h5⟩:=FsR.get h2 (by simpa using hi);refine⟨cs,h3,?_,h5⟩;rw[show(i+1)*14=a.length+i*14 by rw[h1.len];omega,List.drop_append];simp;rw[List.drop_of_length_le (by omega),List.nil_append];exact h4
mutual
def Vl.cnt:Vl->Nat
 | .mk _ l f=>1+AH l+AX f
def AH:List Vl->Nat
 | []=>0
 | v::r=>v.cnt+AH r
def Fd.cnt:Fd->Nat
 | .mk _ v=>v.cnt
def AX:List Fd->Nat
 | []=>0
 | d::r=>d.cnt+AX r
end
end
structure StX (S:Nat->Prop) (a b:St):Prop where
 nb:a.nb<=b.nb
 box:∀i,i<a.nb->¬S i->b.box i=a.box i
 nt:a.nt<=b.nt
 live:∀i,i<a.nt->b.live i=a.live i
 ty:∀i,i<a.nt->b.ty i=a.ty i
 bt:∀i,i<a.nb->b.bt i=a.bt i
theorem StX.refl (S:Nat->Prop) (a:St):StX S a a:=⟨Nat.le_refl _,λ_ _ _=>rfl,Nat.le_refl _,λ_ _=>rfl,λ_ _=>rfl,λ_ _=>rfl⟩
theorem StX.trans {S:Nat->Prop} {a b c:St} (h:StX S a b) (k:StX S b c):StX S a c:=
 ⟨Nat.le_trans h.nb k.nb,λi hi hs=>(k.box i (Nat.lt_of_lt_of_le hi h.nb) hs).trans (h.box i hi hs),Nat.le_trans h.nt k.nt,λi hi=>(k.live i (Nat.lt_of_lt_of_le hi h.nt)).trans (h.live i hi),λi hi=>(k.ty i (Nat.lt_of_lt_of_le hi h.nt)).trans (h.ty i hi),λi hi=>(k.bt i (Nat.lt_of_lt_of_le hi h.nb)).trans (h.bt i hi)⟩
theorem StX.mono {S T:Nat->Prop} {a b:St} (h:StX S a b) (k:∀i,S i->T i):StX T a b:=
 ⟨h.nb,λi hi hs=>h.box i hi λg=>hs (k i g),h.nt,h.live,h.ty,h.bt⟩
theorem StX.of {S:Nat->Prop} {a b:St} (h:Ag a b):StX S a b:=⟨h.nb,λi hi _=>h.box i hi,h.nt,h.live,h.ty,h.bt⟩
theorem StX.ext {S:Nat->Prop} {a b c:St} (h:Ag a b) (k:StX S b c) (hs:∀i,S i->a.nb<=i):Ag a c:=
 ⟨Nat.le_trans h.nb k.nb,λi hi=>(k.box i (Nat.lt_of_lt_of_le hi h.nb) λg=>absurd (hs i g) (by omega)).trans (h.box i hi),Nat.le_trans h.nt k.nt,λi hi=>(k.live i (Nat.lt_of_lt_of_le hi h.nt)).trans (h.live i hi),λi hi=>(k.ty i (Nat.lt_of_lt_of_le hi h.nt)).trans (h.ty i hi),λi hi=>(k.bt i (Nat.lt_of_lt_of_le hi h.nb)).trans (h.bt i hi)⟩
theorem StX.put {S:Nat->Prop} {a:St} {i:Nat} (hi:S i) (o:JQ):StX S a (a.put i o):=
 ⟨Nat.le_refl _,λj hj hs=>by simp only[St.put];rw[if_neg (by rintro rfl;exact hs hi)],Nat.le_refl _,λ_ _=>rfl,λ_ _=>rfl,λ_ _=>rfl⟩
theorem decA14 {k:B8} {n1:Int} {b1 b2:Bool} {s2:B8} {n2 n3 n4 n5 n6:Int} {s3:B8} {u1 u2 u3:TV} {f:Fun [.str,.int .i64,.bool,.bool,.str,.int .i64,.int .i64,.int .i64,.int .i64,.int .i64,.str,.tv,.tv,.tv] Prop} (h:f k n1 b1 b2 s2 n2 n3 n4 n5 n6 s3 u1 u2 u3):
  R4 [.str,.int .i64,.bool,.bool,.str,.int .i64,.int .i64,.int .i64,.int .i64,.int .i64,.str,.tv,.tv,.tv] (.agg [.str k,.int .i64 n1,.bool b1,.bool b2,.str s2,.int .i64 n2,.int .i64 n3,.int .i64 n4,.int .i64 n5,.int .i64 n6,.str s3,u1,u2,u3]) f:=h
theorem Mp:∀(ys A c B:List TV),ys.length=c.length->setAll (A++c++B) A.length ys=A++ys++B
 | [],A,c,B,h=>by
  have:c=[]:=List.eq_nil_of_length_eq_zero (by simpa using h.symm);subst this;rfl
 | y::ys,A,[],B,h=>by simp at h
 | y::ys,A,x::c,B,h=>by
  rw[setAll];have e:(A++x::c++B).set A.length y=(A++[y])++c++B:=by simp
  rw[e];have:=Mp ys (A++[y]) c B (by simpa using h);rw[List.length_append]at this;rw[show A.length+1=A.length+ [y].length from rfl,this];simp
theorem Np {st:St} {b:Nat} {B:List TV}:∀(c:List TV) (l:List TV) (j o:Nat),st.box b= .cells l->l.drop (o+j)=c++B->AE st [] (.t (.box b o)) j c.length=some c
 | [],l,j,o,h,hd=>rfl
 | x::c,l,j,o,h,hd=>by
  have hx:l[o+j]? =some x:=by
   have:=congrArg (λz:List TV=>z[0]?) hd;simpa using this
  have hd2:l.drop (o+(j+1))=c++B:=by
   have:=congrArg (λz:List TV=>z.drop 1) hd;simpa [List.drop_drop,Nat.add_assoc]using this
  show(match Af st [] (.t (.box b o)) j with | some x=>(AE st [] (.t (.box b o)) (j+1) c.length).map (x::·) | none=>none)=_
  have:Af st [] (.t (.box b o)) j=some x:=by simp only[Af,h];exact hx
  rw[this];simp only;rw[Np c l (j+1) o h hd2];rfl
theorem Ec {g:Ak} {w:World} {l:B8} {v:Value} (h:Rel g w (.str l) v):v= .string ⟨l.toArray⟩:=by cases h;rfl
theorem Vj {g:Ak} {w:World} {k:IntKind} {n:Int} {v:Value} (h:Rel g w (.int k n) v):v= .int k n:=by cases h;rfl
theorem Vk {g:Ak} {w:World} {x:TV} {vs:List Value} (h:AP g w [x] vs):∃v,vs=[v]/\Rel g w x v:=by
 obtain⟨v,h1,h2⟩:=h.get? (i:=0) rfl;have:=h.1;cases vs with
 | nil=>simp at this
 | cons a r=>cases r with
  | nil=>simp at h1;subst h1;exact⟨_,rfl,h2⟩
  | cons b r=>simp at this
theorem Qm {g:Ak} {w:World} {x y:TV} {vs:List Value} (h:AP g w [x,y] vs):∃v u,vs=[v,u]/\Rel g w x v/\Rel g w y u:=by
 obtain⟨v,h1,h2⟩:=h.get? (i:=0) rfl;obtain⟨u,h3,h4⟩:=h.get? (i:=1) rfl;have:=h.1;cases vs with
 | nil=>simp at this
 | cons a r=>cases r with
  | nil=>simp at this
  | cons b r=>cases r with
   | nil=>simp at h1 h3;subst h1 h3;exact⟨_,_,rfl,h2,h4⟩
   | cons c r=>simp at this
section
inductive WO {α β:Type} (R:α->β->Prop):List α->List β->Prop
 | nil:WO R [] []
 | cons {a:α} {b:β} {l:List α} {m:List β}:R a b->WO R l m->WO R (a::l) (b::m)
theorem FsR.chunks {st:St}:∀{f:List Fd} {xs:List TV},FsR st f xs->∃cks:List (List TV),xs=cks.flatten/\WO (FdR st) f cks
 | [],xs,h=>by unfold FsR at h;subst h;exact⟨[],rfl,.nil⟩
 | d::r,xs,h=>by
  unfold FsR at h;obtain⟨a,b,rfl,h1,h2⟩:=h;obtain⟨cks,rfl,h3⟩:=FsR.chunks h2;exact⟨a::cks,by simp,.cons h1 h3⟩
theorem FsR.of_chunks {st:St} {f:List Fd} {cks:List (List TV)} (h:WO (FdR st) f cks):FsR st f cks.flatten:=by
 induction h with
 | nil=>unfold FsR;rfl
 | cons r _ ih=>unfold FsR;exact⟨_,_,by simp,r,ih⟩
theorem SlR.one {st:St} {sz n:Nat} {u:TV} {xs:List TV} (h:SlR st sz u n xs):Av u=true:=by
 rcases h with(⟨rfl,_⟩ | ⟨tip,rfl⟩) | ⟨b,off,cap,l,rfl,_⟩<;>rfl
theorem SlR.src {st:St} {sz n:Nat} {u:TV} {xs:List TV} (h:SlR st sz u n xs) (hl:xs.length=n*sz):DW st sz u=some (n,xs):=by
 rcases h with(⟨rfl,rfl,rfl⟩ | ⟨tip,rfl⟩) | ⟨b,off,cap,l,rfl,h2,h3,h4,h5,rfl⟩
 ·rfl
 ·simp[DW]
 ·have hlt:n*sz<=cap*sz:=Nat.mul_le_mul_right _ h5
  have e:=Np (B:=l.drop (off+n*sz)) (st:=st) (b:=b) ((l.drop off).take (n*sz)) l 0 off h3 (by
   rw[Nat.add_zero,<-List.drop_drop,List.take_append_drop])
  rw[show((l.drop off).take (n*sz)).length=n*sz by simp;omega]at e;simp only[DW,Nat.beq_refl];rw[e]
theorem Ag.keeps {a b:St} (h:Ag a b):CH a b:=⟨h.nb,h.box⟩
section
variable {st:St}
end
end
end Go.TVF
