/- What the laws below rest on: a framework for Go programs, and contracts of the functions that they reach. -/
import Derived.Test.YtagglahlkknacaaGreatDoorDjB
import Derived.Deep.Slices
import Derived.WideShapes
import Derived.ChangeArms
import Derived.OpenShut
import Derived.Test.YtagglahlkknacaaGreatDoorProg
import Derived.KernelRfl
set_option maxRecDepth 20000
set_option linter.unusedVariables false
set_option linter.unusedSimpArgs false
section
namespace Go.TVF
open Go.IntKind(i64 u8)
open Go.RowKit (Below)
theorem Mh {P:Program} {Q:Exit->Act->World->Prop} {a:Act} {w:World} {c:Code} (I:Nat->Act->World->Prop) (h₀:∃m,I m a w)
  (round:∀m a w,I m a w->c.wp P (Exit.then (fun a' w'=>∃m',m'<m/\I m' a' w') Q) a w):(Code.loop c).wp P Q a w:=by
 intro b k cs
 have key:∀m a w,I m a w->∃e a' w',Q e a' w'/\Arrives P (lone (b.at a (.code c:: .inLoop c::k)) cs w) b k cs e a' w':=by
  intro m
  induction m using Nat.strongRecOn with
  | _ m ih=>
   intro a w hI
   obtain⟨e,a₁,w₁,hq,harr⟩:=round m a w hI b (.inLoop c::k) cs
   cases e with
   | normal=>
    obtain⟨m',hlt,hI₁⟩:=hq
    obtain⟨e₂,a₂,w₂,hq₂,harr₂⟩:=ih m' hlt a₁ w₁ hI₁
    exact⟨e₂,a₂,w₂,hq₂,.of_steps (Steps.trans harr (.one step_inLoop)) harr₂⟩
   | exit id=>exact⟨_,a₁,w₁,hq,.pass (x:= .inLoop c) rfl (fun _ _=> .inl (by simp)) harr⟩
   | goto l=>exact⟨_,a₁,w₁,hq,.pass (x:= .inLoop c) rfl (fun _ _=> .inl (by simp)) harr⟩
   | ret=>exact⟨_,a₁,w₁,hq,.pass (x:= .inLoop c) rfl (fun _ _=> .inl (by simp)) harr⟩
   | panic ch=>exact⟨_,a₁,w₁,hq,.pass (x:= .inLoop c) rfl (fun _ _=> .inl (by simp)) harr⟩
   | outgrown=>exact⟨_,a₁,w₁,hq,.pass (x:= .inLoop c) rfl (fun _ _=> .inl (by simp)) harr⟩
 obtain⟨m,hm⟩:=h₀
 obtain⟨e,a',w',hq,harr⟩:=key m a w hm
 exact⟨e,a',w',hq,.of_steps (.one step_loop) harr⟩
theorem Kv:∀{cs:List CTy} {vs:List TV} {I:Fun cs (St->Prop)} {M:Fun cs (St->Nat)} {B:List TV->Nat->St->Prop} {st:St},AllC cs I M B->GJ cs vs I (fun p=>p st)->∃m,B vs m st
 | [],[],I,M,B,st,h,hd=>⟨_,h st hd⟩
 | [],_::_,I,M,B,st,h,hd=>hd.elim
 | _::_,[],I,M,B,st,h,hd=>hd.elim
 | c::cs,v::vs,I,M,B,st,h,hd=>by
  obtain⟨y,rfl,hd2⟩:=Cw hd
  exact Kv (B:=fun l=>B (enc c y::l)) (h y) hd2
theorem Lo:∀{cs:List CTy} {vs:List TV} {I:Fun cs (St->Prop)} {M:Fun cs (St->Nat)} {B:List TV->Nat->St->Prop} {st:St} {m:Nat},AllC cs I M B->Nh cs vs I M (fun p q=>p st/\q st<m)->∃m',m'<m/\B vs m' st
 | [],[],I,M,B,st,m,h,hd=>⟨_,hd.2,h st hd.1⟩
 | [],_::_,I,M,B,st,m,h,hd=>hd.elim
 | _::_,[],I,M,B,st,m,h,hd=>hd.elim
 | c::cs,v::vs,I,M,B,st,m,h,hd=>by
  obtain⟨y,rfl,hd2⟩:=Cw hd
  exact Lo (B:=fun l=>B (enc c y::l)) (h y) hd2
theorem Ja:∀{cs:List CTy} {vs:List TV} {I:Fun cs (St->Prop)} {B:List TV->St->Prop} {st:St},R5 cs I B->GJ cs vs I (fun p=>p st)->B vs st
 | [],[],I,B,st,h,hd=>h st hd
 | [],_::_,I,B,st,h,hd=>hd.elim
 | _::_,[],I,B,st,h,hd=>hd.elim
 | c::cs,v::vs,I,B,st,h,hd=>by
  obtain⟨y,rfl,hd2⟩:=Cw hd
  exact Ja (B:=fun l=>B (enc c y::l)) (h y) hd2
def QPost (g:Ghost) (w:World) (a0:Act) (Q:Exit->Fr->St->Prop) (e:Exit) (a:Act) (w':World):Prop:=GL g w a0 (Q e) a w'
section
variable {P:Program} {cfg:Cfg} {ns nl:Nat}
theorem Qc (hm:P.follows .mixedOrders=true):∀(c:Code) (h:Gb) (Q:Exit->Fr->St->Prop) (fr:Fr) (st:St) (g:Ghost) (w:World) (a:Act),cwp cfg P ns nl c h Q fr st->Sim g st fr.loc w->D4 g w fr a.tmps->a.tmps.size=ns->
  c.wp P (QPost g w a Q) a w:=by
 intro c
 induction c with
 | skip=>intro h Q fr st g w a hc s hf hn;exact wp_skip ⟨fr,st,g,hc,s,hf,Ext.refl _ _,rfl,rfl⟩
 | region id ops draw=>
  intro h Q fr st g w a hc s hf hn
  cases draw with
  | false=>exact wp_region_list (IV ops.toList fr st g w a hc s hf fun a' w' hp=>hp)
  | true=>exact LT hm hc s hf fun a' w' hp=>hp
 | seq x y ihx ihy=>
  intro h Q fr st g w a hc s hf hn
  have key:∀(hx hy:Gb),cwp cfg P ns nl x hx (Mr (cwp cfg P ns nl y hy Q) Q) fr st->(Code.seq x y).wp P (QPost g w a Q) a w:=by
   intro hx hy hcx
   refine wp_seq (wp_mono (ihx hx _ fr st g w a hcx s hf hn) fun e a' w' hq=>?_)
   obtain⟨fr',st',g',h1,h2,h3,h4,h5⟩:=hq
   cases e with
   | normal=>
    refine wp_mono (ihy hy Q fr' st' g' w' a' h1 h2 h3 (h5.2.trans hn)) fun e a'' w'' hq2=>?_
    exact hq2.ext h4 h5
   | _=>exact⟨fr',st',g',h1,h2,h3,h4,h5⟩
  cases h with
  | cut k hx hy=>
   obtain⟨R,h1,h2⟩:=hc
   refine wp_seq (wp_mono (ihx hx _ fr st g w a h1 s hf hn) fun e a' w' hq=>?_)
   obtain⟨fr',st',g',q1,q2,q3,q4,q5⟩:=hq
   cases e with
   | normal=>
    have q1':need (k.ok nl fr') (GJ k.tys (k.vals fr') R fun p=>p st'):=q1
    rw[Ag]at q1'
    obtain⟨w1,w2⟩:=Dl.weak (ns:=ns) q1'.1 q2 q3 (q5.2.trans hn)
    have hb:=Ja h2 q1'.2
    exact wp_mono (ihy hy Q _ st' g' w' a' hb w1 w2 (q5.2.trans hn)) fun e a'' w'' hq2=>hq2.ext q4 q5
   | _=>exact⟨fr',st',g',q1,q2,q3,q4,q5⟩
  | none=>exact key _ _ hc
  | seq p q=>exact key _ _ hc
  | cond p q=>exact key _ _ hc
  | block p=>exact key _ _ hc
  | loop k p=>exact key _ _ hc
 | cond c x y ihx ihy=>
  intro h Q fr st g w a hc s hf hn
  simp only[cwp]at hc
  split at hc
  ·rename_i b hb
   have hr:=LD hf c
   rw[hb]at hr
   have hr':Rel g w (.bool b) (a.eval c):=hr
   have hev:a.eval c= .bool b:=by generalize a.eval c=q at hr';cases hr';rfl
   cases b with
   | true=>exact wp_cond_true hev (ihx h.l Q fr st g w a hc s hf hn)
   | false=>exact wp_cond_false hev (ihy h.r Q fr st g w a hc s hf hn)
  ·exact hc.elim
 | block id x ih=>
  intro h Q fr st g w a hc s hf hn
  refine wp_block (wp_mono (ih h.l (OD id Q) fr st g w a hc s hf hn) fun e a' w' hq=>?_)
  obtain⟨fr',st',g',h1,h2,h3,h4,h5⟩:=hq
  cases e with
  | exit id'=>
   simp only[OD]at h1
   by_cases hid:id'=id
   ·subst hid
    have hbe:(id'.beq id')=true:=Nat.beq_refl id'
    simp only[hbe]at h1
    simp only[Exit.inBlock,if_true]
    exact⟨fr',st',g',h1,h2,h3,h4,h5⟩
   ·have hbe:(id'.beq id)=false:=by
     cases hq:id'.beq id with
     | false=>rfl
     | true=>exact absurd (Nat.eq_of_beq_eq_true hq) hid
    simp only[hbe]at h1
    simp only[Exit.inBlock,hid,if_false]
    exact⟨fr',st',g',h1,h2,h3,h4,h5⟩
  | _=>exact⟨fr',st',g',h1,h2,h3,h4,h5⟩
 | loop x ih=>
  intro h Q fr st g w a hc s hf hn
  cases h with
  | loop k hx=>
   obtain⟨I,M,h1,h2⟩:=hc
   rw[Ag]at h1
   refine Mh (fun m a' w'=>∃vals st' g',cwp cfg P ns nl x hx (Mr (fun fr st=>need (k.ok nl fr) (Nh k.tys (k.vals fr) I M fun p q=>p st/\q st<m)) Q) (k.frame ns nl vals) st'/\
    Sim g' st' (k.frame ns nl vals).loc w'/\D4 g' w' (k.frame ns nl vals) a'.tmps/\Ext g w g' w'/\a'.defers=a.defers/\a'.tmps.size=a.tmps.size) ?_ ?_
   ·obtain⟨m,hm⟩:=Kv h2 h1.2
    obtain⟨w1,w2⟩:=Dl.weak (ns:=ns) h1.1 s hf hn
    exact⟨m,_,st,g,hm,w1,w2,Ext.refl _ _,rfl,rfl⟩
   ·rintro m a' w' ⟨vals,st',g',q1,q2,q3,q4,q5⟩
    refine wp_mono (ih hx _ _ st' g' w' a' q1 q2 q3 (q5.2.trans hn)) fun e a'' w'' hq=>?_
    obtain⟨fr2,st2,g2,r1,r2,r3,r4,r5⟩:=hq
    cases e with
    | normal=>
     have r1':need (k.ok nl fr2) (Nh k.tys (k.vals fr2) I M fun p q=>p st2/\q st2<m):=r1
     rw[Ag]at r1'
     obtain⟨m',hlt,hB⟩:=Lo h2 r1'.2
     obtain⟨w1,w2⟩:=Dl.weak (ns:=ns) r1'.1 r2 r3 (r5.2.trans (q5.2.trans hn))
     exact⟨m',hlt,_,st2,g2,hB,w1,w2,q4.trans r4,r5.1.trans q5.1,r5.2.trans q5.2⟩
    | _=>exact⟨fr2,st2,g2,r1,r2,r3,q4.trans r4,r5.1.trans q5.1,r5.2.trans q5.2⟩
  | _=>exact hc.elim
 | exit id=>intro h Q fr st g w a hc s hf hn;exact wp_exit ⟨fr,st,g,hc,s,hf,Ext.refl _ _,rfl,rfl⟩
 | ret=>intro h Q fr st g w a hc s hf hn;exact wp_ret ⟨fr,st,g,hc,s,hf,Ext.refl _ _,rfl,rfl⟩
 | _=>intro h Q fr st g w a hc s hf hn;exact hc.elim
def Iw (P:Program) (fr:Fr) (st:St):ResultVar->Option TV
 | .tmp t=>some (Iq fr t)
 | .cell a t=>match Hd P t with
  | some true=>match P.cellsOf t with
   | 0=>none
   | n=>(Am st fr.loc (fr.slots.f a) 0 n).map .agg
  | some false=>Af st fr.loc (fr.slots.f a) 0
  | none=>none
def FW (P:Program) (fr:Fr) (st:St):List ResultVar->Option (List TV)
 | []=>some []
 | r::rs=>match Iw P fr st r with
  | some v=>(FW P fr st rs).map (v::·)
  | none=>none
def ND:List TV->TV
 | [v]=>v
 | vs=> .tuple vs
def resT (P:Program) (fn:Func) (fr:Fr) (st:St):Option TV:=(FW P fr st fn.results.toList).map ND
def LG (P:Program) (fr:Fr) (st:St) (r:ResultVar) (k:TV->Prop):Prop:=
 match r with
 | .tmp t=>k (Iq fr t)
 | .cell a t=>match Hd P t with
  | some true=>match P.cellsOf t with
   | 0=>False
   | n=>Ao ((Am st fr.loc (fr.slots.f a) 0 n).map .agg) k
  | some false=>Ao (Af st fr.loc (fr.slots.f a) 0) k
  | none=>False
def HI (P:Program) (fr:Fr) (st:St):List ResultVar->(List TV->Prop)->Prop
 | [],k=>k []
 | r::rs,k=>LG P fr st r fun v=>HI P fr st rs fun vs=>k (v::vs)
theorem Ky {P:Program} {fr:Fr} {st:St} {r:ResultVar} {k:TV->Prop} (h:LG P fr st r k):∃v,Iw P fr st r=some v/\k v:=by
 cases r with
 | tmp t=>exact⟨_,rfl,h⟩
 | cell a t=>
  unfold LG at h
  unfold Iw
  simp only at h⊢
  cases ha:Hd P t with
  | none=>rw[ha]at h;exact h.elim
  | some b=>
   rw[ha]at h
   cases b with
   | true=>
    simp only at h⊢
    cases hn:P.cellsOf t with
    | zero=>rw[hn]at h;exact h.elim
    | succ n=>
     rw[hn]at h
     exact Cl.1 h
   | false=>exact Cl.1 h
theorem GA {P:Program} {fr:Fr} {st:St}:∀{rs:List ResultVar} {k:List TV->Prop},HI P fr st rs k->∃vs,FW P fr st rs=some vs/\k vs
 | [],k,h=>⟨[],rfl,h⟩
 | r::rs,k,h=>by
  obtain⟨v,h1,h2⟩:=Ky h
  obtain⟨vs,h3,h4⟩:=GA h2
  exact⟨v::vs,by simp[FW,h1,h3],h4⟩
def retQ (P:Program) (fn:Func) (R:TV->St->Prop):Exit->Fr->St->Prop
 | .normal,fr,st=>HI P fr st fn.results.toList fun vs=>R (ND vs) st
 | .ret,fr,st=>HI P fr st fn.results.toList fun vs=>R (ND vs) st
 | _,_,_=>False
def EY (cfg:Cfg) (fn:Func) (args:List TV):Fr:=⟨⟨fn.ntmps,fun i=>match args[i]? with | some v=> .t v | none=> .t .undef⟩,cfg.loc.map fun _=>none⟩
theorem LF {g:Ghost} {st:St} {w:World} {fr:Fr} {tmps:Array Value} (s:Sim g st fr.loc w) (hf:D4 g w fr tmps) {r:ResultVar} {v:TV} (h:Iw P fr st r=some v):
  ∃u,(match r with | .tmp t=>pure (tmps.getD t Go.undef) | .cell a t=>do loadVar t (<-asAddr (tmps.getD a Go.undef)):Sem Value).run P w= .ok u w/\Rel g w v u:=by
 cases r with
 | tmp t=>
  simp only[Iw,Option.some.injEq]at h
  subst h
  exact⟨_,rfl,(hf.2 t).tv⟩
 | cell a t=>
  simp only[Iw]at h
  have hld:∀p,AW g w fr.loc p (tmps.getD a Go.undef)->(CE P st fr.loc t p).Is (.t v)->∃u,(do loadVar t (<-asAddr (tmps.getD a Go.undef)):Sem Value).run P w= .ok u w/\Rel g w v u:=by
   intro p hp hl
   have hl':=hl
   obtain⟨u,hu,hr⟩:=J4 (P:=P) s hp hl'
   have hsa:(Instr.loadAt t (tmps.getD a Go.undef)).run P w=(do loadVar t (<-asAddr (tmps.getD a Go.undef)):Sem Value).run P w:=by
    generalize hq:tmps.getD a Go.undef=q at hp hu
    simp only[Instr.loadAt,Sem.run_bind]
    cases q with
    | pointer o=>cases o with
     | none=>simp[Instr.loadAt,Instr.sureAddr]at hu
     | some ad=>simp[Instr.sureAddr,asAddr]
    | _=>simp[Instr.loadAt,Instr.sureAddr]at hu
   exact⟨u,by rw[<-hsa];exact hu,hr⟩
  split at h
  ·rename_i ha
   split at h
   ·cases h
   ·rename_i n hn
    refine hld _ (hf.2 a) ?_
    unfold CE
    rw[ha]
    exact⟨v,by
     split
     ·rename_i h0;exact absurd h0 hn
     ·exact h,rfl⟩
  ·rename_i ha
   refine hld _ (hf.2 a) ?_
   unfold CE
   rw[ha]
   exact⟨v,h,rfl⟩
  ·cases h
theorem HH {g:Ghost} {st:St} {w:World} {fr:Fr} {tmps:Array Value} (s:Sim g st fr.loc w) (hf:D4 g w fr tmps):∀{rs:List ResultVar} {vs:List TV},FW P fr st rs=some vs->
  ∃us:List Value,(rs.mapM (fun r=>match r with | .tmp t=>pure (tmps.getD t Go.undef) | .cell a t=>do loadVar t (<-asAddr (tmps.getD a Go.undef))):Sem (List Value)).run P w= .ok us w/\Ax g w vs us
 | [],vs,h=>by simp only[FW,Option.some.injEq]at h;subst h;exact⟨[],rfl,.nil _ _⟩
 | r::rs,vs,h=>by
  simp only[FW]at h
  split at h
  ·rename_i v hv
   obtain⟨vs',hvs',rfl⟩:=Option.map_eq_some_iff.1 h
   obtain⟨u,hu,hr⟩:=LF s hf hv
   obtain⟨us,hus,hrs⟩:=HH s hf hvs'
   refine⟨u::us,?_,.cons hr hrs⟩
   rw[List.mapM_cons]
   simp only[Sem.run_bind,hu,Result.andThen_ok,hus,Sem.run_pure]
  ·cases h
theorem NN {g:Ghost} {st:St} {w:World} {fr:Fr} {tmps:Array Value} (s:Sim g st fr.loc w) (hf:D4 g w fr tmps) {fn:Func} {v:TV} (h:resT P fn fr st=some v):∃u,(results fn tmps).run P w= .ok u w/\Rel g w v u:=by
 unfold resT at h
 cases hr:FW P fr st fn.results.toList with
 | none=>rw[hr]at h;cases h
 | some vs=>
  rw[hr]at h
  obtain⟨us,hus,hrel⟩:=HH s hf hr
  have hrun:(fn.results.mapM (fun r=>match r with | .tmp t=>pure (tmps.getD t Go.undef) | .cell a t=>do loadVar t (<-asAddr (tmps.getD a Go.undef))):Sem (Array Value)).run P w= .ok us.toArray w:=by
   rw[<-Array.toArray_toList (xs:=fn.results),List.mapM_toArray]
   simp only[Sem.run_map,hus,Result.andThen_ok]
  refine⟨if h:us.toArray.size=1 then us.toArray[0]else .tuple us.toArray,?_,?_⟩
  ·have hres:results fn tmps=(do
     let vs<-(fn.results.mapM (fun r=>match r with | .tmp t=>pure (tmps.getD t Go.undef) | .cell a t=>do loadVar t (<-asAddr (tmps.getD a Go.undef))):Sem (Array Value))
     pure (if h:vs.size=1 then vs[0]else .tuple vs)):=rfl
   rw[hres,Sem.run_bind,hrun]
   rfl
  ·cases vs with
   | nil=>
    simp only[Option.map_some,Option.some.injEq,ND]at h;subst h
    have:us=[]:=List.eq_nil_of_length_eq_zero hrel.1.symm
    subst this
    exact Rel.tuple [] [] rfl (fun i hi=>absurd hi (Nat.not_lt_zero _))
   | cons v1 vs1=>cases vs1 with
    | nil=>
     simp only[Option.map_some,Option.some.injEq,ND]at h;subst h
     cases us with
     | nil=>have:=hrel.1;simp at this
     | cons u1 us1=>
      have:us1=[]:=List.eq_nil_of_length_eq_zero (by have:=hrel.1;simpa using this.symm)
      subst this
      simpa using hrel.2 0 (by simp)
    | cons v2 vs2=>
     simp only[Option.map_some,Option.some.injEq,ND]at h;subst h
     have hl:us.toArray.size≠1:=by have:=hrel.1;simp at this⊢;omega
     rw[dif_neg hl]
     exact Rel.tuple _ us hrel.1 hrel.2
theorem PB (hm:P.follows .mixedOrders=true) {f:FuncId} {fn:Func} {c:Code} (hcall:∀(vs:Array Value) (w:World),(callFunc f vs).run P w= .ok (.enter f vs) w) (hf:P.funcs[f]? =some fn) (hb:fn.body=some c)
  (cfg:Cfg) (h:Gb) {args:List TV} {st:St} {R:TV->St->Prop} (hn:args.length<=fn.ntmps)
  (hc:cwp cfg P fn.ntmps cfg.loc.length c h (retQ P fn R) (EY cfg fn args) st):D2 P f args st R:=by
 refine B5 hcall fun g w vargs s hr=>?_
 refine calls_of_wp hf hb ?_
 have hlen:vargs.length=args.length:=hr.1.symm
 have hsize:(vargs.toArray++Array.replicate (fn.ntmps-vargs.toArray.size) Go.undef).size=fn.ntmps:=by simp;omega
 have hsim:Sim g st (EY cfg fn args).loc w:=s.weakLoc fun j x' hx'=>by
  simp only[EY,List.getElem?_map]at hx'
  cases hq:cfg.loc[j]? with
  | none=>rw[hq]at hx';cases hx'
  | some q=>rw[hq]at hx';simp at hx'
 have hfr:D4 g w (EY cfg fn args) (vargs.toArray++Array.replicate (fn.ntmps-vargs.toArray.size) Go.undef):=by
  refine⟨by rw[hsize];rfl,fun i=>?_⟩
  by_cases hia:i<args.length
  ·have h1:(EY cfg fn args).slots.f i= .t args[i]:=by simp[EY,hia]
   have h2:(vargs.toArray++Array.replicate (fn.ntmps-vargs.toArray.size) Go.undef).getD i Go.undef=vargs.getD i Go.undef:=by
    have:i<vargs.length:=by omega
    have hin:i<fn.ntmps:=by omega
    simp[Array.getD,Array.getElem_append,this,hin,List.getD_eq_getElem?_getD]
    omega
   rw[h1,h2]
   exact hr.2 i hia
  ·have h1:(EY cfg fn args).slots.f i= .t .undef:=by simp[EY,hia]
   have h2:(vargs.toArray++Array.replicate (fn.ntmps-vargs.toArray.size) Go.undef).getD i Go.undef=Go.undef:=by
    have:¬i<vargs.length:=by omega
    simp[Array.getD,Array.getElem_append,this]
   rw[h1,h2]
   exact Rel.undef
 refine wp_mono (Qc hm c h _ _ st g w {tmps:=vargs.toArray++Array.replicate (fn.ntmps-vargs.toArray.size) Go.undef,defers:=[]} hc hsim hfr hsize) fun e a' w' hq=>?_
 obtain⟨fr',st',g',h1,h2,h3,h4,h5,h6⟩:=hq
 have fin:HI P fr' st' fn.results.toList (fun vs=>R (ND vs) st')->a'.defers=[]/\∃v,(results fn a'.tmps).run P w'= .ok v w'/\∃v',Ending.returned v= .returned v'/\∃r st' g',R r st'/\Sim g' st' [] w'/\Rel g' w' r v'/\Ext g w g' w':=by
  intro ho
  obtain⟨vs,hvs,hR⟩:=GA ho
  obtain⟨u,hu,hrel⟩:=NN (fn:=fn) h2 h3 (by unfold resT;rw[hvs];rfl)
  exact⟨h5,u,hu,u,rfl,_,st',g',hR,h2.dropLoc (fun j x hx=>by simp at hx),hrel,h4⟩
 cases e with
 | normal=>exact fin h1
 | ret=>exact fin h1
 | _=>exact h1.elim
def St.zero:St:={nb:=0,box:=fun _=> .dead,nt:=0,live:=fun _=>false,ty:=fun _=>none,bt:=fun _=>none}
def Ghost.start (w:World):Ghost:={base:=w.heap.size,w0:=w,nb:=0,bk:=fun _=>0,lam:=fun _=>0,nt:=0,sp:=fun _=>none,S:=fun a=>a.spot=none/\∃v,w.cell? a=some v,prot:=fun _=>False}
theorem Sim.start (w:World) (hG:∀w',Below w.heap.size w w'->Mb w'):Sim (Ghost.start w) St.zero [] w:=by
 have hd:∀k,¬Dom St.zero [] k:=by
  intro k d
  cases k with
  | box i=>exact absurd d (Nat.not_lt_zero _)
  | loc i=>obtain⟨x,hx⟩:=d;simp at hx
 exact⟨rfl,rfl,Below.refl _ _,Nat.le_refl _,fun k d=>absurd d (hd k),fun k k' d=>absurd d (hd k),fun k d=>absurd d (hd k),fun id h=>absurd h (Nat.not_lt_zero _),
  fun id b l h hh=>(by cases hh),fun i j b l h l' h' _ hh=>(by cases hh),fun id _=>rfl,fun a ha=>⟨ha.1,ha.2,fun k d=>absurd d (hd k),fun id l h hh=>(by cases hh)⟩,fun b hb=>hb.elim,fun id b l h hh=>(by cases hh),fun id b l h T hh=>(by cases hh),fun b T hb=>absurd hb (Nat.not_lt_zero _),hG⟩
theorem Oy {f:FuncId} {args:List TV} (hcall:∀(vs:Array Value) (w:World),(callFunc f vs).run P w= .ok (.enter f vs) w) (h:D2 P f args St.zero fun r _=>r= .bool true) (w:World) (hG:∀w',Below w.heap.size w w'->Mb w') (vargs:List Value) (hr:Ax (Ghost.start w) w args vargs):
  Calls P f vargs.toArray w fun e w'=>e= .returned (.bool true)/\Below w.heap.size w w':=by
 have h1:=h.run (Ghost.start w) w vargs (Sim.start w hG) hr
 unfold B4 at h1
 rw[hcall]at h1
 refine Calls.mono h1 ?_
 rintro e w' ⟨v,rfl,r,st',g',rfl,s',hrel,e'⟩
 have hb:=s'.below
 rw[e'.base,e'.w0]at hb
 cases hrel
 exact⟨rfl,hb⟩
end
def OC (fn:Func):Code:=match fn.body with | some c=>c | none=> .skip
def Fw (cfg:Cfg) (P:Program) (h:Gb) (fn:Func) (args:List TV) (st:St) (R:TV->St->Prop):Prop:=
 cwp cfg P fn.ntmps cfg.loc.length (OC fn) h (retQ P fn R) (EY cfg fn args) st
def fits (fn:Func) (args:List TV):Bool:=(fn.body.isSome).and (args.length.ble fn.ntmps)
theorem Ad {P:Program} (hm:P.follows .mixedOrders=true) {f:FuncId} {fn:Func} (hcall:∀(vs:Array Value) (w:World),(callFunc f vs).run P w= .ok (.enter f vs) w) (hf:P.funcs[f]? =some fn)
  {cfg:Cfg} {h:Gb} {args:List TV} {st:St} {R:TV->St->Prop} (hn:fits fn args=true) {V:Prop} (he:Fw cfg P h fn args st R=V) (hV:V):D2 P f args st R:=by
 simp only[fits,Bool.and_eq_true]at hn
 obtain⟨c,hc⟩:=Option.isSome_iff_exists.1 hn.1
 have hb:fn.body=some (OC fn):=by rw[OC,hc]
 rw[<-he]at hV
 exact PB hm hcall hf hb cfg h (Nat.le_of_ble_eq_true hn.2) hV
def LV (cs:List CTy) (v:TV) (f:Fun cs Prop):Prop:=
 match v with
 | .agg l=>decL cs l f
 | _=>False
def stB (st:St) (p:TV) (xs:List TV) (k:St->Prop):Prop:=
 match p with
 | .box b off=>∃l,st.box b= .cells l/\off+xs.length<=l.length/\k (st.put b (.cells (setAll l off xs)))
 | _=>False
theorem Aa {p:Prop} [Decidable p] {x y:Prop} (h1:p->x) (h2:¬p->y):BIf (decide p) x y:=by
 by_cases h:p
 ·simp only[h,decide_true,BIf];exact h1 h
 ·simp only[h,decide_false,BIf];exact h2 h
theorem Al {b:Bool} {x y:Prop} (h1:b=true->x) (h2:b=false->y):BIf b x y:=by
 cases b
 ·exact h2 rfl
 ·exact h1 rfl
end Go.TVF
end
section
namespace Go.TVF
open Go.IntKind(i64 u8)
structure Ah (a b:St):Prop where
 nb:a.nb<=b.nb
 box:∀i,i<a.nb->b.box i=a.box i
 nt:a.nt<=b.nt
 live:∀i,i<a.nt->b.live i=a.live i
 ty:∀i,i<a.nt->b.ty i=a.ty i
 bt:∀i,i<a.nb->b.bt i=a.bt i
theorem Ah.refl (a:St):Ah a a:=⟨Nat.le_refl _,fun _ _=>rfl,Nat.le_refl _,fun _ _=>rfl,fun _ _=>rfl,fun _ _=>rfl⟩
theorem Ah.trans {a b c:St} (h:Ah a b) (k:Ah b c):Ah a c:=
 ⟨Nat.le_trans h.nb k.nb,fun i hi=>(k.box i (Nat.lt_of_lt_of_le hi h.nb)).trans (h.box i hi),Nat.le_trans h.nt k.nt,fun i hi=>(k.live i (Nat.lt_of_lt_of_le hi h.nt)).trans (h.live i hi),fun i hi=>(k.ty i (Nat.lt_of_lt_of_le hi h.nt)).trans (h.ty i hi),fun i hi=>(k.bt i (Nat.lt_of_lt_of_le hi h.nb)).trans (h.bt i hi)⟩
theorem Ah.fresh {a b:St} (h:Ah a b) (T:Option Nat):Ah a (b.fresh T):=
 h.trans ⟨Nat.le_refl _,fun _ _=>rfl,Nat.le_succ _,fun i hi=>by simp only[St.fresh];rw[if_neg (by omega)],fun i hi=>by simp only[St.fresh];rw[if_neg (by omega)],fun _ _=>rfl⟩
theorem Ah.push {a b:St} (h:Ah a b) (o:Hf) (T:Option Nat):Ah a (b.push o T):=
 h.trans ⟨Nat.le_succ _,fun i hi=>by simp only[St.push];rw[if_neg (by omega)],Nat.le_refl _,fun _ _=>rfl,fun _ _=>rfl,fun i hi=>by simp only[St.push];rw[if_neg (by omega)]⟩
theorem Ah.retire {a b:St} (h:Ah a b) {id:Nat} (hid:a.nt<=id):Ah a (b.retire id):=
 ⟨h.nb,h.box,h.nt,fun i hi=>by simp only[St.retire];rw[if_neg (by omega)];exact h.live i hi,h.ty,h.bt⟩
theorem Ah.put {a b:St} (h:Ah a b) {i:Nat} (hi:a.nb<=i) (o:Hf):Ah a (b.put i o):=
 ⟨h.nb,fun j hj=>by simp only[St.put];rw[if_neg (by omega)];exact h.box j hj,h.nt,h.live,h.ty,h.bt⟩
theorem Cn (l:B8):(Aq l).length=l.length:=by simp[Aq]
theorem B2:∀l:B8,DN (Aq l)=some l
 | []=>rfl
 | c::l=>by
  have:=B2 l
  simp only[Aq]at this
  simp[Aq,DN,CO,OE,this]
theorem NW (l:B8):(Aq l).all BQ=true:=by simp[Aq,CO,BQ]
theorem GK (a b:B8):Aq a++Aq b=Aq (a++b):=by simp[Aq]
def Rd (sz:Nat) (v:TV) (n:Nat) (xs:List TV):Prop:=
 (v= .nilSlice/\n=0/\xs=[])∨∃tip,v= .list sz tip n xs
def RdB (v:TV) (l:B8):Prop:=Rd 1 v l.length (Aq l)
def Own (b sz:Nat) (st:St) (v:TV) (n:Nat) (xs:List TV):Prop:=
 (v= .nilSlice/\n=0/\xs=[])∨∃tip,v= .list sz tip n xs/\(tip= .full∨∃id,tip= .own id/\b<=id/\id<st.nt/\st.live id=true)
def H5 (b:Nat) (st:St) (v:TV) (l:B8):Prop:=Own b 1 st v l.length (Aq l)
theorem Own.rd {b sz:Nat} {st:St} {v:TV} {n:Nat} {xs:List TV} (h:Own b sz st v n xs):Rd sz v n xs:=by
 rcases h with h | ⟨tip,h,_⟩
 ·exact .inl h
 ·exact .inr ⟨tip,h⟩
theorem H5.rd {b:Nat} {st:St} {v:TV} {l:B8} (h:H5 b st v l):RdB v l:=Own.rd h
theorem Own.ext {b sz:Nat} {st st':St} {v:TV} {n:Nat} {xs:List TV} (h:Own b sz st v n xs) (e:Ah st st'):Own b sz st' v n xs:=by
 rcases h with h | ⟨tip,h,ht | ⟨id,h1,h2,h3,h4⟩⟩
 ·exact .inl h
 ·exact .inr ⟨tip,h,.inl ht⟩
 ·exact .inr ⟨tip,h,.inr ⟨id,h1,h2,Nat.lt_of_lt_of_le h3 e.nt,(e.live id h3).trans h4⟩⟩
theorem Own.nil (b sz:Nat) (st:St):Own b sz st .nilSlice 0 []:= .inl ⟨rfl,rfl,rfl⟩
theorem H5.nil (b:Nat) (st:St):H5 b st .nilSlice []:=Own.nil b 1 st
theorem Own.full (b sz:Nat) (st:St) (n:Nat) (xs:List TV):Own b sz st (.list sz .full n xs) n xs:= .inr ⟨_,rfl,.inl rfl⟩
theorem Own.fresh {b sz:Nat} {st:St} {T:Option Nat} (n:Nat) (xs:List TV) (hb:b<=st.nt):Own b sz (st.fresh T) (.list sz (.own st.nt) n xs) n xs:=
 .inr ⟨_,rfl,.inr ⟨st.nt,rfl,hb,Nat.lt_succ_self _,by simp[St.fresh]⟩⟩
theorem Rd.isSl {sz:Nat} {v:TV} {n:Nat} {xs:List TV} (h:Rd sz v n xs):TVF.isSl v=true:=by
 rcases h with⟨rfl,_⟩ | ⟨tip,rfl⟩<;>rfl
theorem Rd.lenS {sz:Nat} {v:TV} {n:Nat} {xs:List TV} (h:Rd sz v n xs):TVF.lenS v=n:=by
 rcases h with⟨rfl,rfl,_⟩ | ⟨tip,rfl⟩<;>rfl
theorem Rd.lenZ {sz:Nat} {v:TV} {n:Nat} {xs:List TV} (h:Rd sz v n xs):TVF.lenZ sz v=n:=by
 rcases h with⟨rfl,rfl,_⟩ | ⟨tip,rfl⟩
 ·rfl
 ·simp[TVF.lenZ]
theorem Rd.ldf {sz:Nat} {v:TV} {n:Nat} {xs:List TV} (h:Rd sz v n xs) (st:St) (i f:Nat) (hi:i*sz+f<xs.length):Af st [] (.t (AX (ixT sz v i) f)) 0=some xs[i*sz+f]:=by
 rcases h with⟨rfl,rfl,rfl⟩ | ⟨tip,rfl⟩
 ·simp at hi
 ·simp[Af,ixT,AX,hi]
theorem RdB.toBytes {v:TV} {l:B8} (h:RdB v l) (st:St):TVF.toBytes st v=some l:=by
 rcases h with⟨rfl,h1,h2⟩ | ⟨tip,rfl⟩
 ·have:l=[]:=List.eq_nil_of_length_eq_zero h1
  subst this;rfl
 ·simp[TVF.toBytes,B2]
theorem H4 {T b sz bytes:Nat} {st0 st:St} {v:TV} {n k:Nat} {xs ys:List TV} {K:TV->St->Prop} (e:Ah st0 st) (hb:b=st0.nt) (h:Own b sz st v n xs) (hby:(n+k)*bytes<=140737488355328) (hys:k=0->ys=[])
  (hK:∀v' st',Ah st0 st'->st'.box=st.box->Own b sz st' v' (n+k) (xs++ys)->K v' st'):Bp T sz bytes v k ys st K:=by
 subst hb
 rcases h with⟨rfl,rfl,rfl⟩ | ⟨tip,rfl,ht⟩
 ·simp only[Bp]
  cases k with
  | zero=>rw[hys rfl]at hK;exact hK _ _ e rfl (.nil _ _ _)
  | succ m=>
   simp only[Ag]
   refine⟨by simpa using hby,hK _ _ (e.fresh _) rfl ?_⟩
   simp only[List.nil_append,Nat.zero_add]
   exact Own.fresh _ _ e.nt
 ·simp only[Bp,Nat.beq_refl]
  refine⟨hby,?_⟩
  rcases ht with rfl | ⟨id,rfl,h1,h2,h3⟩
  ·cases k with
   | zero=>rw[hys rfl]at hK;simp only[List.append_nil]at hK;exact hK _ _ e rfl (Own.full _ _ _ _ _)
   | succ m=>exact hK _ _ (e.fresh _) rfl (Own.fresh _ _ e.nt)
  ·exact⟨h3,hK _ _ ((e.retire h1).fresh _) rfl (Own.fresh (st:=st.retire id) _ _ e.nt)⟩
theorem OF {T:Nat} {st0 st:St} {v:TV} {l ys:B8} {K:TV->St->Prop} (e:Ah st0 st) (h:H5 st0.nt st v l) (hby:l.length+ys.length<=140737488355328)
  (hK:∀v' st',Ah st0 st'->st'.box=st.box->H5 st0.nt st' v' (l++ys)->K v' st'):Bp T 1 1 v ys.length (Aq ys) st K:=
 H4 e rfl h (by omega) (fun h0=>by rw[List.eq_nil_of_length_eq_zero h0];rfl) fun v' st' h1 h2 h3=>hK v' st' h1 h2 (by
  unfold H5
  rw[List.length_append,<-GK];exact h3)
theorem Ac {b:Bool} {k:Prop} (h:b=true) (hk:k):need b k:=Ag.2 ⟨h,hk⟩
theorem Ab {α:Type} {o:Option α} {x:α} {k:α->Prop} (h:o=some x) (hk:k x):Ao o k:=by rw[h];exact hk
theorem Ae (x:Int) (h1: -9223372036854775808<=x) (h2:x<=9223372036854775807):IntKind.wrap .i64 x=x:=by
 unfold IntKind.wrap
 simp only[IntKind.signed,IntKind.bits]
 simp
 omega
theorem H7 (x:Int) (h1:0<=x) (h2:x<=255):IntKind.wrap .u8 x=x:=by
 unfold IntKind.wrap
 simp only[IntKind.signed,IntKind.bits]
 simp
 omega
end Go.TVF
end
section
namespace Go.TVF
open Go.IntKind(i64 u8)
open Go.RowKit (Below)
theorem RR {r:TV} {st':St} (h:Er [.one .bool] r (fun (b:Bool) (_:St)=>b=true) (fun p=>p st')):r= .bool true:=by
 cases r<;>simp only[Er,D0,Ar]at h<;>first | exact h.elim | skip
 subst h;rfl
theorem calls_law {P:Program} {f:FuncId} {args:List TV} (hcall:∀(vs:Array Value) (w:World),(callFunc f vs).run P w= .ok (.enter f vs) w) (h:CallT P f args [.one .bool] St.zero (fun r _=>r=true)) (w:World) (hG:∀w',Below w.heap.size w w'->Mb w') (vargs:List Value) (hr:Ax (Ghost.start w) w args vargs):
  Calls P f vargs.toArray w fun e w'=>e= .returned (.bool true)/\Below w.heap.size w w':=
 Oy hcall (D2.mono h fun r st' hd=>RR hd) w hG vargs hr
theorem JS (g:Ghost) (w:World) (s:ByteArray):Rel g w (.str s.data.toList) (.string s):=by
 have:=Rel.str (g:=g) (w:=w) s.data.toList
 simpa using this
def J9:List CTy->List TV->Prop
 | [],xs=>xs=[]
 | .int k::cs,xs=>∃n ys,xs= .int k n::ys/\(Lit.int k n).wf=true/\J9 cs ys
 | .str::cs,xs=>∃l ys,xs= .str l::ys/\l.length<=maxLen/\J9 cs ys
 | .bool::cs,xs=>∃b ys,xs= .bool b::ys/\J9 cs ys
 | .tv::_,_=>False
def R4 (P:Program):CTy->TypeId->Prop
 | .int k,t=>P.underlying t=some (.int k)
 | .bool,t=>P.underlying t=some .bool
 | .str,t=>P.underlying t=some .string
 | .tv,_=>False
section
variable {H:Type} {enc:TypeId×Value->H} {P:Program} {w:World} {base:Nat} {sp:Nat->Bool} {held:Bool}
theorem PO {c:CTy} {t:TypeId} {fuel:Nat} {cs:List Value} {x:DataW H×List MemPlace} (g:Ghost) (hc:R4 P c t) (h:DataW.trod enc P w base sp held fuel t cs=some x):
  ∃v u,cs=[u]/\Rel g w v u/\J9 [c] [v]:=by
 cases c with
 | int k=>
  obtain⟨n,rfl,_,hw⟩:=DataW.trod_int hc h
  exact⟨_,_,rfl,.int k n,n,[],rfl,hw,rfl⟩
 | bool=>
  obtain⟨b,rfl,_⟩:=DataW.trod_bool hc h
  exact⟨_,_,rfl,.bool b,b,[],rfl,rfl⟩
 | str=>
  obtain⟨s,rfl,_,hs⟩:=DataW.trod_string hc h
  exact⟨_,_,rfl,JS g w s,_,[],rfl,by rw[Array.length_toList];exact hs,rfl⟩
 | tv=>exact hc.elim
theorem OI (b off i:Nat):(⟨b,off,none⟩:Addr).add i=⟨b,off+i,none⟩:=by
 unfold Addr.add;split
 ·rename_i h;subst h;rfl
 ·rfl
end
end Go.TVF
end
namespace Go.TVF
open Go.IntKind(i64 u8)
open Go Go.Proofs
theorem mixed:Tryz.prog.follows .mixedOrders=true:=by kernel_rfl
noncomputable def PR:Program:=Tryz.prog
abbrev V13(X:Type):=Int->Bool->Bool->B8->Int->Int->Int->Int->Int->B8->TV->TV->TV->X
abbrev sV:RTy:=.agg [.int .i64,.bool,.bool,.str,.int .i64,.int .i64,.int .i64,.int .i64,.int .i64,.str,.tv,.tv,.tv]
abbrev cV(a:Int)(b c:Bool)(d:B8)(e f g h i:Int)(j:B8)(k l m:TV):List TV:=[.int .i64 a,.bool b,.bool c,.str d,.int .i64 e,.int .i64 f,.int .i64 g,.int .i64 h,.int .i64 i,.str j,k,l,m]
abbrev BId(p:Prop)[Decidable p](a b:Prop):Prop:=BIf (decide p) a b
def fn_datakitlaw24_TablelexBack:Nat:=11
def A0:Nat:=18
def AD:Nat:=27
def Cv:Nat:=28
def BN:Nat:=30
def C8:Nat:=31
def Bh:Nat:=38
def BB:Nat:=42
def B7:Nat:=43
def Bu:Nat:=63
def A7:Nat:=64
def Ca:Nat:=65
def Cs:Nat:=66
def Dv:Nat:=71
def DX:Nat:=72
def CH:Nat:=73
def Bn:Nat:=83
def Cr:Nat:=87
def A6:Nat:=88
def A5:Nat:=89
def BY:Nat:=107
def AC:Nat:=109
def Dq:Nat:=111
def AU:Nat:=112
def AB:Nat:=113
def BX:Nat:=114
def C9:Nat:=115
def Cg:Nat:=116
def BF:Nat:=117
def BI:Nat:=118
def Dw:Nat:=119
def Da:Nat:=131
def CI:Nat:=132
def B9:Nat:=133
def Dr:Nat:=134
def AV:Nat:=135
def AP:Nat:=136
def BW:Nat:=137
def AH:Nat:=138
def BK:Nat:=141
def Br:Nat:=158
def AG:Nat:=167
def Az:Nat:=168
def BH:Nat:=169
def Bd:Nat:=204
def BO:Nat:=205
def B6:Nat:=206
def Cf:Nat:=207
def CG:Nat:=208
def BA:Nat:=209
def Bz:Nat:=210
def Co:Nat:=211
def Dt:Nat:=212
def Du:Nat:=217
def AN:Nat:=218
def Bg:Nat:=219
def Ap:Nat:=220
def A2:Nat:=221
def AA:Nat:=222
def A4:Nat:=223
def Ba:Nat:=225
def BL:Nat:=229
def Ct:Nat:=232
def Ds:Nat:=233
def CK:Nat:=238
def Dc:Nat:=239
def Au:Nat:=240
def BJ:Nat:=243
def A3:Nat:=244
def Ch:Nat:=257
def Bi:Nat:=258
def AK:Nat:=259
def Bq:Nat:=279
def Bl:Nat:=280
def BU:Nat:=281
def BV:Nat:=284
def Aj:Nat:=285
def Bj:Nat:=286
def BP:Nat:=287
def Db:Nat:=288
def A9:Nat:=290
def BM:Nat:=291
def En:Nat:=293
def CJ:Nat:=298
def Ef:Nat:=299
def Bk:Nat:=318
def BC:Nat:=319
def QH:B8:=[97,46,98,32,61,32,49,46,53]
def str1:B8:=[50,48,50,52,45,48,50,45,50,57,32,49,48,58,48,48,58,48,48,90,93]
def str2:B8:=[39,97,92,98,39]
def str3:B8:=[97,46,98]
def str4:B8:=[50,48,50,52,45,48,50,45,50,57,32,49,48,58,48,48,58,48,48,90]
def str5:B8:=[97,92,98]
def str6:B8:=[97,45,49]
def Io:B8:=[116,114,117,101]
def Ly:B8:=[102,97,108,115,101]
def FO:B8:=[45]
def Gw:B8:=[46]
def Mw:B8:=[43]
def HB:B8:=[48]
def OR:B8:=[48,46]
def QG:B8:=[101,45]
def QF:B8:=[101]
def JI:B8:=[84]
def Gv:B8:=[34,92,8,12,10,13,9]
def Mv:B8:=[34,92,98,102,110,114,116]
def FQ:B8:=[48,49,50,51,52,53,54,55,56,57,97,98,99,100,101,102]
def QE:B8:=[91,93,123,125,44,61]
def FP:B8:=[34,92,47,98,102,110,114,116]
def KU:B8:=[34,92,47,8,12,10,13,9]
def str27:B8:=[84,116,32]
def str30:B8:=[90]
def Cd:B8:=[58]
def KR:B8:=[13,10]
def QD:B8:=[48,48,48,48,45,48,48,45,48,48]
def QC:B8:=[32,48,48,58]
def str55:B8:=[90,122,43,45]
def QB:B8:=[48,49,50,51,52,53,54,55,56,57,97,98,99,100,101,102,65,66,67,68,69,70]
theorem Dm (v_0:Int) (v_1:Bool) (v_2:Bool) (v_3:B8) (v_4:Int) (v_5:Int) (v_6:Int) (v_7:Int) (v_8:Int) (v_9:B8) (v_10:TV) (v_11:TV) (v_12:TV) (st:St) (K:Bool->St->Prop) (h:CallT PR BN [(.agg (cV v_0 v_1 v_2 v_3 v_4 v_5 v_6 v_7 v_8 v_9 v_10 v_11 v_12))] [.one .bool] st (fun (b1:Bool) e=>BIf (!b1) (CallT PR AD [] [.one .bool] e (fun (b2:Bool) k=>K b2 k)) (CallT PR C8 [(.agg (cV v_0 v_1 v_2 v_3 v_4 v_5 v_6 v_7 v_8 v_9 v_10 v_11 v_12))] [.one .str,.one (.int .i64)] e (fun (s1:B8) (n1:Int) c=>BId (n1≠0) (BId (n1=27) (BId (v_0=0) (CallT PR AD [] [.one .bool] c (fun (b3:Bool) i=>K b3 i)) (BId (v_0=5) (CallT PR AD [] [.one .bool] c (fun (b4:Bool) n=>K b4 n)) (K false c))) (K false c)) (CallT PR Cv [.str s1] [sV,.one (.int .i64)] c (fun (n2:Int) (b5 b6:Bool) (s2:B8) (n3 n4 n5 n6 n7:Int) (s3:B8) (v1 v2 v3:TV) (n8:Int) o=>need (List.all (cV n2 b5 b6 s2 n3 n4 n5 n6 n7 s3 v1 v2 v3) BQ) (CallT PR BB [.str s1] [.one .tv,.one (.int .i64),.one (.int .i64)] o (fun (v4:TV) (n9 p:Int) q=>CallT PR A0 [(.agg (cV v_0 v_1 v_2 v_3 v_4 v_5 v_6 v_7 v_8 v_9 v_10 v_11 v_12)),(.agg (cV n2 b5 b6 s2 n3 n4 n5 n6 n7 s3 v1 v2 v3))] [.one .bool] q (fun (b7:Bool) a=>BIf (!b7) (K false a) (BId (n8≠0) (K false a) (BId (p≠0) (K false a) (need (isSl v4) (BId ((lenS v4:Int)≠(1:Int)) (K false a) (((0<=(0:Int)/\(0:Int)<(lenZ 3 v4:Int))/\need (isPtr (ixT 3 v4 (Int.toNat (0:Int)))) (Ao (Af a [] (.t (AX (ixT 3 v4 (Int.toNat (0:Int))) 1)) 0) (fun (x1:TV)=>Ar .str x1 (fun (s4:B8)=>BId (s4≠s1) (K false a) (CallT PR B7 [.str v_9] [.one .bool] a (fun (b8:Bool) d=>BIf b8 (CallT PR BB [.str v_9] [.one .tv,.one (.int .i64),.one (.int .i64)] d (fun (v5:TV) (r l:Int) b=>BId (l=0) (need (isSl v5) (BId ((lenS v5:Int)=(1:Int)) (((0<=(0:Int)/\(0:Int)<(lenZ 3 v5:Int))/\need (isPtr (ixT 3 v5 (Int.toNat (0:Int)))) (Ao (Af b [] (.t (AX (ixT 3 v5 (Int.toNat (0:Int))) 0)) 0) (fun (x2:TV)=>Ar (.int .i64) x2 (fun (j:Int)=>BId (j=6) (CallT PR AD [] [.one .bool] b (fun (b9:Bool) g=>K b9 g)) (K false b)))))) (K false b))) (K false b))) (CallT PR AD [] [.one .bool] d (fun (m:Bool) f=>K m f)))))))))))))))))))))):CallT PR fn_datakitlaw24_TablelexBack [(.agg (cV v_0 v_1 v_2 v_3 v_4 v_5 v_6 v_7 v_8 v_9 v_10 v_11 v_12))] [.one .bool] st K:=
 Ad (cfg:=⟨[1,5],[],[]⟩) (h:= .none) mixed (fun _ _=>Tryz.call11 _ _) Tryz.func11 (by kernel_rfl) (by kernel_rfl) h
theorem FG (a_0:Int) (a_1:Bool) (a_2:Bool) (a_3:B8) (a_4:Int) (a_5:Int) (a_6:Int) (a_7:Int) (a_8:Int) (a_9:B8) (a_10:TV) (a_11:TV) (a_12:TV) (b_0:Int) (b_1:Bool) (b_2:Bool) (b_3:B8) (b_4:Int) (b_5:Int) (b_6:Int) (b_7:Int) (b_8:Int) (b_9:B8) (b_10:TV) (b_11:TV) (b_12:TV) (st:St) (K:Bool->St->Prop) (h:BId (a_0≠b_0) (K false st) (BIf (!(a_1==b_1)) (K false st) (BIf (!((a_2==b_2)&&(decide (a_3=b_3)&&(decide (a_4=b_4)&&true)))) (K false st) (BIf (!(decide (a_5=b_5)&&(decide (a_6=b_6)&&(decide (a_7=b_7)&&(decide (a_8=b_8)&&true))))) (K false st) (BId (a_9≠b_9) (K false st) (Ao ((toBytes st a_10).map TV.str) (fun (x1:TV)=>Ar .str x1 (fun (s1:B8)=>Ao ((toBytes st b_10).map TV.str) (fun (x2:TV)=>Ar .str x2 (fun (s2:B8)=>BId (s1≠s2) (K false st) (need (isSl a_11) (need (isSl b_11) (BId ((lenS a_11:Int)≠(lenS b_11:Int)) (K false st) (need (isSl a_12) (need (isSl b_12) (BId ((lenS a_12:Int)≠(lenS b_12:Int)) (K false st) (∃(I1:Int->V13 (V13 (St->Prop))) (M1:Int->V13 (V13 (St->Nat))),(I1 0 a_0 a_1 a_2 a_3 a_4 a_5 a_6 a_7 a_8 a_9 a_10 a_11 a_12 b_0 b_1 b_2 b_3 b_4 b_5 b_6 b_7 b_8 b_9 b_10 b_11 b_12 st)/\∀d n1 b1 b2 s3 n2 n3 n4 n5 n6 s4 v1 v2 v3 n7 b3 b4 s5 n8 n9 i k g s6 v4 v5 v6 f,I1 d n1 b1 b2 s3 n2 n3 n4 n5 n6 s4 v1 v2 v3 n7 b3 b4 s5 n8 n9 i k g s6 v4 v5 v6 f->(need (isSl v2) (BId (d<(lenS v2:Int)) (((0<=d/\d<(lenZ 13 v2:Int))/\Ao ((Am f [] (.t (ixT 13 v2 d.toNat)) 0 13).map TV.agg) (fun (x3:TV)=>LV [.int .i64,.bool,.bool,.str,.int .i64,.int .i64,.int .i64,.int .i64,.int .i64,.str,.tv,.tv,.tv] x3 (fun (e2:Int) (b5 b6:Bool) (s7:B8) (f8 c6 e4 f3 f5:Int) (s8:B8) (v7 v8 v9:TV)=>((0<=d/\d<(lenZ 13 v5:Int))/\Ao ((Am f [] (.t (ixT 13 v5 d.toNat)) 0 13).map TV.agg) (fun (x4:TV)=>LV [.int .i64,.bool,.bool,.str,.int .i64,.int .i64,.int .i64,.int .i64,.int .i64,.str,.tv,.tv,.tv] x4 (fun (d6:Int) (b7 b8:Bool) (s9:B8) (d1 c3 d3 c4 e7:Int) (d4:B8) (d2 g2 e3:TV)=>CallT PR A0 [(.agg (cV e2 b5 b6 s7 f8 c6 e4 f3 f5 s8 v7 v8 v9)),(.agg (cV d6 b7 b8 s9 d1 c3 d3 c4 e7 d4 d2 g2 e3))] [.one .bool] f (fun (b9:Bool) c1=>BIf (!b9) (K false c1) ((I1 ((i64.wrap (d+(1:Int)))) n1 b1 b2 s3 n2 n3 n4 n5 n6 s4 v1 v2 v3 n7 b3 b4 s5 n8 n9 i k g s6 v4 v5 v6 c1/\M1 ((i64.wrap (d+(1:Int)))) n1 b1 b2 s3 n2 n3 n4 n5 n6 s4 v1 v2 v3 n7 b3 b4 s5 n8 n9 i k g s6 v4 v5 v6 c1<M1 d n1 b1 b2 s3 n2 n3 n4 n5 n6 s4 v1 v2 v3 n7 b3 b4 s5 n8 n9 i k g s6 v4 v5 v6 f)))))))))) (∃(I2:Int->V13 (V13 (St->Prop))) (M2:Int->V13 (V13 (St->Nat))),(I2 0 n1 b1 b2 s3 n2 n3 n4 n5 n6 s4 v1 v2 v3 n7 b3 b4 s5 n8 n9 i k g s6 v4 v5 v6 f)/\∀a w l a6 v u x s a0 a4 z m y b a9 a1 a7 n p r a3 a8 o a5 q a2 c e,I2 a w l a6 v u x s a0 a4 z m y b a9 a1 a7 n p r a3 a8 o a5 q a2 c e->(need (isSl b) (BId (a<(lenS b:Int)) (((0<=a/\a<(lenZ 14 b:Int))/\need (isPtr (ixT 14 b a.toNat)) (Ao (Af e [] (.t (AX (ixT 14 b a.toNat) 0)) 0) (fun (x5:TV)=>Ar .str x5 (fun (c0:B8)=>((0<=a/\a<(lenZ 14 c:Int))/\need (isPtr (ixT 14 c a.toNat)) (Ao (Af e [] (.t (AX (ixT 14 c a.toNat) 0)) 0) (fun (x6:TV)=>Ar .str x6 (fun (b0:B8)=>BId (c0≠b0) ((Af e [] (.t (AX (ixT 14 c a.toNat) 0)) 0=some (.str b0)/\(Af e [] (.t (AX (ixT 14 b a.toNat) 0)) 0=some (.str c0)/\K false e))) (((0<=a/\a<(lenZ 14 b:Int))/\need (isPtr (ixT 14 b a.toNat)) (Ao ((Am e [] (.t (AX (ixT 14 b a.toNat) 1)) 0 13).map TV.agg) (fun (x7:TV)=>LV [.int .i64,.bool,.bool,.str,.int .i64,.int .i64,.int .i64,.int .i64,.int .i64,.str,.tv,.tv,.tv] x7 (fun (d9:Int) (c5 c2:Bool) (f6:B8) (f9 e0 e9 d8 g0:Int) (c7:B8) (c9 f2 d0:TV)=>((0<=a/\a<(lenZ 14 c:Int))/\need (isPtr (ixT 14 c a.toNat)) (Ao ((Am e [] (.t (AX (ixT 14 c a.toNat) 1)) 0 13).map TV.agg) (fun (x8:TV)=>LV [.int .i64,.bool,.bool,.str,.int .i64,.int .i64,.int .i64,.int .i64,.int .i64,.str,.tv,.tv,.tv] x8 (fun (f7:Int) (g1 d7:Bool) (f4:B8) (e8 e5 d5 c8 e6:Int) (g3:B8) (f0 g4 e1:TV)=>CallT PR A0 [(.agg (cV d9 c5 c2 f6 f9 e0 e9 d8 g0 c7 c9 f2 d0)),(.agg (cV f7 g1 d7 f4 e8 e5 d5 c8 e6 g3 f0 g4 e1))] [.one .bool] e (fun (f1:Bool) j=>(Af j [] (.t (AX (ixT 14 c a.toNat) 0)) 0=some (.str b0)/\(Af j [] (.t (AX (ixT 14 b a.toNat) 0)) 0=some (.str c0)/\BIf (!f1) (K false j) ((I2 ((i64.wrap (a+(1:Int)))) w l a6 v u x s a0 a4 z m y b a9 a1 a7 n p r a3 a8 o a5 q a2 c j/\M2 ((i64.wrap (a+(1:Int)))) w l a6 v u x s a0 a4 z m y b a9 a1 a7 n p r a3 a8 o a5 q a2 c j<M2 a w l a6 v u x s a0 a4 z m y b a9 a1 a7 n p r a3 a8 o a5 q a2 c e))))))))))))))))))))))) (K true e))))))))))))))))))))))):CallT PR A0 [(.agg (cV a_0 a_1 a_2 a_3 a_4 a_5 a_6 a_7 a_8 a_9 a_10 a_11 a_12)),(.agg (cV b_0 b_1 b_2 b_3 b_4 b_5 b_6 b_7 b_8 b_9 b_10 b_11 b_12))] [.one .bool] st K:=
 Ad (cfg:=⟨[2,3],[],[78,83,98,104,112,118]⟩) (h:=(.seq .none (.seq .none (.seq (.seq .none (.block (.loop ⟨[(5,.int .i64)],[(2,0,0),(3,1,0)],[(0,13),(1,13)],[(0,0,.int .i64),(0,1,.bool),(0,2,.bool),(0,3,.str),(0,4,.int .i64),(0,5,.int .i64),(0,6,.int .i64),(0,7,.int .i64),(0,8,.int .i64),(0,9,.str),(0,10,.tv),(0,11,.tv),(0,12,.tv),(1,0,.int .i64),(1,1,.bool),(1,2,.bool),(1,3,.str),(1,4,.int .i64),(1,5,.int .i64),(1,6,.int .i64),(1,7,.int .i64),(1,8,.int .i64),(1,9,.str),(1,10,.tv),(1,11,.tv),(1,12,.tv)]⟩ .none))) (.seq (.seq .none (.block (.loop ⟨[(6,.int .i64)],[(2,0,0),(3,1,0)],[(0,13),(1,13)],[(0,0,.int .i64),(0,1,.bool),(0,2,.bool),(0,3,.str),(0,4,.int .i64),(0,5,.int .i64),(0,6,.int .i64),(0,7,.int .i64),(0,8,.int .i64),(0,9,.str),(0,10,.tv),(0,11,.tv),(0,12,.tv),(1,0,.int .i64),(1,1,.bool),(1,2,.bool),(1,3,.str),(1,4,.int .i64),(1,5,.int .i64),(1,6,.int .i64),(1,7,.int .i64),(1,8,.int .i64),(1,9,.str),(1,10,.tv),(1,11,.tv),(1,12,.tv)]⟩ .none))) .none))))) mixed (fun _ _=>Tryz.call18 _ _) Tryz.func18 (by kernel_rfl) (by kernel_rfl) h
theorem Fx (st:St) (K:Bool->St->Prop) (h:CallT PR Bu [.str QH,.int .i64 0] [.agg [.int .i64,.str,.int .i64],.one (.int .i64)] st (fun (n1:Int) (s1:B8) (n2 n3:Int) d=>CallT PR Bu [.str str1,.int .i64 0] [.agg [.int .i64,.str,.int .i64],.one (.int .i64)] d (fun (n4:Int) (s2:B8) (n5 n6:Int) c=>CallT PR A7 [.str str2] [.one .str,.one (.int .i64)] c (fun (s3:B8) (n7:Int) a=>BIf (decide (n1=(6:Int))&&(decide (s1=str3)&&(decide (n2=(0:Int))&&true))) (BId (n3=0) (BId (s2=str4) (BId (n6=0) (BId (s3=str5) (BId (n7=0) (CallT PR B7 [.str str6] [.one .bool] a (fun (b1:Bool) b=>K b1 b)) (K false a)) (K false a)) (K false a)) (K false a)) (K false a)) (K false a))))):CallT PR AD [] [.one .bool] st K:=
 Ad (cfg:=⟨[1,3],[],[]⟩) (h:= .none) mixed (fun _ _=>Tryz.call27 _ _) Tryz.func27 (by kernel_rfl) (by kernel_rfl) h
theorem GT (s:B8) (st:St) (K:V13 (Int->St->Prop)) (h:BId (s≠([]:B8)) (((0<=(0:Int)/\(0:Int)<(s.length:Int))/\BId (((List.getD s (Int.toNat (0:Int)) 0).toNat:Int)=(34:Int)) (CallT PR A7 [.str s] [.one .str,.one (.int .i64)] st (fun (s1:B8) (n1:Int) b=>BId (n1=0) (BId ((65536:Int)<(s1.length:Int)) (BId ((10:Int)≠(0:Int)) (K 0 false false [] 0 0 0 0 0 [] .nilSlice .nilSlice .nilSlice 10 b) (K 4 false false [] 0 0 0 0 0 s1 .nilSlice .nilSlice .nilSlice 0 b)) (BId (n1≠0) (K 0 false false [] 0 0 0 0 0 [] .nilSlice .nilSlice .nilSlice n1 b) (K 4 false false [] 0 0 0 0 0 s1 .nilSlice .nilSlice .nilSlice 0 b))) (BId (n1≠0) (K 0 false false [] 0 0 0 0 0 [] .nilSlice .nilSlice .nilSlice n1 b) (K 4 false false [] 0 0 0 0 0 s1 .nilSlice .nilSlice .nilSlice 0 b)))) (((0<=(0:Int)/\(0:Int)<(s.length:Int))/\BId (((List.getD s (Int.toNat (0:Int)) 0).toNat:Int)=(39:Int)) (CallT PR A7 [.str s] [.one .str,.one (.int .i64)] st (fun (s2:B8) (n2:Int) a=>BId (n2=0) (BId ((65536:Int)<(s2.length:Int)) (BId ((10:Int)≠(0:Int)) (K 0 false false [] 0 0 0 0 0 [] .nilSlice .nilSlice .nilSlice 10 a) (K 4 false false [] 0 0 0 0 0 s2 .nilSlice .nilSlice .nilSlice 0 a)) (BId (n2≠0) (K 0 false false [] 0 0 0 0 0 [] .nilSlice .nilSlice .nilSlice n2 a) (K 4 false false [] 0 0 0 0 0 s2 .nilSlice .nilSlice .nilSlice 0 a))) (BId (n2≠0) (K 0 false false [] 0 0 0 0 0 [] .nilSlice .nilSlice .nilSlice n2 a) (K 4 false false [] 0 0 0 0 0 s2 .nilSlice .nilSlice .nilSlice 0 a)))) (BId (s=Io) (K 1 ((decide (s=Io))) false [] 0 0 0 0 0 [] .nilSlice .nilSlice .nilSlice 0 st) (BId (s=Ly) (K 1 ((decide (s=Io))) false [] 0 0 0 0 0 [] .nilSlice .nilSlice .nilSlice 0 st) (CallT PR Ca [.str s] [.agg [.bool,.str,.int .i64],.one (.int .i64)] st (fun (b1:Bool) (s3:B8) (n3 n4:Int) c=>BId (n4=0) (K 2 false b1 s3 n3 0 0 0 0 [] .nilSlice .nilSlice .nilSlice 0 c) (BId (n4≠3) (K 0 false false [] 0 0 0 0 0 [] .nilSlice .nilSlice .nilSlice n4 c) (CallT PR Cs [.str s] [.agg [.int .i64,.int .i64,.int .i64,.int .i64],.one (.int .i64)] c (fun (n5 n6 n7 n8 n9:Int) f=>BId (n9≠0) (K 0 false false [] 0 0 0 0 0 [] .nilSlice .nilSlice .nilSlice n9 f) (K 3 false false [] 0 n5 n6 n7 n8 [] .nilSlice .nilSlice .nilSlice 0 f)))))))))))) (BId (s=Io) (K 1 ((decide (s=Io))) false [] 0 0 0 0 0 [] .nilSlice .nilSlice .nilSlice 0 st) (BId (s=Ly) (K 1 ((decide (s=Io))) false [] 0 0 0 0 0 [] .nilSlice .nilSlice .nilSlice 0 st) (CallT PR Ca [.str s] [.agg [.bool,.str,.int .i64],.one (.int .i64)] st (fun (b2:Bool) (s4:B8) (m e:Int) d=>BId (e=0) (K 2 false b2 s4 m 0 0 0 0 [] .nilSlice .nilSlice .nilSlice 0 d) (BId (e≠3) (K 0 false false [] 0 0 0 0 0 [] .nilSlice .nilSlice .nilSlice e d) (CallT PR Cs [.str s] [.agg [.int .i64,.int .i64,.int .i64,.int .i64],.one (.int .i64)] d (fun (k j n l g:Int) i=>BId (g≠0) (K 0 false false [] 0 0 0 0 0 [] .nilSlice .nilSlice .nilSlice g i) (K 3 false false [] 0 k j n l [] .nilSlice .nilSlice .nilSlice 0 i))))))))):CallT PR Cv [.str s] [sV,.one (.int .i64)] st K:=
 Ad (cfg:=⟨[2,6,8],[],[]⟩) (h:= .none) mixed (fun _ _=>Tryz.call28 _ _) Tryz.func28 (by kernel_rfl) (by kernel_rfl) h
theorem Fv (v_0:Int) (v_1:Bool) (v_2:Bool) (v_3:B8) (v_4:Int) (v_5:Int) (v_6:Int) (v_7:Int) (v_8:Int) (v_9:B8) (v_10:TV) (v_11:TV) (v_12:TV) (st:St) (K:Bool->St->Prop) (h:BId ((0:Int)<=v_0) (BId (v_0<6) (BId ((v_9.length:Int)<=(2000:Int)) (need (isSl v_10) (BId ((lenS v_10:Int)<=(2000:Int)) (need (isSl v_11) (BId ((lenS v_11:Int)=(0:Int)) (need (isSl v_12) (BId ((lenS v_12:Int)=(0:Int)) (CallT PR Bh [(.agg (cV v_0 v_1 v_2 v_3 v_4 v_5 v_6 v_7 v_8 v_9 v_10 v_11 v_12))] [.one (.int .i64)] st (fun (n1:Int) a=>K ((decide (n1=0))) a)) (K false st))) (K false st))) (K false st))) (K false st)) (K false st)) (K false st)):CallT PR BN [(.agg (cV v_0 v_1 v_2 v_3 v_4 v_5 v_6 v_7 v_8 v_9 v_10 v_11 v_12))] [.one .bool] st K:=
 Ad (cfg:=⟨[1],[],[]⟩) (h:= .none) mixed (fun _ _=>Tryz.call30 _ _) Tryz.func30 (by kernel_rfl) (by kernel_rfl) h
theorem H9 (v_0:Int) (v_1:Bool) (v_2:Bool) (v_3:B8) (v_4:Int) (v_5:Int) (v_6:Int) (v_7:Int) (v_8:Int) (v_9:B8) (v_10:TV) (v_11:TV) (v_12:TV) (st:St) (K:B8->Int->St->Prop) (h:BId (v_0=1) (BIf v_1 (K Io 0 st) (K Ly 0 st)) (BId (v_0=2) (CallT PR Dv [(.agg [.bool v_2,.str v_3,.int .i64 v_4])] [.one .str] st (fun (s1:B8) c=>K s1 0 c)) (BId (v_0=3) (CallT PR DX [(.agg [.int .i64 v_5,.int .i64 v_6,.int .i64 v_7,.int .i64 v_8])] [.one .str] st (fun (s2:B8) b=>K s2 0 b)) (BId (v_0=4) (CallT PR CH [.str v_9] [.one .str,.one (.int .i64)] st (fun (s3:B8) (n1:Int) a=>K s3 n1 a)) (BId (v_0=0) (BId (v_0=0) (K [] 27 st) (K [] 6 st)) (BId (v_0=5) (K [] 27 st) (K [] 6 st))))))):CallT PR C8 [(.agg (cV v_0 v_1 v_2 v_3 v_4 v_5 v_6 v_7 v_8 v_9 v_10 v_11 v_12))] [.one .str,.one (.int .i64)] st K:=
 Ad (cfg:=⟨[1],[],[]⟩) (h:= .none) mixed (fun _ _=>Tryz.call31 _ _) Tryz.func31 (by kernel_rfl) (by kernel_rfl) h
theorem CS (v_0:Int) (v_1:Bool) (v_2:Bool) (v_3:B8) (v_4:Int) (v_5:Int) (v_6:Int) (v_7:Int) (v_8:Int) (v_9:B8) (v_10:TV) (v_11:TV) (v_12:TV) (st:St) (K:Int->St->Prop) (h:CallT PR Bn [(.agg (cV v_0 v_1 v_2 v_3 v_4 v_5 v_6 v_7 v_8 v_9 v_10 v_11 v_12)),.int .i64 1,.int .i64 0] [.one (.int .i64),.one (.int .i64)] st (fun (n1 n2:Int) a=>K n2 a)):CallT PR Bh [(.agg (cV v_0 v_1 v_2 v_3 v_4 v_5 v_6 v_7 v_8 v_9 v_10 v_11 v_12))] [.one (.int .i64)] st K:=
 Ad (cfg:=⟨[1],[],[]⟩) (h:= .none) mixed (fun _ _=>Tryz.call38 _ _) Tryz.func38 (by kernel_rfl) (by kernel_rfl) h
theorem GS (src:B8) (st:St) (K:TV->Int->Int->St->Prop) (h:BId ((1048576:Int)<(src.length:Int)) (K .nilSlice 0 10 st) (CallT PR Cr [.str src] [.one (.int .i64)] st (fun (n1:Int) g=>BId ((0:Int)<=n1) (K .nilSlice n1 5 g) (∃(I1:TV->Int->B8->St->Prop) (M1:TV->Int->B8->St->Nat),(I1 .nilSlice 0 src g)/\∀c b a d,I1 c b a d->(BId (b<(a.length:Int)) (CallT PR Bu [.str a,.int .i64 b] [.agg [.int .i64,.str,.int .i64],.one (.int .i64)] d (fun (n2:Int) (s1:B8) (n3 n4:Int) e=>BId (n4=4) (K .nilSlice ((a.length:Int)) n4 e) (BId (n4≠0) (K .nilSlice b n4 e) (Bp 79 3 32 c 1 [.int .i64 n2,.str s1,.int .i64 n3] e (fun (v1:TV) f=>(I1 v1 ((i64.wrap (b+(s1.length:Int)))) a f/\M1 v1 ((i64.wrap (b+(s1.length:Int)))) a f<M1 c b a d)))))) (K c 0 0 d)))))):CallT PR BB [.str src] [.one .tv,.one (.int .i64),.one (.int .i64)] st K:=
 Ad (cfg:=⟨[8],[],[]⟩) (h:=(.seq .none (.seq .none (.seq .none (.seq .none (.seq (.seq .none (.block (.loop ⟨[(6,.tv),(7,.int .i64),(0,.str)],[],[],[]⟩ .none))) .none)))))) mixed (fun _ _=>Tryz.call42 _ _) Tryz.func42 (by kernel_rfl) (by kernel_rfl) h
theorem Ib (s:B8) (st:St) (K:Bool->St->Prop) (h:CallT PR A6 [] [.one .tv,.one .tv] st (fun (v1 v2:TV) a=>BId (s≠([]:B8)) (CallT PR A5 [.str s,.int .i64 0,v1] [.one (.int .i64)] a (fun (n1:Int) b=>K ((decide (n1=(s.length:Int)))) b)) (K false a))):CallT PR B7 [.str s] [.one .bool] st K:=
 Ad (cfg:=⟨[],[],[]⟩) (h:= .none) mixed (fun _ _=>Tryz.call43 _ _) Tryz.func43 (by kernel_rfl) (by kernel_rfl) h
theorem Ia (src:B8) (atx:Int) (st:St) (K:Int->B8->Int->Int->St->Prop) (h:BId (atx<0) (K 0 [] 0 1 st) (BId ((src.length:Int)<atx) (K 0 [] 0 1 st) (BId (atx=(src.length:Int)) (K 0 [] 0 7 st) (CallT PR Dq [.str src,.int .i64 atx] [.one (.int .i64),.one (.int .i64),.one (.int .i64)] st (fun (n1 n2 n3:Int) a=>BId (n3≠0) (K 0 [] 0 n3 a) (((0<=atx/\atx<=n2/\n2<=(src.length:Int))/\K n1 ((List.drop atx.toNat (List.take n2.toNat src))) atx 0 a))))))):CallT PR Bu [.str src,.int .i64 atx] [.agg [.int .i64,.str,.int .i64],.one (.int .i64)] st K:=
 Ad (cfg:=⟨[4],[],[]⟩) (h:= .none) mixed (fun _ _=>Tryz.call63 _ _) Tryz.func63 (by kernel_rfl) (by kernel_rfl) h
theorem Gq (s:B8) (st:St) (K:B8->Int->St->Prop) (h:BId (s=([]:B8)) (K [] 4 st) (((0<=(0:Int)/\(0:Int)<(s.length:Int))/\BId (((List.getD s (Int.toNat (0:Int)) 0).toNat:Int)≠(34:Int)) (((0<=(0:Int)/\(0:Int)<(s.length:Int))/\BId (((List.getD s (Int.toNat (0:Int)) 0).toNat:Int)≠(39:Int)) (K [] 3 st) (CallT PR AU [.str s,.int .i64 0] [.one .str,.one (.int .i64),.one (.int .i64)] st (fun (s1:B8) (n1 n2:Int) b=>BId (n2≠0) (K [] n2 b) (BId (n1≠(s.length:Int)) (K [] 3 b) (K s1 0 b)))))) (CallT PR AU [.str s,.int .i64 0] [.one .str,.one (.int .i64),.one (.int .i64)] st (fun (s2:B8) (n3 n4:Int) a=>BId (n4≠0) (K [] n4 a) (BId (n3≠(s.length:Int)) (K [] 3 a) (K s2 0 a))))))):CallT PR A7 [.str s] [.one .str,.one (.int .i64)] st K:=
 Ad (cfg:=⟨[],[],[]⟩) (h:= .none) mixed (fun _ _=>Tryz.call64 _ _) Tryz.func64 (by kernel_rfl) (by kernel_rfl) h
theorem Ig (s:B8) (st:St) (K:Bool->B8->Int->Int->St->Prop) (h:CallT PR AB [.str s,.str FO] [.one .bool] st (fun (b1:Bool) a3=>∃(C1:B8->Bool->Bool->B8->Int->St->Prop),(BIf b1 (((0<=(1:Int)/\(1:Int)<=(s.length:Int))/\C1 ((List.drop (Int.toNat (1:Int)) s)) b1 false [] 0 a3)) (C1 s b1 false [] 0 a3))/\∀l m b2 s1 n1 a4,C1 l m b2 s1 n1 a4->(CallT PR BX [.str l] [.one (.int .i64)] a4 (fun (n2:Int) u=>∃(C2:B8->Bool->Int->Bool->B8->Int->St->Prop),(BId (n2=0) (K false [] 0 3 u) (BId ((1:Int)<n2) (((0<=(0:Int)/\(0:Int)<(l.length:Int))/\BId (((List.getD l (Int.toNat (0:Int)) 0).toNat:Int)=(48:Int)) (K false [] 0 3 u) (C2 l m n2 b2 s1 n1 u))) (C2 l m n2 b2 s1 n1 u)))/\∀b n a b3 s2 n3 a5,C2 b n a b3 s2 n3 a5->(((0<=a/\a<=(b.length:Int))/\((0<=a/\a<=(b.length:Int))/\∃(C3:B8->B8->Int->Bool->Bool->B8->Int->St->Prop),(CallT PR AB [(.str (List.drop a.toNat b)),.str Gw] [.one .bool] a5 (fun (b4:Bool) a0=>BIf b4 (((0<=(1:Int)/\(1:Int)<=(((List.drop a.toNat b)).length:Int))/\CallT PR BX [(.str (List.drop (Int.toNat (1:Int)) (List.drop a.toNat b)))] [.one (.int .i64)] a0 (fun (n4:Int) a1=>BId (n4=0) (K false [] 0 3 a1) (((0<=(1:Int)/\(1:Int)<=(i64.wrap (n4+(1:Int)))/\(i64.wrap (n4+(1:Int)))<=(((List.drop a.toNat b)).length:Int))/\(((List.take a.toNat b)).length+((List.drop (Int.toNat (1:Int)) (List.take (Int.toNat (i64.wrap (n4+(1:Int)))) (List.drop a.toNat b)))).length<=9223372036854775807/\((0<=(i64.wrap (n4+(1:Int)))/\(i64.wrap (n4+(1:Int)))<=(((List.drop a.toNat b)).length:Int))/\C3 ((List.drop (Int.toNat (i64.wrap (n4+(1:Int)))) (List.drop a.toNat b))) (((List.take a.toNat b)++(List.drop (Int.toNat (1:Int)) (List.take (Int.toNat (i64.wrap (n4+(1:Int)))) (List.drop a.toNat b))))) ((i64.wrap (0-n4))) n b3 s2 n3 a1))))))) (C3 ((List.drop a.toNat b)) ((List.take a.toNat b)) 0 n b3 s2 n3 a0)))/\∀d j f i b5 s3 n5 p,C3 d j f i b5 s3 n5 p->(BId (d≠([]:B8)) (∃(C4:B8->Bool->B8->Int->Bool->B8->Int->St->Prop),(((0<=(0:Int)/\(0:Int)<(d.length:Int))/\BId (((List.getD d (Int.toNat (0:Int)) 0).toNat:Int)≠(101:Int)) (((0<=(0:Int)/\(0:Int)<(d.length:Int))/\BId (((List.getD d (Int.toNat (0:Int)) 0).toNat:Int)≠(69:Int)) (K false [] 0 3 p) (C4 d i j f b5 s3 n5 p))) (C4 d i j f b5 s3 n5 p)))/\∀c g e k b6 s4 n6 a2,C4 c g e k b6 s4 n6 a2->(((0<=(1:Int)/\(1:Int)<=(c.length:Int))/\CallT PR AB [(.str (List.drop (Int.toNat (1:Int)) c)),.str FO] [.one .bool] a2 (fun (b7:Bool) z=>∃(C5:B8->Bool->B8->Int->Bool->Bool->B8->Int->St->Prop),(BIf b7 (((0<=(1:Int)/\(1:Int)<=(((List.drop (Int.toNat (1:Int)) c)).length:Int))/\C5 ((List.drop (Int.toNat (1:Int)) (List.drop (Int.toNat (1:Int)) c))) g e k b7 b6 s4 n6 z)) (CallT PR AB [(.str (List.drop (Int.toNat (1:Int)) c)),.str Mw] [.one .bool] z (fun (b8:Bool) y=>BIf b8 (((0<=(1:Int)/\(1:Int)<=(((List.drop (Int.toNat (1:Int)) c)).length:Int))/\C5 ((List.drop (Int.toNat (1:Int)) (List.drop (Int.toNat (1:Int)) c))) g e k b7 b6 s4 n6 y)) (C5 ((List.drop (Int.toNat (1:Int)) c)) g e k b7 b6 s4 n6 y))))/\∀o t w v q b9 s5 n7 r,C5 o t w v q b9 s5 n7 r->(BId (o=([]:B8)) (K false [] 0 3 r) (CallT PR BX [.str o] [.one (.int .i64)] r (fun (n8:Int) x=>BId (n8≠(o.length:Int)) (K false [] 0 3 x) (CallT PR Cg [.str o,.str HB] [.one .str] x (fun (s6:B8) a6=>CallT PR C9 [.int .i64 v,.bool q,.str s6] [.one (.int .i64)] a6 (fun (n9:Int) a8=>CallT PR BF [.bool t,.str w,.int .i64 n9] [.agg [.bool,.str,.int .i64],.one (.int .i64)] a8 (fun (c0:Bool) (s7:B8) (c1 c4:Int) a7=>K c0 s7 c1 c4 a7))))))))))) (CallT PR BF [.bool i,.str j,.int .i64 f] [.agg [.bool,.str,.int .i64],.one (.int .i64)] p (fun (c3:Bool) (s8:B8) (c2 b0:Int) a9=>K c3 s8 c2 b0 a9)))))))))):CallT PR Ca [.str s] [.agg [.bool,.str,.int .i64],.one (.int .i64)] st K:=
 Ad (cfg:=⟨[2],[],[]⟩) (h:=(.seq .none (.seq .none (.cut ⟨[(0,.str),(4,.bool)],[(2,0,0)],[(0,3)],[(0,0,.bool),(0,1,.str),(0,2,.int .i64)]⟩ .none (.seq .none (.cut ⟨[(0,.str),(4,.bool),(5,.int .i64)],[(2,0,0)],[(0,3)],[(0,0,.bool),(0,1,.str),(0,2,.int .i64)]⟩ .none (.seq .none (.seq .none (.seq .none (.cut ⟨[(0,.str),(6,.str),(7,.int .i64),(4,.bool)],[(2,0,0)],[(0,3)],[(0,0,.bool),(0,1,.str),(0,2,.int .i64)]⟩ .none (.seq (.seq .none (.cond (.cut ⟨[(0,.str),(4,.bool),(6,.str),(7,.int .i64)],[(2,0,0)],[(0,3)],[(0,0,.bool),(0,1,.str),(0,2,.int .i64)]⟩ .none (.seq .none (.seq .none (.cut ⟨[(0,.str),(4,.bool),(6,.str),(7,.int .i64),(8,.bool)],[(2,0,0)],[(0,3)],[(0,0,.bool),(0,1,.str),(0,2,.int .i64)]⟩ .none .none)))) .none)) .none))))))))))) mixed (fun _ _=>Tryz.call65 _ _) Tryz.func65 (by kernel_rfl) (by kernel_rfl) h
theorem Jg (s:B8) (st:St) (K:Int->Int->Int->Int->Int->St->Prop) (h:CallT PR BI [(.box st.nb 0),(.box (st.push (.cells [.str s,.bool false]) (some 170)).nb 0)] [.one (.int .i64)] ((st.push (.cells [.str s,.bool false]) (some 170)).push (.cells [.int .i64 0,.int .i64 0,.int .i64 0,.int .i64 0,.int .i64 0,.int .i64 0,.int .i64 0,.int .u8 0,.int .i64 0,.int .i64 0]) (some 172)) (fun (n1:Int) a=>Ao (Af a [] (.t (.box st.nb 1)) 0) (fun (x1:TV)=>Ar .bool x1 (fun (b1:Bool)=>BIf b1 (K 0 0 0 0 3 a) (Ao (Af a [] (.t (.box st.nb 0)) 0) (fun (x2:TV)=>Ar .str x2 (fun (s1:B8)=>BId (s1≠([]:B8)) (K 0 0 0 0 3 a) (BId (n1≠2) (Ao (Af a [] (.t (.box (st.push (.cells [.str s,.bool false]) (some 170)).nb 0)) 0) (fun (x3:TV)=>Ar (.int .i64) x3 (fun (n2:Int)=>Ao (Af a [] (.t (.box (st.push (.cells [.str s,.bool false]) (some 170)).nb 1)) 0) (fun (x4:TV)=>Ar (.int .i64) x4 (fun (n3:Int)=>Ao (Af a [] (.t (.box (st.push (.cells [.str s,.bool false]) (some 170)).nb 2)) 0) (fun (x5:TV)=>Ar (.int .i64) x5 (fun (n4:Int)=>CallT PR Dw [.int .i64 n2,.int .i64 n3,.int .i64 n4] [.one (.int .i64),.one (.int .i64)] a (fun (n5 n6:Int) b=>BId (n6≠0) (K 0 0 0 0 2 b) (Ao (Af b [] (.t (.box (st.push (.cells [.str s,.bool false]) (some 170)).nb 3)) 0) (fun (x6:TV)=>Ar (.int .i64) x6 (fun (n7:Int)=>BId ((23:Int)<n7) (K 0 0 0 0 2 b) (Ao (Af b [] (.t (.box (st.push (.cells [.str s,.bool false]) (some 170)).nb 4)) 0) (fun (x7:TV)=>Ar (.int .i64) x7 (fun (n8:Int)=>BId ((59:Int)<n8) (K 0 0 0 0 2 b) (Ao (Af b [] (.t (.box (st.push (.cells [.str s,.bool false]) (some 170)).nb 5)) 0) (fun (x8:TV)=>Ar (.int .i64) x8 (fun (n9:Int)=>BId ((59:Int)<n9) (K 0 0 0 0 2 b) (Ao (Af b [] (.t (.box (st.push (.cells [.str s,.bool false]) (some 170)).nb 8)) 0) (fun (x9:TV)=>Ar (.int .i64) x9 (fun (u:Int)=>BId ((23:Int)<u) (K 0 0 0 0 2 b) (Ao (Af b [] (.t (.box (st.push (.cells [.str s,.bool false]) (some 170)).nb 9)) 0) (fun (b8:TV)=>Ar (.int .i64) b8 (fun (c0:Int)=>BId ((59:Int)<c0) (K 0 0 0 0 2 b) (Ao (Af b [] (.t (.box (st.push (.cells [.str s,.bool false]) (some 170)).nb 3)) 0) (fun (a1:TV)=>Ar (.int .i64) a1 (fun (i:Int)=>Ao (Af b [] (.t (.box (st.push (.cells [.str s,.bool false]) (some 170)).nb 4)) 0) (fun (q:TV)=>Ar (.int .i64) q (fun (d:Int)=>Ao (Af b [] (.t (.box (st.push (.cells [.str s,.bool false]) (some 170)).nb 5)) 0) (fun (w:TV)=>Ar (.int .i64) w (fun (f:Int)=>Ao (Af b [] (.t (.box (st.push (.cells [.str s,.bool false]) (some 170)).nb 6)) 0) (fun (a5:TV)=>Ar (.int .i64) a5 (fun (k:Int)=>Ao (Af b [] (.t (.box (st.push (.cells [.str s,.bool false]) (some 170)).nb 8)) 0) (fun (x:TV)=>Ar (.int .i64) x (fun (g:Int)=>Ao (Af b [] (.t (.box (st.push (.cells [.str s,.bool false]) (some 170)).nb 9)) 0) (fun (a7:TV)=>Ar (.int .i64) a7 (fun (o:Int)=>Ao (Af b [] (.t (.box (st.push (.cells [.str s,.bool false]) (some 170)).nb 7)) 0) (fun (a9:TV)=>Ar (.int .u8) a9 (fun (r:Int)=>BId (r=45) (K n1 n5 ((i64.wrap ((i64.wrap ((i64.wrap ((i64.wrap ((i64.wrap ((i64.wrap (i*(60:Int)))+d))*(60:Int)))+f))*(1000000000:Int)))+k))) ((i64.wrap (0-(i64.wrap ((i64.wrap (g*(60:Int)))+o))))) 0 b) (K n1 n5 ((i64.wrap ((i64.wrap ((i64.wrap ((i64.wrap ((i64.wrap ((i64.wrap (i*(60:Int)))+d))*(60:Int)))+f))*(1000000000:Int)))+k))) ((i64.wrap ((i64.wrap (g*(60:Int)))+o))) 0 b))))))))))))))))))))))))))))))))))))))) (Ao (Af a [] (.t (.box (st.push (.cells [.str s,.bool false]) (some 170)).nb 3)) 0) (fun (a0:TV)=>Ar (.int .i64) a0 (fun (b6:Int)=>BId ((23:Int)<b6) (K 0 0 0 0 2 a) (Ao (Af a [] (.t (.box (st.push (.cells [.str s,.bool false]) (some 170)).nb 4)) 0) (fun (b4:TV)=>Ar (.int .i64) b4 (fun (b9:Int)=>BId ((59:Int)<b9) (K 0 0 0 0 2 a) (Ao (Af a [] (.t (.box (st.push (.cells [.str s,.bool false]) (some 170)).nb 5)) 0) (fun (v:TV)=>Ar (.int .i64) v (fun (y:Int)=>BId ((59:Int)<y) (K 0 0 0 0 2 a) (Ao (Af a [] (.t (.box (st.push (.cells [.str s,.bool false]) (some 170)).nb 8)) 0) (fun (b0:TV)=>Ar (.int .i64) b0 (fun (a4:Int)=>BId ((23:Int)<a4) (K 0 0 0 0 2 a) (Ao (Af a [] (.t (.box (st.push (.cells [.str s,.bool false]) (some 170)).nb 9)) 0) (fun (b5:TV)=>Ar (.int .i64) b5 (fun (z:Int)=>BId ((59:Int)<z) (K 0 0 0 0 2 a) (Ao (Af a [] (.t (.box (st.push (.cells [.str s,.bool false]) (some 170)).nb 3)) 0) (fun (b7:TV)=>Ar (.int .i64) b7 (fun (n:Int)=>Ao (Af a [] (.t (.box (st.push (.cells [.str s,.bool false]) (some 170)).nb 4)) 0) (fun (a2:TV)=>Ar (.int .i64) a2 (fun (c:Int)=>Ao (Af a [] (.t (.box (st.push (.cells [.str s,.bool false]) (some 170)).nb 5)) 0) (fun (b3:TV)=>Ar (.int .i64) b3 (fun (l:Int)=>Ao (Af a [] (.t (.box (st.push (.cells [.str s,.bool false]) (some 170)).nb 6)) 0) (fun (p:TV)=>Ar (.int .i64) p (fun (e:Int)=>Ao (Af a [] (.t (.box (st.push (.cells [.str s,.bool false]) (some 170)).nb 8)) 0) (fun (b2:TV)=>Ar (.int .i64) b2 (fun (j:Int)=>Ao (Af a [] (.t (.box (st.push (.cells [.str s,.bool false]) (some 170)).nb 9)) 0) (fun (a6:TV)=>Ar (.int .i64) a6 (fun (m:Int)=>Ao (Af a [] (.t (.box (st.push (.cells [.str s,.bool false]) (some 170)).nb 7)) 0) (fun (a3:TV)=>Ar (.int .u8) a3 (fun (a8:Int)=>BId (a8=45) (K n1 0 ((i64.wrap ((i64.wrap ((i64.wrap ((i64.wrap ((i64.wrap ((i64.wrap (n*(60:Int)))+c))*(60:Int)))+l))*(1000000000:Int)))+e))) ((i64.wrap (0-(i64.wrap ((i64.wrap (j*(60:Int)))+m))))) 0 a) (K n1 0 ((i64.wrap ((i64.wrap ((i64.wrap ((i64.wrap ((i64.wrap ((i64.wrap (n*(60:Int)))+c))*(60:Int)))+l))*(1000000000:Int)))+e))) ((i64.wrap ((i64.wrap (j*(60:Int)))+m))) 0 a))))))))))))))))))))))))))))))))))))))):CallT PR Cs [.str s] [.agg [.int .i64,.int .i64,.int .i64,.int .i64],.one (.int .i64)] st K:=
 Ad (cfg:=⟨[2,7],[],[]⟩) (h:= .none) mixed (fun _ _=>Tryz.call66 _ _) Tryz.func66 (by kernel_rfl) (by kernel_rfl) h
theorem Fa (d_0:Bool) (d_1:B8) (d_2:Int) (st:St) (K:B8->St->Prop) (h:∃(C1:Bool->B8->Int->St->Prop),(BId (d_1=([]:B8)) (K HB st) (CallT PR Da [(.agg [.bool d_0,.str d_1,.int .i64 d_2])] [.one .bool] st (fun (b1:Bool) u=>BIf (!b1) (K HB u) (C1 d_0 d_1 d_2 u))))/\∀b2 s1 n1 o,C1 b2 s1 n1 o->(∃(C2:B8->Bool->B8->Int->St->Prop),(BIf b2 (C2 FO b2 s1 n1 o) (C2 [] b2 s1 n1 o))/\∀r b3 s2 n2 q,C2 r b3 s2 n2 q->(∃(C3:B8->Int->Int->Bool->B8->Int->St->Prop),(∃(C4:Bool->B8->Int->Int->Bool->B8->Int->St->Prop),(BId ((0:Int)<=n2) (C4 ((decide ((i64.wrap ((s2.length:Int)+n2))<=(21:Int)))) r ((s2.length:Int)) ((i64.wrap ((s2.length:Int)+n2))) b3 s2 n2 q) (C4 false r ((s2.length:Int)) ((i64.wrap ((s2.length:Int)+n2))) b3 s2 n2 q))/\∀s d k e b4 s3 n3 i,C4 s d k e b4 s3 n3 i->(BIf s ((d.length+s3.length<=9223372036854775807/\CallT PR CI [.str HB,.int .i64 n3] [.one .str] i (fun (s4:B8) y=>(((d++s3)).length+s4.length<=9223372036854775807/\K (((d++s3)++s4)) y)))) (∃(C5:Bool->B8->Int->Int->Bool->B8->Int->St->Prop),(BId (n3<0) (BId ((1:Int)<=e) (C5 ((decide (e<=21))) d k e b4 s3 n3 i) (C5 false d k e b4 s3 n3 i)) (C5 false d k e b4 s3 n3 i))/\∀t b p a b5 s5 n4 f,C5 t b p a b5 s5 n4 f->(BIf t (((0<=a/\a<=(s5.length:Int))/\(b.length+((List.take a.toNat s5)).length<=9223372036854775807/\(((b++(List.take a.toNat s5))).length+Gw.length<=9223372036854775807/\((0<=a/\a<=(s5.length:Int))/\((((b++(List.take a.toNat s5))++Gw)).length+((List.drop a.toNat s5)).length<=9223372036854775807/\K ((((b++(List.take a.toNat s5))++Gw)++(List.drop a.toNat s5))) f)))))) (BId ((-5:Int)<=a) (BId (a<=0) ((b.length+OR.length<=9223372036854775807/\CallT PR CI [.str HB,(.int .i64 (i64.wrap (0-a)))] [.one .str] f (fun (s6:B8) z=>(((b++OR)).length+s6.length<=9223372036854775807/\((((b++OR)++s6)).length+s5.length<=9223372036854775807/\K ((((b++OR)++s6)++s5)) z))))) (C3 b p a b5 s5 n4 f)) (C3 b p a b5 s5 n4 f))))))/\∀g v n b6 s7 n5 m,C3 g v n b6 s7 n5 m->(((0<=(1:Int)/\(1:Int)<=(s7.length:Int))/\(g.length+((List.take (Int.toNat (1:Int)) s7)).length<=9223372036854775807/\∃(C6:B8->Int->St->Prop),(BId ((1:Int)<v) (((0<=(1:Int)/\(1:Int)<=(s7.length:Int))/\(Gw.length+((List.drop (Int.toNat (1:Int)) s7)).length<=9223372036854775807/\(((g++(List.take (Int.toNat (1:Int)) s7))).length+((Gw++(List.drop (Int.toNat (1:Int)) s7))).length<=9223372036854775807/\C6 (((g++(List.take (Int.toNat (1:Int)) s7))++(Gw++(List.drop (Int.toNat (1:Int)) s7)))) n m)))) (C6 ((g++(List.take (Int.toNat (1:Int)) s7))) n m))/\∀c j l,C6 c j l->(BId (j<1) ((c.length+QG.length<=9223372036854775807/\CallT PR B9 [(.int .i64 (i64.wrap ((1:Int)-j)))] [.one .str] l (fun (s8:B8) w=>(((c++QG)).length+s8.length<=9223372036854775807/\K (((c++QG)++s8)) w)))) ((c.length+QF.length<=9223372036854775807/\CallT PR B9 [(.int .i64 (i64.wrap (j-(1:Int))))] [.one .str] l (fun (s9:B8) x=>(((c++QF)).length+s9.length<=9223372036854775807/\K (((c++QF)++s9)) x))))))))))):CallT PR Dv [(.agg [.bool d_0,.str d_1,.int .i64 d_2])] [.one .str] st K:=
 Ad (cfg:=⟨[1],[],[]⟩) (h:=(.seq .none (.cut ⟨[],[(1,0,0)],[(0,3)],[(0,0,.bool),(0,1,.str),(0,2,.int .i64)]⟩ .none (.seq .none (.cut ⟨[(3,.str)],[(1,0,0)],[(0,3)],[(0,0,.bool),(0,1,.str),(0,2,.int .i64)]⟩ .none (.seq .none (.seq .none (.cut ⟨[(3,.str),(4,.int .i64),(5,.int .i64)],[(1,0,0)],[(0,3)],[(0,0,.bool),(0,1,.str),(0,2,.int .i64)]⟩ (.block (.cut ⟨[(23,.bool),(3,.str),(4,.int .i64),(5,.int .i64)],[(1,0,0)],[(0,3)],[(0,0,.bool),(0,1,.str),(0,2,.int .i64)]⟩ .none (.cond .none (.cut ⟨[(39,.bool),(3,.str),(4,.int .i64),(5,.int .i64)],[(1,0,0)],[(0,3)],[(0,0,.bool),(0,1,.str),(0,2,.int .i64)]⟩ .none .none)))) (.seq .none (.cut ⟨[(3,.str),(5,.int .i64)],[],[],[]⟩ .none .none)))))))))) mixed (fun _ _=>Tryz.call71 _ _) Tryz.func71 (by kernel_rfl) (by kernel_rfl) h
theorem Jy (t_0:Int) (t_1:Int) (t_2:Int) (t_3:Int) (st:St) (K:B8->St->Prop) (h:CallT PR Dr [(.agg [.int .i64 t_0,.int .i64 t_1,.int .i64 t_2,.int .i64 t_3])] [.one .bool] st (fun (b1:Bool) a=>BIf (!b1) (K [] a) (BId (t_0=1) (CallT PR AV [.int .i64 t_1] [.one .str] a (fun (s1:B8) d=>K s1 d)) (BId (t_0=2) (CallT PR AP [.int .i64 t_2] [.one .str] a (fun (s2:B8) c=>K s2 c)) (BId (t_0=3) (CallT PR AV [.int .i64 t_1] [.one .str] a (fun (s3:B8) b=>(s3.length+JI.length<=9223372036854775807/\CallT PR AP [.int .i64 t_2] [.one .str] b (fun (s4:B8) f=>(((s3++JI)).length+s4.length<=9223372036854775807/\K (((s3++JI)++s4)) f))))) (CallT PR AV [.int .i64 t_1] [.one .str] a (fun (s5:B8) g=>(s5.length+JI.length<=9223372036854775807/\CallT PR AP [.int .i64 t_2] [.one .str] g (fun (s6:B8) i=>(((s5++JI)).length+s6.length<=9223372036854775807/\CallT PR BW [.int .i64 t_3] [.one .str] i (fun (s7:B8) e=>((((s5++JI)++s6)).length+s7.length<=9223372036854775807/\K ((((s5++JI)++s6)++s7)) e)))))))))))):CallT PR DX [(.agg [.int .i64 t_0,.int .i64 t_1,.int .i64 t_2,.int .i64 t_3])] [.one .str] st K:=
 Ad (cfg:=⟨[1],[],[]⟩) (h:= .none) mixed (fun _ _=>Tryz.call72 _ _) Tryz.func72 (by kernel_rfl) (by kernel_rfl) h
theorem Hl (s:B8) (st:St) (K:B8->Int->St->Prop) (h:CallT PR Cr [.str s] [.one (.int .i64)] st (fun (n1:Int) j=>BId ((0:Int)<=n1) (K [] 5 j) (∃(I1:TV->Int->B8->St->Prop) (M1:TV->Int->B8->St->Nat),(I1 ((.list 1 .full 1 [.int .u8 34])) 0 s j)/\∀c a b d,I1 c a b d->(BId (a<(b.length:Int)) (((0<=a/\a<(b.length:Int))/\CallT PR AH [.str Gv,(.int .u8 ((List.getD b a.toNat 0).toNat:Int))] [.one (.int .i64)] d (fun (n2:Int) e=>BId ((0:Int)<=n2) (((0<=n2/\n2<(Mv.length:Int))/\Bp 5 1 1 c 2 [.int .u8 92,(.int .u8 ((List.getD Mv n2.toNat 0).toNat:Int))] e (fun (v1:TV) f=>(I1 v1 ((i64.wrap (a+(1:Int)))) b f/\M1 v1 ((i64.wrap (a+(1:Int)))) b f<M1 c a b d)))) (BId (((List.getD b a.toNat 0).toNat:Int)<(32:Int)) (((0<=(Int.fdiv ((List.getD b a.toNat 0).toNat:Int) (2^(min (Int.toNat (4:Int)) (IntKind.bits .u8))))/\(Int.fdiv ((List.getD b a.toNat 0).toNat:Int) (2^(min (Int.toNat (4:Int)) (IntKind.bits .u8))))<(FQ.length:Int))/\((0<=(Ai .and .u8 ((List.getD b a.toNat 0).toNat:Int) (15:Int))/\(Ai .and .u8 ((List.getD b a.toNat 0).toNat:Int) (15:Int))<(FQ.length:Int))/\Bp 5 1 1 c 6 [.int .u8 92,.int .u8 117,.int .u8 48,.int .u8 48,(.int .u8 ((List.getD FQ (Int.toNat (Int.fdiv ((List.getD b a.toNat 0).toNat:Int) (2^(min (Int.toNat (4:Int)) (IntKind.bits .u8))))) 0).toNat:Int)),(.int .u8 ((List.getD FQ (Int.toNat (Ai .and .u8 ((List.getD b a.toNat 0).toNat:Int) (15:Int))) 0).toNat:Int))] e (fun (v2:TV) g=>(I1 v2 ((i64.wrap (a+(1:Int)))) b g/\M1 v2 ((i64.wrap (a+(1:Int)))) b g<M1 c a b d))))) (Bp 5 1 1 c 1 [(.int .u8 ((List.getD b a.toNat 0).toNat:Int))] e (fun (v3:TV) i=>(I1 v3 ((i64.wrap (a+(1:Int)))) b i/\M1 v3 ((i64.wrap (a+(1:Int)))) b i<M1 c a b d))))))) (Bp 5 1 1 c 1 [.int .u8 34] d (fun (v4:TV) k=>Ao ((toBytes k v4).map TV.str) (fun (x1:TV)=>Ar .str x1 (fun (s1:B8)=>K s1 0 k)))))))):CallT PR CH [.str s] [.one .str,.one (.int .i64)] st K:=
 Ad (cfg:=⟨[],[],[]⟩) (h:=(.seq .none (.seq .none (.seq .none (.seq (.seq .none (.block (.loop ⟨[(4,.tv),(5,.int .i64),(0,.str)],[],[],[]⟩ .none))) .none))))) mixed (fun _ _=>Tryz.call73 _ _) Tryz.func73 (by kernel_rfl) (by kernel_rfl) h
theorem Dh (v_0:Int) (v_1:Bool) (v_2:Bool) (v_3:B8) (v_4:Int) (v_5:Int) (v_6:Int) (v_7:Int) (v_8:Int) (v_9:B8) (v_10:TV) (v_11:TV) (v_12:TV) (depth:Int) (seen:Int) (st:St) (K:Int->Int->St->Prop) (h:BId ((48:Int)<depth) (K seen 9 st) (BId ((65536:Int)<=seen) (K seen 10 st) (CallT PR Br [(.agg (cV v_0 v_1 v_2 v_3 v_4 v_5 v_6 v_7 v_8 v_9 v_10 v_11 v_12))] [.one (.int .i64)] st (fun (n1:Int) g=>BId (n1≠0) (K seen n1 g) (CallT PR BY [(.agg (cV v_0 v_1 v_2 v_3 v_4 v_5 v_6 v_7 v_8 v_9 v_10 v_11 v_12))] [.one .tv] g (fun (v1:TV) i=>∃(I1:Int->Int->Int->TV->St->Prop) (M1:Int->Int->Int->TV->St->Nat),(I1 ((i64.wrap (seen+(1:Int)))) 0 depth v1 i)/\∀b d a c e,I1 b d a c e->(need (isSl c) (BId (d<(lenS c:Int)) (((0<=d/\d<(lenZ 13 c:Int))/\Ao ((Am e [] (.t (ixT 13 c d.toNat)) 0 13).map TV.agg) (fun (x1:TV)=>LV [.int .i64,.bool,.bool,.str,.int .i64,.int .i64,.int .i64,.int .i64,.int .i64,.str,.tv,.tv,.tv] x1 (fun (n2:Int) (b1 b2:Bool) (s1:B8) (n3 n4 n5 n6 n7:Int) (s2:B8) (v2 v3 v4:TV)=>CallT PR Bn [(.agg (cV n2 b1 b2 s1 n3 n4 n5 n6 n7 s2 v2 v3 v4)),(.int .i64 (i64.wrap (a+(1:Int)))),.int .i64 b] [.one (.int .i64),.one (.int .i64)] e (fun (n8 n9:Int) f=>BId (n9≠0) (K n8 n9 f) ((I1 n8 ((i64.wrap (d+(1:Int)))) a c f/\M1 n8 ((i64.wrap (d+(1:Int)))) a c f<M1 b d a c e))))))) (K b 0 e))))))))):CallT PR Bn [(.agg (cV v_0 v_1 v_2 v_3 v_4 v_5 v_6 v_7 v_8 v_9 v_10 v_11 v_12)),.int .i64 depth,.int .i64 seen] [.one (.int .i64),.one (.int .i64)] st K:=
 Ad (cfg:=⟨[3],[],[]⟩) (h:=(.seq .none (.seq .none (.seq .none (.seq .none (.seq .none (.seq .none (.seq (.seq .none (.block (.loop ⟨[(2,.int .i64),(10,.int .i64),(1,.int .i64),(9,.tv)],[],[],[]⟩ .none))) .none)))))))) mixed (fun _ _=>Tryz.call83 _ _) Tryz.func83 (by kernel_rfl) (by kernel_rfl) h
theorem Je (s:B8) (st:St) (K:Int->St->Prop) (h:∃(I1:Int->B8->St->Prop) (M1:Int->B8->St->Nat),(I1 0 s st)/\∀a b d,I1 a b d->(BId (a<(b.length:Int)) (((0<=a/\a<=(b.length:Int))/\CallT PR AG [(.str (List.drop a.toNat b))] [.one (.int .i32),.one (.int .i64)] d (fun (n1 n2:Int) c=>BId (n1=65533) (BId (n2=1) (K a c) ((I1 ((i64.wrap (a+n2))) b c/\M1 ((i64.wrap (a+n2))) b c<M1 a b d))) ((I1 ((i64.wrap (a+n2))) b c/\M1 ((i64.wrap (a+n2))) b c<M1 a b d))))) (K (-1) d))):CallT PR Cr [.str s] [.one (.int .i64)] st K:=
 Ad (cfg:=⟨[],[],[]⟩) (h:=(.seq .none (.seq (.seq .none (.block (.loop ⟨[(3,.int .i64),(0,.str)],[],[],[]⟩ .none))) .none))) mixed (fun _ _=>Tryz.call87 _ _) Tryz.func87 (by kernel_rfl) (by kernel_rfl) h
theorem Gp (st:St) (K:TV->TV->St->Prop) (h:stB (st.push (.cells [.nilFunc]) (some 138)) (.box st.nb 0) [(.func Az [])] (fun b=>Ao (Af b [] (.t (.box st.nb 0)) 0) (fun (v1:TV)=>need (List.all [v1] BQ) (stB b (.box st.nb 0) [v1] (fun a=>Ao (Af a [] (.t (.box st.nb 0)) 0) (fun (x2:TV)=>K x2 ((.func BH [(.box st.nb 0)])) a)))))):CallT PR A6 [] [.one .tv,.one .tv] st K:=
 Ad (cfg:=⟨[],[],[]⟩) (h:= .none) mixed (fun _ _=>Tryz.call88 _ _) Tryz.func88 (by kernel_rfl) (by kernel_rfl) h
theorem Jb (s:B8) (i:Int) (classx:TV) (st:St) (K:Int->St->Prop) (h:∃(I1:Int->B8->TV->St->Prop) (M1:Int->B8->TV->St->Nat),(I1 i s classx st)/\∀b c a d,I1 b c a d->(BId (b<(c.length:Int)) (((0<=b/\b<(c.length:Int))/\Kt PR a [(.int .u8 ((List.getD c b.toNat 0).toNat:Int))] [.one .bool] d (fun (b1:Bool) e=>BIf b1 ((I1 ((i64.wrap (b+(1:Int)))) c a e/\M1 ((i64.wrap (b+(1:Int)))) c a e<M1 b c a d)) (K b e)))) (K b d))):CallT PR A5 [.str s,.int .i64 i,classx] [.one (.int .i64)] st K:=
 Ad (cfg:=⟨[],[],[]⟩) (h:=(.seq .none (.seq (.block (.loop ⟨[(1,.int .i64),(0,.str),(2,.tv)],[],[],[]⟩ .none)) .none))) mixed (fun _ _=>Tryz.call89 _ _) Tryz.func89 (by kernel_rfl) (by kernel_rfl) h
theorem FH (v_0:Int) (v_1:Bool) (v_2:Bool) (v_3:B8) (v_4:Int) (v_5:Int) (v_6:Int) (v_7:Int) (v_8:Int) (v_9:B8) (v_10:TV) (v_11:TV) (v_12:TV) (st:St) (K:TV->St->Prop) (h:BId (v_0≠7) (K v_11 st) (∃(I1:TV->Int->V13 (St->Prop)) (M1:TV->Int->V13 (St->Nat)),(I1 .nilSlice 0 v_0 v_1 v_2 v_3 v_4 v_5 v_6 v_7 v_8 v_9 v_10 v_11 v_12 st)/\∀b a n1 b1 b2 s1 n2 n3 n4 n5 n6 s2 v1 v2 v3 c,I1 b a n1 b1 b2 s1 n2 n3 n4 n5 n6 s2 v1 v2 v3 c->(need (isSl v3) (BId (a<(lenS v3:Int)) (((0<=a/\a<(lenZ 14 v3:Int))/\need (isPtr (ixT 14 v3 a.toNat)) (Ao ((Am c [] (.t (AX (ixT 14 v3 a.toNat) 1)) 0 13).map TV.agg) (fun (x1:TV)=>LV [.int .i64,.bool,.bool,.str,.int .i64,.int .i64,.int .i64,.int .i64,.int .i64,.str,.tv,.tv,.tv] x1 (fun (n7:Int) (b3 b4:Bool) (s3:B8) (n8 n9 f g e:Int) (s4:B8) (v4 v5 v6:TV)=>need (List.all (cV n7 b3 b4 s3 n8 n9 f g e s4 v4 v5 v6) BQ) (Bp 33 13 168 b 1 (cV n7 b3 b4 s3 n8 n9 f g e s4 v4 v5 v6) c (fun (v7:TV) d=>(I1 v7 ((i64.wrap (a+(1:Int)))) n1 b1 b2 s1 n2 n3 n4 n5 n6 s2 v1 v2 v3 d/\M1 v7 ((i64.wrap (a+(1:Int)))) n1 b1 b2 s1 n2 n3 n4 n5 n6 s2 v1 v2 v3 d<M1 b a n1 b1 b2 s1 n2 n3 n4 n5 n6 s2 v1 v2 v3 c)))))))) (K b c))))):CallT PR BY [(.agg (cV v_0 v_1 v_2 v_3 v_4 v_5 v_6 v_7 v_8 v_9 v_10 v_11 v_12))] [.one .tv] st K:=
 Ad (cfg:=⟨[1],[],[]⟩) (h:=(.seq .none (.seq .none (.seq .none (.seq (.seq .none (.block (.loop ⟨[(3,.tv),(4,.int .i64)],[(1,0,0)],[(0,13)],[(0,0,.int .i64),(0,1,.bool),(0,2,.bool),(0,3,.str),(0,4,.int .i64),(0,5,.int .i64),(0,6,.int .i64),(0,7,.int .i64),(0,8,.int .i64),(0,9,.str),(0,10,.tv),(0,11,.tv),(0,12,.tv)]⟩ .none))) .none))))) mixed (fun _ _=>Tryz.call107 _ _) Tryz.func107 (by kernel_rfl) (by kernel_rfl) h
theorem Fs (s:B8) (st:St) (K:Bool->St->Prop) (h:CallT PR Bd [.str s] [.one .tv,.one .bool] st (fun (v1:TV) (b1:Bool) a=>K b1 a)):CallT PR AC [.str s] [.one .bool] st K:=
 Ad (cfg:=⟨[],[],[]⟩) (h:= .none) mixed (fun _ _=>Tryz.call109 _ _) Tryz.func109 (by kernel_rfl) (by kernel_rfl) h
theorem Jd (s:B8) (atx:Int) (st:St) (K:Int->Int->Int->St->Prop) (h:CallT PR A6 [] [.one .tv,.one .tv] st (fun (v1 v2:TV) a=>((0<=atx/\atx<(s.length:Int))/\BId (((List.getD s atx.toNat 0).toNat:Int)=(32:Int)) (CallT PR A5 [.str s,.int .i64 atx,(.func BO [])] [.one (.int .i64)] a (fun (n1:Int) j=>K 1 n1 0 j)) (BId (((List.getD s atx.toNat 0).toNat:Int)=(9:Int)) (CallT PR A5 [.str s,.int .i64 atx,(.func BO [])] [.one (.int .i64)] a (fun (n2:Int) f=>K 1 n2 0 f)) (BId (((List.getD s atx.toNat 0).toNat:Int)=(10:Int)) (CallT PR B6 [.str s,.int .i64 atx] [.one (.int .i64),.one (.int .i64)] a (fun (n3 n4:Int) e=>K 2 n3 n4 e)) (BId (((List.getD s atx.toNat 0).toNat:Int)=(13:Int)) (CallT PR B6 [.str s,.int .i64 atx] [.one (.int .i64),.one (.int .i64)] a (fun (n5 n6:Int) m=>K 2 n5 n6 m)) (BId (((List.getD s atx.toNat 0).toNat:Int)=(35:Int)) (CallT PR Cf [.str s,.int .i64 atx] [.one (.int .i64),.one (.int .i64)] a (fun (n7 n8:Int) n=>K 3 n7 n8 n)) (CallT PR AH [.str QE,(.int .u8 ((List.getD s atx.toNat 0).toNat:Int))] [.one (.int .i64)] a (fun (n9:Int) b=>BId ((0:Int)<=n9) (K 4 ((i64.wrap (atx+(1:Int)))) 0 b) (BId (((List.getD s atx.toNat 0).toNat:Int)=(34:Int)) (CallT PR AU [.str s,.int .i64 atx] [.one .str,.one (.int .i64),.one (.int .i64)] b (fun (s1:B8) (o q:Int) g=>K 5 o q g)) (BId (((List.getD s atx.toNat 0).toNat:Int)=(39:Int)) (CallT PR AU [.str s,.int .i64 atx] [.one .str,.one (.int .i64),.one (.int .i64)] b (fun (s2:B8) (k i:Int) l=>K 5 k i l)) (Kt PR v2 [(.int .u8 ((List.getD s atx.toNat 0).toNat:Int))] [.one .bool] b (fun (b1:Bool) c=>BIf b1 (CallT PR CG [.str s,.int .i64 atx] [.one (.int .i64)] c (fun (p:Int) d=>K 6 p 0 d)) (K 0 0 3 c)))))))))))))):CallT PR Dq [.str s,.int .i64 atx] [.one (.int .i64),.one (.int .i64),.one (.int .i64)] st K:=
 Ad (cfg:=⟨[],[],[]⟩) (h:= .none) mixed (fun _ _=>Tryz.call111 _ _) Tryz.func111 (by kernel_rfl) (by kernel_rfl) h
theorem GQ (s:B8) (i:Int) (st:St) (K:B8->Int->Int->St->Prop) (h:((0<=i/\i<(s.length:Int))/\∃(I1:Int->TV->B8->Int->St->Prop) (M1:Int->TV->B8->Int->St->Nat),(I1 ((i64.wrap (i+(1:Int)))) .nilSlice s (((List.getD s i.toNat 0).toNat:Int)) st)/\∀a d c b f,I1 a d c b f->(BId (a<(c.length:Int)) (((0<=a/\a<=(c.length:Int))/\CallT PR AG [(.str (List.drop a.toNat c))] [.one (.int .i32),.one (.int .i64)] f (fun (n1 n2:Int) e=>((0<=a/\a<(c.length:Int))/\BId (((List.getD c a.toNat 0).toNat:Int)=b) (Ao ((toBytes e d).map TV.str) (fun (x1:TV)=>Ar .str x1 (fun (s1:B8)=>K s1 ((i64.wrap (a+(1:Int)))) 0 e))) (((0<=a/\a<(c.length:Int))/\BId (((List.getD c a.toNat 0).toNat:Int)<(32:Int)) (K [] 0 5 e) (BId (n1=65533) (BId (n2=1) (K [] 0 5 e) (((0<=a/\a<(c.length:Int))/\BId (((List.getD c a.toNat 0).toNat:Int)≠(92:Int)) (((0<=a/\a<=(i64.wrap (a+n2))/\(i64.wrap (a+n2))<=(c.length:Int))/\Ao (Et e 1 (.str (List.drop a.toNat (List.take (Int.toNat (i64.wrap (a+n2))) c)))) (fun (q1:Nat×List TV)=>need (List.all q1.2 BQ) (Bp 5 1 1 d q1.1 q1.2 e (fun (v1:TV) v=>(I1 ((i64.wrap (a+n2))) v1 c b v/\M1 ((i64.wrap (a+n2))) v1 c b v<M1 a d c b f)))))) (BId (b=39) (((0<=a/\a<=(i64.wrap (a+n2))/\(i64.wrap (a+n2))<=(c.length:Int))/\Ao (Et e 1 (.str (List.drop a.toNat (List.take (Int.toNat (i64.wrap (a+n2))) c)))) (fun (q2:Nat×List TV)=>need (List.all q2.2 BQ) (Bp 5 1 1 d q2.1 q2.2 e (fun (v2:TV) u=>(I1 ((i64.wrap (a+n2))) v2 c b u/\M1 ((i64.wrap (a+n2))) v2 c b u<M1 a d c b f)))))) (BId ((c.length:Int)<=(i64.wrap (a+(1:Int)))) (K [] 0 4 e) (((0<=(i64.wrap (a+(1:Int)))/\(i64.wrap (a+(1:Int)))<(c.length:Int))/\BId (((List.getD c (Int.toNat (i64.wrap (a+(1:Int)))) 0).toNat:Int)=(117:Int)) (CallT PR BA [.str c,(.int .i64 (i64.wrap (a+(2:Int))))] [.one (.int .i32),.one (.int .i64),.one (.int .i64)] e (fun (n3 n4 n5:Int) p=>BId (n5≠0) (K [] 0 n5 p) (CallT PR Bz [d,.int .i32 n3] [.one .tv] p (fun (v3:TV) q=>(I1 n4 v3 c b q/\M1 n4 v3 c b q<M1 a d c b f))))) (((0<=(i64.wrap (a+(1:Int)))/\(i64.wrap (a+(1:Int)))<(c.length:Int))/\CallT PR AH [.str FP,(.int .u8 ((List.getD c (Int.toNat (i64.wrap (a+(1:Int)))) 0).toNat:Int))] [.one (.int .i64)] e (fun (n6:Int) t=>BId (n6<0) (K [] 0 3 t) (((0<=n6/\n6<(KU.length:Int))/\Bp 5 1 1 d 1 [(.int .u8 ((List.getD KU n6.toNat 0).toNat:Int))] t (fun (v4:TV) r=>(I1 ((i64.wrap (a+(2:Int)))) v4 c b r/\M1 ((i64.wrap (a+(2:Int)))) v4 c b r<M1 a d c b f)))))))))))))) (((0<=a/\a<(c.length:Int))/\BId (((List.getD c a.toNat 0).toNat:Int)≠(92:Int)) (((0<=a/\a<=(i64.wrap (a+n2))/\(i64.wrap (a+n2))<=(c.length:Int))/\Ao (Et e 1 (.str (List.drop a.toNat (List.take (Int.toNat (i64.wrap (a+n2))) c)))) (fun (q3:Nat×List TV)=>need (List.all q3.2 BQ) (Bp 5 1 1 d q3.1 q3.2 e (fun (v5:TV) o=>(I1 ((i64.wrap (a+n2))) v5 c b o/\M1 ((i64.wrap (a+n2))) v5 c b o<M1 a d c b f)))))) (BId (b=39) (((0<=a/\a<=(i64.wrap (a+n2))/\(i64.wrap (a+n2))<=(c.length:Int))/\Ao (Et e 1 (.str (List.drop a.toNat (List.take (Int.toNat (i64.wrap (a+n2))) c)))) (fun (q4:Nat×List TV)=>need (List.all q4.2 BQ) (Bp 5 1 1 d q4.1 q4.2 e (fun (v6:TV) l=>(I1 ((i64.wrap (a+n2))) v6 c b l/\M1 ((i64.wrap (a+n2))) v6 c b l<M1 a d c b f)))))) (BId ((c.length:Int)<=(i64.wrap (a+(1:Int)))) (K [] 0 4 e) (((0<=(i64.wrap (a+(1:Int)))/\(i64.wrap (a+(1:Int)))<(c.length:Int))/\BId (((List.getD c (Int.toNat (i64.wrap (a+(1:Int)))) 0).toNat:Int)=(117:Int)) (CallT PR BA [.str c,(.int .i64 (i64.wrap (a+(2:Int))))] [.one (.int .i32),.one (.int .i64),.one (.int .i64)] e (fun (n7 n8 n9:Int) n=>BId (n9≠0) (K [] 0 n9 n) (CallT PR Bz [d,.int .i32 n7] [.one .tv] n (fun (v7:TV) j=>(I1 n8 v7 c b j/\M1 n8 v7 c b j<M1 a d c b f))))) (((0<=(i64.wrap (a+(1:Int)))/\(i64.wrap (a+(1:Int)))<(c.length:Int))/\CallT PR AH [.str FP,(.int .u8 ((List.getD c (Int.toNat (i64.wrap (a+(1:Int)))) 0).toNat:Int))] [.one (.int .i64)] e (fun (g:Int) k=>BId (g<0) (K [] 0 3 k) (((0<=g/\g<(KU.length:Int))/\Bp 5 1 1 d 1 [(.int .u8 ((List.getD KU g.toNat 0).toNat:Int))] k (fun (v8:TV) m=>(I1 ((i64.wrap (a+(2:Int)))) v8 c b m/\M1 ((i64.wrap (a+(2:Int)))) v8 c b m<M1 a d c b f)))))))))))))))))))) (K [] 0 4 f)))):CallT PR AU [.str s,.int .i64 i] [.one .str,.one (.int .i64),.one (.int .i64)] st K:=
 Ad (cfg:=⟨[],[],[]⟩) (h:=(.seq .none (.seq .none (.seq .none (.seq (.seq .none (.block (.loop ⟨[(1,.int .i64),(8,.tv),(0,.str),(7,.int .u8)],[],[],[]⟩ .none))) .none))))) mixed (fun _ _=>Tryz.call112 _ _) Tryz.func112 (by kernel_rfl) (by kernel_rfl) h
theorem FD (s:B8) (prefixx:B8) (st:St) (K:Bool->St->Prop) (h:CallT PR Co [.str s,.str prefixx] [.one .bool] st (fun (b1:Bool) a=>K b1 a)):CallT PR AB [.str s,.str prefixx] [.one .bool] st K:=
 Ad (cfg:=⟨[],[],[]⟩) (h:= .none) mixed (fun _ _=>Tryz.call113 _ _) Tryz.func113 (by kernel_rfl) (by kernel_rfl) h
theorem Jz (s:B8) (st:St) (K:Int->St->Prop) (h:∃(I1:Int->B8->St->Prop) (M1:Int->B8->St->Nat),(I1 0 s st)/\∀a b c,I1 a b c->(BId (a<(b.length:Int)) (((0<=a/\a<(b.length:Int))/\BId ((48:Int)<=((List.getD b a.toNat 0).toNat:Int)) (((0<=a/\a<(b.length:Int))/\BId (((List.getD b a.toNat 0).toNat:Int)<=(57:Int)) ((I1 ((i64.wrap (a+(1:Int)))) b c/\M1 ((i64.wrap (a+(1:Int)))) b c<M1 a b c)) (K a c))) (K a c))) (K a c))):CallT PR BX [.str s] [.one (.int .i64)] st K:=
 Ad (cfg:=⟨[],[],[]⟩) (h:=(.seq .none (.seq .none (.seq (.block (.loop ⟨[(3,.int .i64),(0,.str)],[],[],[]⟩ .none)) .none)))) mixed (fun _ _=>Tryz.call114 _ _) Tryz.func114 (by kernel_rfl) (by kernel_rfl) h
theorem Ie (exp:Int) (less:Bool) (byx:B8) (st:St) (K:Int->St->Prop) (h:BId ((byx.length:Int)<=(12:Int)) (CallT PR Dt [.str byx] [.one (.int .i64),.one (.int .i64)] st (fun (n1 n2:Int) a=>BIf less (K ((i64.wrap (exp-n1))) a) (K ((i64.wrap (exp+n1))) a))) (BIf less (K ((i64.wrap (exp-(1099511627776:Int)))) st) (K ((i64.wrap (exp+(1099511627776:Int)))) st))):CallT PR C9 [.int .i64 exp,.bool less,.str byx] [.one (.int .i64)] st K:=
 Ad (cfg:=⟨[],[],[]⟩) (h:= .none) mixed (fun _ _=>Tryz.call115 _ _) Tryz.func115 (by kernel_rfl) (by kernel_rfl) h
theorem Jl (neg:Bool) (s:B8) (exp:Int) (st:St) (K:Bool->B8->Int->Int->St->Prop) (h:∃(I1:Int->Bool->B8->Int->Int->Bool->B8->Int->St->Prop) (M1:Int->Bool->B8->Int->Int->Bool->B8->Int->St->Nat),(I1 0 neg s exp ((s.length:Int)) false [] 0 st)/\∀a b c d f b1 s1 n1 e,I1 a b c d f b1 s1 n1 e->(BId (a<f) (((0<=a/\a<(c.length:Int))/\BId (((List.getD c a.toNat 0).toNat:Int)<(48:Int)) (K false [] 0 3 e) (((0<=a/\a<(c.length:Int))/\BId ((57:Int)<((List.getD c a.toNat 0).toNat:Int)) (K false [] 0 3 e) ((I1 ((i64.wrap (a+(1:Int)))) b c d f b1 s1 n1 e/\M1 ((i64.wrap (a+(1:Int)))) b c d f b1 s1 n1 e<M1 a b c d f b1 s1 n1 e)))))) (CallT PR Cg [.str c,.str HB] [.one .str] e (fun (s2:B8) i=>CallT PR Du [.bool b,.str s2,.int .i64 d] [.agg [.bool,.str,.int .i64],.one (.int .i64)] i (fun (b2:Bool) (s3:B8) (n2 n3:Int) g=>K b2 s3 n2 n3 g))))):CallT PR BF [.bool neg,.str s,.int .i64 exp] [.agg [.bool,.str,.int .i64],.one (.int .i64)] st K:=
 Ad (cfg:=⟨[6],[],[]⟩) (h:=(.seq .none (.seq (.seq .none (.block (.loop ⟨[(11,.int .i64),(0,.bool),(1,.str),(2,.int .i64),(10,.int .i64)],[(6,0,0)],[(0,3)],[(0,0,.bool),(0,1,.str),(0,2,.int .i64)]⟩ .none))) .none))) mixed (fun _ _=>Tryz.call117 _ _) Tryz.func117 (by kernel_rfl) (by kernel_rfl) h
theorem Fn (r:Nat) (f:Nat) (st:St) (K:Int->St->Prop) (h:Ao (Af st [] (.t (.box r 0)) 0) (fun (x1:TV)=>Ar .str x1 (fun (s1:B8)=>BId ((2:Int)<(s1.length:Int)) (Ao (Af st [] (.t (.box r 0)) 0) (fun (x2:TV)=>Ar .str x2 (fun (s2:B8)=>((0<=(2:Int)/\(2:Int)<(s2.length:Int))/\BId (((List.getD s2 (Int.toNat (2:Int)) 0).toNat:Int)=(58:Int)) (CallT PR AN [(.box r 0),(.box f 0)] [] st (fun (j:St)=>K 2 j)) (CallT PR Bg [(.box r 0),(.box f 0)] [] st (fun (c:St)=>Ao (Af c [] (.t (.box r 0)) 0) (fun (x3:TV)=>Ar .str x3 (fun (s3:B8)=>BId (s3=([]:B8)) (K 1 c) (CallT PR Ap [(.box r 0),.str str27] [.one (.int .u8)] c (fun (n1:Int) e=>CallT PR AN [(.box r 0),(.box f 0)] [] e (fun (a:St)=>Ao (Af a [] (.t (.box r 0)) 0) (fun (x4:TV)=>Ar .str x4 (fun (s4:B8)=>BId (s4=([]:B8)) (K 3 a) (CallT PR A2 [(.box r 0),(.box f 0)] [] a (fun (i:St)=>K 4 i))))))))))))))) (CallT PR Bg [(.box r 0),(.box f 0)] [] st (fun (d:St)=>Ao (Af d [] (.t (.box r 0)) 0) (fun (x5:TV)=>Ar .str x5 (fun (s5:B8)=>BId (s5=([]:B8)) (K 1 d) (CallT PR Ap [(.box r 0),.str str27] [.one (.int .u8)] d (fun (n2:Int) k=>CallT PR AN [(.box r 0),(.box f 0)] [] k (fun (b:St)=>Ao (Af b [] (.t (.box r 0)) 0) (fun (x6:TV)=>Ar .str x6 (fun (s6:B8)=>BId (s6=([]:B8)) (K 3 b) (CallT PR A2 [(.box r 0),(.box f 0)] [] b (fun (g:St)=>K 4 g)))))))))))))):CallT PR BI [(.box r 0),(.box f 0)] [.one (.int .i64)] st K:=
 Ad (cfg:=⟨[],[],[]⟩) (h:= .none) mixed (fun _ _=>Tryz.call118 _ _) Tryz.func118 (by kernel_rfl) (by kernel_rfl) h
theorem Jm (year:Int) (month:Int) (day:Int) (st:St) (K:Int->Int->St->Prop) (h:BId (day<1) (K 0 2 st) (CallT PR AA [.int .i64 year,.int .i64 month] [.one (.int .i64)] st (fun (n1:Int) g=>BId (n1<day) (K 0 2 g) (CallT PR A4 [.int .i64 year] [.one (.int .i64)] g (fun (n2:Int) i=>∃(I1:Int->Int->Int->Int->St->Prop) (M1:Int->Int->Int->Int->St->Nat),(I1 ((i64.wrap ((i64.wrap (n2+day))-(1:Int)))) 1 year month i)/\∀d c b a e,I1 d c b a e->(BId (c<a) (CallT PR AA [.int .i64 b,.int .i64 c] [.one (.int .i64)] e (fun (n3:Int) f=>(I1 ((i64.wrap (d+n3))) ((i64.wrap (c+(1:Int)))) b a f/\M1 ((i64.wrap (d+n3))) ((i64.wrap (c+(1:Int)))) b a f<M1 d c b a e))) (K d 0 e))))))):CallT PR Dw [.int .i64 year,.int .i64 month,.int .i64 day] [.one (.int .i64),.one (.int .i64)] st K:=
 Ad (cfg:=⟨[],[],[]⟩) (h:=(.seq .none (.seq .none (.seq .none (.seq (.seq .none (.block (.loop ⟨[(8,.int .i64),(9,.int .i64),(0,.int .i64),(1,.int .i64)],[],[],[]⟩ .none))) .none))))) mixed (fun _ _=>Tryz.call119 _ _) Tryz.func119 (by kernel_rfl) (by kernel_rfl) h
theorem If (d_0:Bool) (d_1:B8) (d_2:Int) (st:St) (K:Bool->St->Prop) (h:BId (d_1=([]:B8)) (K (((d_0==false)&&(decide (d_1=([]:B8))&&(decide (d_2=(0:Int))&&true)))) st) (CallT PR Ct [.str d_1] [.one .bool] st (fun (b1:Bool) b=>BIf b1 (BId ((d_1.length:Int)<=(120:Int)) (CallT PR Ds [.str d_1] [.one (.int .i64)] b (fun (n1:Int) a=>BId (n1=0) (BId ((-400:Int)<=d_2) (K ((decide (d_2<=400))) a) (K false a)) (K false a))) (K false b)) (K false b)))):CallT PR Da [(.agg [.bool d_0,.str d_1,.int .i64 d_2])] [.one .bool] st K:=
 Ad (cfg:=⟨[1],[],[]⟩) (h:= .none) mixed (fun _ _=>Tryz.call131 _ _) Tryz.func131 (by kernel_rfl) (by kernel_rfl) h
theorem Id (n:Int) (st:St) (K:B8->St->Prop) (h:BId (n=0) (K HB st) (CallT PR CK [.int .i64 n] [.one .str] st (fun (s1:B8) a=>K s1 a))):CallT PR B9 [.int .i64 n] [.one .str] st K:=
 Ad (cfg:=⟨[],[],[]⟩) (h:= .none) mixed (fun _ _=>Tryz.call133 _ _) Tryz.func133 (by kernel_rfl) (by kernel_rfl) h
theorem Jf (t_0:Int) (t_1:Int) (t_2:Int) (t_3:Int) (st:St) (K:Bool->St->Prop) (h:BId (t_0<1) (K false st) (BId ((4:Int)<t_0) (K false st) (BId (t_1<0) (K false st) (BId ((3652058:Int)<t_1) (K false st) (BId (t_2<0) (K false st) (BId ((86399999999999:Int)<t_2) (K false st) (BId (t_3<(-1439:Int)) (K false st) (BId ((1439:Int)<t_3) (K false st) (BId (t_0=2) (BId (t_1=0) (K ((decide (t_3=0))) st) (K false st)) (BId (t_0=1) (BId (t_2=0) (K ((decide (t_3=0))) st) (K false st)) (BId (t_0=3) (K ((decide (t_3=0))) st) (K true st)))))))))))):CallT PR Dr [(.agg [.int .i64 t_0,.int .i64 t_1,.int .i64 t_2,.int .i64 t_3])] [.one .bool] st K:=
 Ad (cfg:=⟨[1],[],[]⟩) (h:= .none) mixed (fun _ _=>Tryz.call134 _ _) Tryz.func134 (by kernel_rfl) (by kernel_rfl) h
theorem GU (n:Int) (st:St) (K:B8->St->Prop) (h:CallT PR Dc [.int .i64 n] [.one (.int .i64),.one (.int .i64),.one (.int .i64),.one (.int .i64)] st (fun (n1 n2 n3 n4:Int) d=>CallT PR Au [.int .i64 n1,.int .i64 4] [.one .str] d (fun (s1:B8) c=>(s1.length+FO.length<=9223372036854775807/\CallT PR Au [.int .i64 n2,.int .i64 2] [.one .str] c (fun (s2:B8) b=>(((s1++FO)).length+s2.length<=9223372036854775807/\((((s1++FO)++s2)).length+FO.length<=9223372036854775807/\CallT PR Au [.int .i64 n3,.int .i64 2] [.one .str] b (fun (s3:B8) a=>(((((s1++FO)++s2)++FO)).length+s3.length<=9223372036854775807/\K (((((s1++FO)++s2)++FO)++s3)) a))))))))):CallT PR AV [.int .i64 n] [.one .str] st K:=
 Ad (cfg:=⟨[],[],[]⟩) (h:= .none) mixed (fun _ _=>Tryz.call135 _ _) Tryz.func135 (by kernel_rfl) (by kernel_rfl) h
theorem Gr (nano:Int) (st:St) (K:B8->St->Prop) (h:CallT PR Au [(.int .i64 (i64.wrap (Int.tdiv (i64.wrap (Int.tdiv nano (1000000000:Int))) (3600:Int)))),.int .i64 2] [.one .str] st (fun (s1:B8) g=>(s1.length+Cd.length<=9223372036854775807/\CallT PR Au [(.int .i64 (Int.tmod (i64.wrap (Int.tdiv (i64.wrap (Int.tdiv nano (1000000000:Int))) (60:Int))) (60:Int))),.int .i64 2] [.one .str] g (fun (s2:B8) f=>(((s1++Cd)).length+s2.length<=9223372036854775807/\((((s1++Cd)++s2)).length+Cd.length<=9223372036854775807/\CallT PR Au [(.int .i64 (Int.tmod (i64.wrap (Int.tdiv nano (1000000000:Int))) (60:Int))),.int .i64 2] [.one .str] f (fun (s3:B8) d=>(((((s1++Cd)++s2)++Cd)).length+s3.length<=9223372036854775807/\BId ((Int.tmod nano (1000000000:Int))=(0:Int)) (K (((((s1++Cd)++s2)++Cd)++s3)) d) (CallT PR Au [(.int .i64 (Int.tmod nano (1000000000:Int))),.int .i64 9] [.one .str] d (fun (s4:B8) e=>∃(I1:B8->B8->St->Prop) (M1:B8->B8->St->Nat),(I1 s4 (((((s1++Cd)++s2)++Cd)++s3)) e)/\∀a b c,I1 a b c->(((0<=(i64.wrap ((a.length:Int)-(1:Int)))/\(i64.wrap ((a.length:Int)-(1:Int)))<(a.length:Int))/\BId (((List.getD a (Int.toNat (i64.wrap ((a.length:Int)-(1:Int)))) 0).toNat:Int)=(48:Int)) (((0<=(i64.wrap ((a.length:Int)-(1:Int)))/\(i64.wrap ((a.length:Int)-(1:Int)))<=(a.length:Int))/\(I1 ((List.take (Int.toNat (i64.wrap ((a.length:Int)-(1:Int)))) a)) b c/\M1 ((List.take (Int.toNat (i64.wrap ((a.length:Int)-(1:Int)))) a)) b c<M1 a b c))) ((b.length+Gw.length<=9223372036854775807/\(((b++Gw)).length+a.length<=9223372036854775807/\K (((b++Gw)++a)) c))))))))))))))):CallT PR AP [.int .i64 nano] [.one .str] st K:=
 Ad (cfg:=⟨[],[],[]⟩) (h:=(.seq .none (.seq .none (.seq .none (.seq .none (.seq .none (.seq (.block (.loop ⟨[(6,.str),(5,.str)],[],[],[]⟩ .none)) .none))))))) mixed (fun _ _=>Tryz.call136 _ _) Tryz.func136 (by kernel_rfl) (by kernel_rfl) h
theorem FF (n:Int) (st:St) (K:B8->St->Prop) (h:BId (n=0) (K str30 st) (BId (n<0) (CallT PR Au [(.int .i64 (i64.wrap (Int.tdiv (i64.wrap (0-n)) (60:Int)))),.int .i64 2] [.one .str] st (fun (s1:B8) d=>(FO.length+s1.length<=9223372036854775807/\(((FO++s1)).length+Cd.length<=9223372036854775807/\CallT PR Au [(.int .i64 (Int.tmod (i64.wrap (0-n)) (60:Int))),.int .i64 2] [.one .str] d (fun (s2:B8) c=>((((FO++s1)++Cd)).length+s2.length<=9223372036854775807/\K ((((FO++s1)++Cd)++s2)) c)))))) (CallT PR Au [(.int .i64 (i64.wrap (Int.tdiv n (60:Int)))),.int .i64 2] [.one .str] st (fun (s3:B8) b=>(Mw.length+s3.length<=9223372036854775807/\(((Mw++s3)).length+Cd.length<=9223372036854775807/\CallT PR Au [(.int .i64 (Int.tmod n (60:Int))),.int .i64 2] [.one .str] b (fun (s4:B8) a=>((((Mw++s3)++Cd)).length+s4.length<=9223372036854775807/\K ((((Mw++s3)++Cd)++s4)) a)))))))):CallT PR BW [.int .i64 n] [.one .str] st K:=
 Ad (cfg:=⟨[],[],[]⟩) (h:= .none) mixed (fun _ _=>Tryz.call137 _ _) Tryz.func137 (by kernel_rfl) (by kernel_rfl) h
theorem Fq (t_0:Int) (t_1:Int) (t_2:Int) (t_3:Int) (st:St) (K:Bool->St->Prop) (h:BId (t_0<1) (K false st) (BId ((4:Int)<t_0) (K false st) (BId (t_1<0) (K false st) (BId ((3652058:Int)<t_1) (K false st) (BId (t_2<0) (K false st) (BId ((86399999999999:Int)<t_2) (K false st) (BId (t_3<(-1439:Int)) (K false st) (BId ((1439:Int)<t_3) (K false st) (CallT PR BJ [.int .i64 t_0] [.one .bool] st (fun (b1:Bool) c=>BIf b1 (CallT PR A3 [.int .i64 t_0] [.one .bool] c (fun (b2:Bool) b=>BIf b2 (BId (t_0=4) (K true b) (K ((decide (t_3=0))) b)) (BId (t_2=0) (BId (t_0=4) (K true b) (K ((decide (t_3=0))) b)) (K false b)))) (BId (t_1=0) (CallT PR A3 [.int .i64 t_0] [.one .bool] c (fun (b3:Bool) a=>BIf b3 (BId (t_0=4) (K true a) (K ((decide (t_3=0))) a)) (BId (t_2=0) (BId (t_0=4) (K true a) (K ((decide (t_3=0))) a)) (K false a)))) (K false c)))))))))))):CallT PR BK [(.agg [.int .i64 t_0,.int .i64 t_1,.int .i64 t_2,.int .i64 t_3])] [.one .bool] st K:=
 Ad (cfg:=⟨[1],[],[]⟩) (h:= .none) mixed (fun _ _=>Tryz.call141 _ _) Tryz.func141 (by kernel_rfl) (by kernel_rfl) h
theorem Dy (v_0:Int) (v_1:Bool) (v_2:Bool) (v_3:B8) (v_4:Int) (v_5:Int) (v_6:Int) (v_7:Int) (v_8:Int) (v_9:B8) (v_10:TV) (v_11:TV) (v_12:TV) (st:St) (K:Int->St->Prop) (h:CallT PR Ch [(.agg (cV v_0 v_1 v_2 v_3 v_4 v_5 v_6 v_7 v_8 v_9 v_10 v_11 v_12))] [.one .bool] st (fun (b1:Bool) e=>BIf (!b1) (K 6 e) (CallT PR Bi [(.agg [.bool v_2,.str v_3,.int .i64 v_4])] [.one .bool] e (fun (b2:Bool) c=>BIf (!b2) (K 2 c) (BId (v_0=3) (CallT PR BK [(.agg [.int .i64 v_5,.int .i64 v_6,.int .i64 v_7,.int .i64 v_8])] [.one .bool] c (fun (b3:Bool) d=>BIf (!b3) (K 2 d) (CallT PR AC [.str v_9] [.one .bool] d (fun (b4:Bool) a=>BIf (!b4) (K 5 a) (BId ((65536:Int)<(v_9.length:Int)) (K 10 a) (need (isSl v_10) (BId ((65536:Int)<(lenS v_10:Int)) (K 10 a) (CallT PR AK [v_12] [.one (.int .i64)] a (fun (n1:Int) f=>K n1 f))))))))) (CallT PR AC [.str v_9] [.one .bool] c (fun (b5:Bool) b=>BIf (!b5) (K 5 b) (BId ((65536:Int)<(v_9.length:Int)) (K 10 b) (need (isSl v_10) (BId ((65536:Int)<(lenS v_10:Int)) (K 10 b) (CallT PR AK [v_12] [.one (.int .i64)] b (fun (n2:Int) g=>K n2 g)))))))))))):CallT PR Br [(.agg (cV v_0 v_1 v_2 v_3 v_4 v_5 v_6 v_7 v_8 v_9 v_10 v_11 v_12))] [.one (.int .i64)] st K:=
 Ad (cfg:=⟨[1],[],[]⟩) (h:= .none) mixed (fun _ _=>Tryz.call158 _ _) Tryz.func158 (by kernel_rfl) (by kernel_rfl) h
theorem Fm (c:Int) (st:St) (K:Bool->St->Prop) (h:BId ((97:Int)<=c) (BId (c<=122) (K true st) (BId ((65:Int)<=c) (BId (c<=90) (K true st) (BId ((48:Int)<=c) (BId (c<=57) (K true st) (BId (c=95) (K true st) (K ((decide (c=45))) st))) (BId (c=95) (K true st) (K ((decide (c=45))) st)))) (BId ((48:Int)<=c) (BId (c<=57) (K true st) (BId (c=95) (K true st) (K ((decide (c=45))) st))) (BId (c=95) (K true st) (K ((decide (c=45))) st))))) (BId ((65:Int)<=c) (BId (c<=90) (K true st) (BId ((48:Int)<=c) (BId (c<=57) (K true st) (BId (c=95) (K true st) (K ((decide (c=45))) st))) (BId (c=95) (K true st) (K ((decide (c=45))) st)))) (BId ((48:Int)<=c) (BId (c<=57) (K true st) (BId (c=95) (K true st) (K ((decide (c=45))) st))) (BId (c=95) (K true st) (K ((decide (c=45))) st))))):CallT PR Az [.int .u8 c] [.one .bool] st K:=
 Ad (cfg:=⟨[],[],[]⟩) (h:= .none) mixed (fun _ _=>Tryz.call168 _ _) Tryz.func168 (by kernel_rfl) (by kernel_rfl) h
theorem Fl (c:Int) (free0:TV) (st:St) (K:Bool->St->Prop) (h:Ao (Af st [] (.t free0) 0) (fun (v1:TV)=>Kt PR v1 [.int .u8 c] [.one .bool] st (fun (b1:Bool) a=>BIf b1 (K true a) (BId (c=43) (K true a) (BId (c=46) (K true a) (K ((decide (c=58))) a)))))):CallT PR BH [.int .u8 c,free0] [.one .bool] st K:=
 Ad (cfg:=⟨[],[],[]⟩) (h:= .none) mixed (fun _ _=>Tryz.call169 _ _) Tryz.func169 (by kernel_rfl) (by kernel_rfl) h
theorem DS (s:B8) (st:St) (K:TV->Bool->St->Prop) (h:∃(I1:TV->Int->B8->St->Prop) (M1:TV->Int->B8->St->Nat),(I1 ((.list 1 .full 1 [.int .i64 0])) 0 s st)/\∀c a b d,I1 c a b d->(BId (a<(b.length:Int)) (CallT PR Ba [.str b,.int .i64 a] [.one (.int .i64),.one (.int .i64)] d (fun (n1 n2:Int) f=>BId (n2=0) (K c false f) (Bp 3 1 8 c 1 [(.int .i64 (i64.wrap (a+n2)))] f (fun (v1:TV) e=>(I1 v1 ((i64.wrap (a+n2))) b e/\M1 v1 ((i64.wrap (a+n2))) b e<M1 c a b d))))) (K c true d))):CallT PR Bd [.str s] [.one .tv,.one .bool] st K:=
 Ad (cfg:=⟨[],[],[]⟩) (h:=(.seq .none (.seq .none (.seq .none (.seq (.block (.loop ⟨[(4,.tv),(5,.int .i64),(0,.str)],[],[],[]⟩ .none)) .none))))) mixed (fun _ _=>Tryz.call204 _ _) Tryz.func204 (by kernel_rfl) (by kernel_rfl) h
theorem Hk (c:Int) (st:St) (K:Bool->St->Prop) (h:BId (c=32) (K true st) (K ((decide (c=9))) st)):CallT PR BO [.int .u8 c] [.one .bool] st K:=
 Ad (cfg:=⟨[],[],[]⟩) (h:= .none) mixed (fun _ _=>Tryz.call205 _ _) Tryz.func205 (by kernel_rfl) (by kernel_rfl) h
theorem H8 (s:B8) (atx:Int) (st:St) (K:Int->Int->St->Prop) (h:((0<=atx/\atx<(s.length:Int))/\BId (((List.getD s atx.toNat 0).toNat:Int)=(10:Int)) (K ((i64.wrap (atx+(1:Int)))) 0 st) (BId ((i64.wrap (atx+(1:Int)))=(s.length:Int)) (K 0 4 st) (((0<=(i64.wrap (atx+(1:Int)))/\(i64.wrap (atx+(1:Int)))<(s.length:Int))/\BId (((List.getD s (Int.toNat (i64.wrap (atx+(1:Int)))) 0).toNat:Int)=(10:Int)) (K ((i64.wrap (atx+(2:Int)))) 0 st) (K 0 3 st)))))):CallT PR B6 [.str s,.int .i64 atx] [.one (.int .i64),.one (.int .i64)] st K:=
 Ad (cfg:=⟨[],[],[]⟩) (h:= .none) mixed (fun _ _=>Tryz.call206 _ _) Tryz.func206 (by kernel_rfl) (by kernel_rfl) h
theorem Gn (s:B8) (i:Int) (st:St) (K:Int->Int->St->Prop) (h:∃(I1:Int->B8->St->Prop) (M1:Int->B8->St->Nat),(I1 i s st)/\∀a b c,I1 a b c->(BId (a<(b.length:Int)) (((0<=a/\a<(b.length:Int))/\BId (((List.getD b a.toNat 0).toNat:Int)≠(10:Int)) (((0<=a/\a<=(b.length:Int))/\CallT PR AB [(.str (List.drop a.toNat b)),.str KR] [.one .bool] c (fun (b1:Bool) e=>BIf (!b1) (((0<=a/\a<=(b.length:Int))/\CallT PR AG [(.str (List.drop a.toNat b))] [.one (.int .i32),.one (.int .i64)] e (fun (n1 n2:Int) d=>BId (n1=65533) (BId (n2=1) (K 0 5 d) ((I1 ((i64.wrap (a+n2))) b d/\M1 ((i64.wrap (a+n2))) b d<M1 a b c))) ((I1 ((i64.wrap (a+n2))) b d/\M1 ((i64.wrap (a+n2))) b d<M1 a b c))))) (K a 0 e)))) (K a 0 c))) (K a 0 c))):CallT PR Cf [.str s,.int .i64 i] [.one (.int .i64),.one (.int .i64)] st K:=
 Ad (cfg:=⟨[],[],[]⟩) (h:=(.seq .none (.seq (.block (.loop ⟨[(1,.int .i64),(0,.str)],[],[],[]⟩ .none)) .none))) mixed (fun _ _=>Tryz.call207 _ _) Tryz.func207 (by kernel_rfl) (by kernel_rfl) h
theorem Hj (s:B8) (atx:Int) (st:St) (K:Int->St->Prop) (h:CallT PR A6 [] [.one .tv,.one .tv] st (fun (v1 v2:TV) e=>CallT PR A5 [.str s,.int .i64 atx,v2] [.one (.int .i64)] e (fun (n1:Int) c=>BId ((i64.wrap (n1-atx))=(10:Int)) (((0<=atx/\atx<=n1/\n1<=(s.length:Int))/\CallT PR Bq [(.str (List.drop atx.toNat (List.take n1.toNat s))),.str QD] [.one .bool] c (fun (b1:Bool) b=>BIf b1 (((0<=n1/\n1<=(s.length:Int))/\CallT PR Bq [(.str (List.drop n1.toNat s)),.str QC] [.one .bool] b (fun (b2:Bool) a=>BIf b2 (CallT PR A5 [.str s,(.int .i64 (i64.wrap (n1+(1:Int)))),v2] [.one (.int .i64)] a (fun (n2:Int) d=>K n2 d)) (K n1 a)))) (K n1 b)))) (K n1 c)))):CallT PR CG [.str s,.int .i64 atx] [.one (.int .i64)] st K:=
 Ad (cfg:=⟨[],[],[]⟩) (h:= .none) mixed (fun _ _=>Tryz.call208 _ _) Tryz.func208 (by kernel_rfl) (by kernel_rfl) h
theorem GR (s:B8) (i:Int) (st:St) (K:Int->Int->Int->St->Prop) (h:CallT PR Bl [.str s,.int .i64 i] [.one (.int .i64),.one (.int .i64)] st (fun (n1 n2:Int) j=>BId (n2≠0) (K 0 0 n2 j) (BId ((56320:Int)<=n1) (BId (n1<=57343) (K 0 0 5 j) (BId (n1<55296) (K ((IntKind.i32.wrap n1)) ((i64.wrap (i+(4:Int)))) 0 j) (BId ((57343:Int)<n1) (K ((IntKind.i32.wrap n1)) ((i64.wrap (i+(4:Int)))) 0 j) (∃(I1:Int->B8->Int->Int->TV->Int->St->Prop) (M1:Int->B8->Int->Int->TV->Int->St->Nat),(I1 0 s i n1 ((.list 1 .full 2 [.int .u8 92,.int .u8 117])) ((lenS (.list 1 .full 2 [.int .u8 92,.int .u8 117]):Int)) j)/\∀b k d q m o f,I1 b k d q m o f->(BId (b<o) (((0<=b/\b<(lenZ 1 m:Int))/\Ao (Af f [] (.t (ixT 1 m b.toNat)) 0) (fun (x1:TV)=>Ar (.int .u8) x1 (fun (n3:Int)=>BId ((k.length:Int)<=(i64.wrap ((i64.wrap (d+(4:Int)))+b))) (K 0 0 4 f) (((0<=(i64.wrap ((i64.wrap (d+(4:Int)))+b))/\(i64.wrap ((i64.wrap (d+(4:Int)))+b))<(k.length:Int))/\BId (((List.getD k (Int.toNat (i64.wrap ((i64.wrap (d+(4:Int)))+b))) 0).toNat:Int)≠n3) (K 0 0 5 f) ((I1 ((i64.wrap (b+(1:Int)))) k d q m o f/\M1 ((i64.wrap (b+(1:Int)))) k d q m o f<M1 b k d q m o f)))))))) (CallT PR Bl [.str k,(.int .i64 (i64.wrap (d+(6:Int))))] [.one (.int .i64),.one (.int .i64)] f (fun (n4 n5:Int) r=>BId (n5≠0) (K 0 0 n5 r) (BId (n4<56320) (K 0 0 5 r) (BId ((57343:Int)<n4) (K 0 0 5 r) (K ((IntKind.i32.wrap (i64.wrap ((i64.wrap ((i64.wrap ((65536:Int)+(i64.wrap ((i64.wrap (q-(55296:Int)))*2^(min (Int.toNat (10:Int)) (IntKind.bits .i64))))))+n4))-(56320:Int))))) ((i64.wrap (d+(10:Int)))) 0 r)))))))))) (BId (n1<55296) (K ((IntKind.i32.wrap n1)) ((i64.wrap (i+(4:Int)))) 0 j) (BId ((57343:Int)<n1) (K ((IntKind.i32.wrap n1)) ((i64.wrap (i+(4:Int)))) 0 j) (∃(I2:Int->B8->Int->Int->TV->Int->St->Prop) (M2:Int->B8->Int->Int->TV->Int->St->Nat),(I2 0 s i n1 ((.list 1 .full 2 [.int .u8 92,.int .u8 117])) ((lenS (.list 1 .full 2 [.int .u8 92,.int .u8 117]):Int)) j)/\∀a g c p l n e,I2 a g c p l n e->(BId (a<n) (((0<=a/\a<(lenZ 1 l:Int))/\Ao (Af e [] (.t (ixT 1 l a.toNat)) 0) (fun (x2:TV)=>Ar (.int .u8) x2 (fun (n6:Int)=>BId ((g.length:Int)<=(i64.wrap ((i64.wrap (c+(4:Int)))+a))) (K 0 0 4 e) (((0<=(i64.wrap ((i64.wrap (c+(4:Int)))+a))/\(i64.wrap ((i64.wrap (c+(4:Int)))+a))<(g.length:Int))/\BId (((List.getD g (Int.toNat (i64.wrap ((i64.wrap (c+(4:Int)))+a))) 0).toNat:Int)≠n6) (K 0 0 5 e) ((I2 ((i64.wrap (a+(1:Int)))) g c p l n e/\M2 ((i64.wrap (a+(1:Int)))) g c p l n e<M2 a g c p l n e)))))))) (CallT PR Bl [.str g,(.int .i64 (i64.wrap (c+(6:Int))))] [.one (.int .i64),.one (.int .i64)] e (fun (n7 n8:Int) u=>BId (n8≠0) (K 0 0 n8 u) (BId (n7<56320) (K 0 0 5 u) (BId ((57343:Int)<n7) (K 0 0 5 u) (K ((IntKind.i32.wrap (i64.wrap ((i64.wrap ((i64.wrap ((65536:Int)+(i64.wrap ((i64.wrap (p-(55296:Int)))*2^(min (Int.toNat (10:Int)) (IntKind.bits .i64))))))+n7))-(56320:Int))))) ((i64.wrap (c+(10:Int)))) 0 u)))))))))))):CallT PR BA [.str s,.int .i64 i] [.one (.int .i32),.one (.int .i64),.one (.int .i64)] st K:=
 Ad (cfg:=⟨[],[],[]⟩) (h:=(.seq .none (.seq .none (.seq .none (.seq .none (.seq .none (.seq (.seq .none (.block (.loop ⟨[(39,.int .i64),(0,.str),(1,.int .i64),(7,.int .i64),(37,.tv),(38,.int .i64)],[],[],[]⟩ .none))) .none))))))) mixed (fun _ _=>Tryz.call209 _ _) Tryz.func209 (by kernel_rfl) (by kernel_rfl) h
theorem Ek (s:B8) (prefixx:B8) (st:St) (K:Bool->St->Prop) (h:BId ((prefixx.length:Int)<=(s.length:Int)) (((0<=(prefixx.length:Int)/\(prefixx.length:Int)<=(s.length:Int))/\K ((decide ((List.take (Int.toNat (prefixx.length:Int)) s)=prefixx))) st)) (K false st)):CallT PR Co [.str s,.str prefixx] [.one .bool] st K:=
 Ad (cfg:=⟨[],[],[]⟩) (h:= .none) mixed (fun _ _=>Tryz.call211 _ _) Tryz.func211 (by kernel_rfl) (by kernel_rfl) h
theorem Jj (s:B8) (st:St) (K:Int->Int->St->Prop) (h:CallT PR Ct [.str s] [.one .bool] st (fun (b1:Bool) f=>BIf (!b1) (K 0 3 f) (∃(I1:Int->Int->B8->Int->St->Prop) (M1:Int->Int->B8->Int->St->Nat),(I1 0 0 s ((s.length:Int)) f)/\∀d a b e c,I1 d a b e c->(BId (a<e) (((0<=a/\a<(b.length:Int))/\BId ((i64.wrap (Int.tdiv (i64.wrap ((9223372036854775807:Int)-(i64.wrap (u8.wrap (((List.getD b a.toNat 0).toNat:Int)-(48:Int)))))) (10:Int)))<d) (K 0 2 c) ((I1 ((i64.wrap ((i64.wrap (d*(10:Int)))+(i64.wrap (u8.wrap (((List.getD b a.toNat 0).toNat:Int)-(48:Int))))))) ((i64.wrap (a+(1:Int)))) b e c/\M1 ((i64.wrap ((i64.wrap (d*(10:Int)))+(i64.wrap (u8.wrap (((List.getD b a.toNat 0).toNat:Int)-(48:Int))))))) ((i64.wrap (a+(1:Int)))) b e c<M1 d a b e c)))) (K d 0 c))))):CallT PR Dt [.str s] [.one (.int .i64),.one (.int .i64)] st K:=
 Ad (cfg:=⟨[],[],[]⟩) (h:=(.seq .none (.seq .none (.seq .none (.seq (.seq .none (.block (.loop ⟨[(4,.int .i64),(12,.int .i64),(0,.str),(11,.int .i64)],[],[],[]⟩ .none))) .none))))) mixed (fun _ _=>Tryz.call212 _ _) Tryz.func212 (by kernel_rfl) (by kernel_rfl) h
theorem Jk (neg:Bool) (s:B8) (exp:Int) (st:St) (K:Bool->B8->Int->Int->St->Prop) (h:BId (s=([]:B8)) (K false [] 0 0 st) (CallT PR BV [.str s,.str HB] [.one .str] st (fun (s1:B8) a=>((0<=(i64.wrap ((s.length:Int)-(i64.wrap ((s.length:Int)-(s1.length:Int)))))/\(i64.wrap ((s.length:Int)-(i64.wrap ((s.length:Int)-(s1.length:Int)))))<=(s.length:Int))/\BId ((i64.wrap ((400:Int)-(i64.wrap ((s.length:Int)-(s1.length:Int)))))<exp) (K false [] 0 2 a) (BId (exp<(i64.wrap ((-400:Int)-(i64.wrap ((s.length:Int)-(s1.length:Int)))))) (K false [] 0 2 a) (BId ((120:Int)<(((List.take (Int.toNat (i64.wrap ((s.length:Int)-(i64.wrap ((s.length:Int)-(s1.length:Int)))))) s)).length:Int)) (K false [] 0 2 a) (K neg ((List.take (Int.toNat (i64.wrap ((s.length:Int)-(i64.wrap ((s.length:Int)-(s1.length:Int)))))) s)) ((i64.wrap (exp+(i64.wrap ((s.length:Int)-(s1.length:Int)))))) 0 a))))))):CallT PR Du [.bool neg,.str s,.int .i64 exp] [.agg [.bool,.str,.int .i64],.one (.int .i64)] st K:=
 Ad (cfg:=⟨[6],[],[]⟩) (h:= .none) mixed (fun _ _=>Tryz.call217 _ _) Tryz.func217 (by kernel_rfl) (by kernel_rfl) h
theorem EN (r:Nat) (f:Nat) (st:St) (K:St->Prop) (h:CallT PR Aj [(.box r 0),.int .i64 2] [.one (.int .i64)] st (fun (n1:Int) l=>stB l (.box f 3) [.int .i64 n1] (fun g=>CallT PR Ap [(.box r 0),.str Cd] [.one (.int .u8)] g (fun (n2:Int) e=>CallT PR Aj [(.box r 0),.int .i64 2] [.one (.int .i64)] e (fun (n3:Int) d=>stB d (.box f 4) [.int .i64 n3] (fun j=>CallT PR Ap [(.box r 0),.str Cd] [.one (.int .u8)] j (fun (n4:Int) k=>CallT PR Aj [(.box r 0),.int .i64 2] [.one (.int .i64)] k (fun (n5:Int) m=>stB m (.box f 5) [.int .i64 n5] (fun a=>Ao (Af a [] (.t (.box r 0)) 0) (fun (x1:TV)=>Ar .str x1 (fun (s1:B8)=>BId (s1≠([]:B8)) (Ao (Af a [] (.t (.box r 0)) 0) (fun (x2:TV)=>Ar .str x2 (fun (s2:B8)=>((0<=(0:Int)/\(0:Int)<(s2.length:Int))/\BId (((List.getD s2 (Int.toNat (0:Int)) 0).toNat:Int)=(46:Int)) (Ao (Af a [] (.t (.box r 0)) 0) (fun (x3:TV)=>Ar .str x3 (fun (s3:B8)=>((0<=(1:Int)/\(1:Int)<=(s3.length:Int))/\stB a (.box r 0) [(.str (List.drop (Int.toNat (1:Int)) s3))] (fun i=>CallT PR Bj [(.box r 0)] [.one (.int .i64)] i (fun (n6:Int) c=>stB c (.box f 6) [.int .i64 n6] (fun b=>K b))))))) (K a))))) (K a)))))))))))):CallT PR AN [(.box r 0),(.box f 0)] [] st K:=
 Ad (cfg:=⟨[],[],[]⟩) (h:= .none) mixed (fun _ _=>Tryz.call218 _ _) Tryz.func218 (by kernel_rfl) (by kernel_rfl) h
theorem Fo (r:Nat) (f:Nat) (st:St) (K:St->Prop) (h:CallT PR Aj [(.box r 0),.int .i64 4] [.one (.int .i64)] st (fun (n1:Int) i=>stB i (.box f 0) [.int .i64 n1] (fun c=>CallT PR Ap [(.box r 0),.str FO] [.one (.int .u8)] c (fun (n2:Int) b=>CallT PR Aj [(.box r 0),.int .i64 2] [.one (.int .i64)] b (fun (n3:Int) a=>stB a (.box f 1) [.int .i64 n3] (fun e=>CallT PR Ap [(.box r 0),.str FO] [.one (.int .u8)] e (fun (n4:Int) g=>CallT PR Aj [(.box r 0),.int .i64 2] [.one (.int .i64)] g (fun (n5:Int) j=>stB j (.box f 2) [.int .i64 n5] (fun d=>K d))))))))):CallT PR Bg [(.box r 0),(.box f 0)] [] st K:=
 Ad (cfg:=⟨[],[],[]⟩) (h:= .none) mixed (fun _ _=>Tryz.call219 _ _) Tryz.func219 (by kernel_rfl) (by kernel_rfl) h
theorem FE (r:Nat) (of:B8) (st:St) (K:Int->St->Prop) (h:Ao (Af st [] (.t (.box r 0)) 0) (fun (x1:TV)=>Ar .str x1 (fun (s1:B8)=>BId (s1≠([]:B8)) (∃(I1:Int->TV->B8->Int->St->Prop) (M1:Int->TV->B8->Int->St->Nat),(I1 0 ((.box r 0)) of ((of.length:Int)) st)/\∀c a b e d,I1 c a b e d->(BId (c<e) (need (isPtr a) (need (isPtr a) (Ao (Af d [] (.t (AX a 0)) 0) (fun (x2:TV)=>Ar .str x2 (fun (s2:B8)=>((0<=(0:Int)/\(0:Int)<(s2.length:Int))/\((0<=c/\c<(b.length:Int))/\BId (((List.getD s2 (Int.toNat (0:Int)) 0).toNat:Int)=((List.getD b c.toNat 0).toNat:Int)) (need (isPtr a) (need (isPtr a) (Ao (Af d [] (.t (AX a 0)) 0) (fun (x3:TV)=>Ar .str x3 (fun (s3:B8)=>((0<=(1:Int)/\(1:Int)<=(s3.length:Int))/\need (isPtr a) (need (isPtr a) (stB d (AX a 0) [(.str (List.drop (Int.toNat (1:Int)) s3))] (fun i=>((0<=c/\c<(b.length:Int))/\K (((List.getD b c.toNat 0).toNat:Int)) i)))))))))) ((I1 ((i64.wrap (c+(1:Int)))) a b e d/\M1 ((i64.wrap (c+(1:Int)))) a b e d<M1 c a b e d))))))))) (need (isPtr a) (need (isPtr a) (stB d (AX a 1) [.bool true] (fun g=>K 0 g)))))) (stB st (.box r 1) [.bool true] (fun f=>K 0 f))))):CallT PR Ap [(.box r 0),.str of] [.one (.int .u8)] st K:=
 Ad (cfg:=⟨[],[],[]⟩) (h:=(.seq .none (.seq (.seq .none (.cond (.seq .none (.block (.loop ⟨[(13,.int .i64),(0,.tv),(1,.str),(12,.int .i64)],[],[],[]⟩ .none))) .none)) .none))) mixed (fun _ _=>Tryz.call220 _ _) Tryz.func220 (by kernel_rfl) (by kernel_rfl) h
theorem Ex (r:Nat) (f:Nat) (st:St) (K:St->Prop) (h:CallT PR Ap [(.box r 0),.str str55] [.one (.int .u8)] st (fun (n1:Int) m=>stB m (.box f 7) [.int .u8 n1] (fun a=>Ao (Af a [] (.t (.box f 7)) 0) (fun (x1:TV)=>Ar (.int .u8) x1 (fun (n2:Int)=>BId (n2=43) (CallT PR Aj [(.box r 0),.int .i64 2] [.one (.int .i64)] a (fun (n3:Int) i=>stB i (.box f 8) [.int .i64 n3] (fun e=>CallT PR Ap [(.box r 0),.str Cd] [.one (.int .u8)] e (fun (n4:Int) k=>CallT PR Aj [(.box r 0),.int .i64 2] [.one (.int .i64)] k (fun (n5:Int) l=>stB l (.box f 9) [.int .i64 n5] (fun n=>K n)))))) (Ao (Af a [] (.t (.box f 7)) 0) (fun (x2:TV)=>Ar (.int .u8) x2 (fun (n6:Int)=>BId (n6=45) (CallT PR Aj [(.box r 0),.int .i64 2] [.one (.int .i64)] a (fun (n7:Int) g=>stB g (.box f 8) [.int .i64 n7] (fun j=>CallT PR Ap [(.box r 0),.str Cd] [.one (.int .u8)] j (fun (n8:Int) d=>CallT PR Aj [(.box r 0),.int .i64 2] [.one (.int .i64)] d (fun (n9:Int) c=>stB c (.box f 9) [.int .i64 n9] (fun b=>K b)))))) (K a))))))))):CallT PR A2 [(.box r 0),(.box f 0)] [] st K:=
 Ad (cfg:=⟨[],[],[]⟩) (h:= .none) mixed (fun _ _=>Tryz.call221 _ _) Tryz.func221 (by kernel_rfl) (by kernel_rfl) h
theorem Hr (year:Int) (month:Int) (st:St) (K:Int->St->Prop) (h:CallT PR BP [.int .i64 year] [.one .bool] st (fun (b1:Bool) a=>BIf (!b1) (K 0 a) (BId (month<1) (K 0 a) (BId ((12:Int)<month) (K 0 a) (BId (month=2) (CallT PR Db [.int .i64 year] [.one .bool] a (fun (b2:Bool) b=>BIf b2 (K 29 b) (((0<=(i64.wrap (month-(1:Int)))/\(i64.wrap (month-(1:Int)))<((12:Nat):Int))/\Ao ((([.int .i64 31,.int .i64 28,.int .i64 31,.int .i64 30,.int .i64 31,.int .i64 30,.int .i64 31,.int .i64 31,.int .i64 30,.int .i64 31,.int .i64 30,.int .i64 31]:List TV)[(0+(Int.toNat (i64.wrap (month-(1:Int))))*1)+0]?)) (fun (x1:TV)=>Ar (.int .i64) x1 (fun (n1:Int)=>K n1 b)))))) (((0<=(i64.wrap (month-(1:Int)))/\(i64.wrap (month-(1:Int)))<((12:Nat):Int))/\Ao ((([.int .i64 31,.int .i64 28,.int .i64 31,.int .i64 30,.int .i64 31,.int .i64 30,.int .i64 31,.int .i64 31,.int .i64 30,.int .i64 31,.int .i64 30,.int .i64 31]:List TV)[(0+(Int.toNat (i64.wrap (month-(1:Int))))*1)+0]?)) (fun (x2:TV)=>Ar (.int .i64) x2 (fun (n2:Int)=>K n2 a))))))))):CallT PR AA [.int .i64 year,.int .i64 month] [.one (.int .i64)] st K:=
 Ad (cfg:=⟨[5],[],[]⟩) (h:= .none) mixed (fun _ _=>Tryz.call222 _ _) Tryz.func222 (by kernel_rfl) (by kernel_rfl) h
theorem Hp (year:Int) (st:St) (K:Int->St->Prop) (h:K ((i64.wrap ((i64.wrap ((i64.wrap ((i64.wrap ((365:Int)*(i64.wrap (year-(1:Int)))))+(i64.wrap (Int.tdiv (i64.wrap (year-(1:Int))) (4:Int)))))-(i64.wrap (Int.tdiv (i64.wrap (year-(1:Int))) (100:Int)))))+(i64.wrap (Int.tdiv (i64.wrap (year-(1:Int))) (400:Int)))))) st):CallT PR A4 [.int .i64 year] [.one (.int .i64)] st K:=
 Ad (cfg:=⟨[],[],[]⟩) (h:= .none) mixed (fun _ _=>Tryz.call223 _ _) Tryz.func223 (by kernel_rfl) (by kernel_rfl) h
theorem EP (s:B8) (atx:Int) (st:St) (K:Int->Int->St->Prop) (h:BId (atx<0) (K 0 0 st) (BId ((s.length:Int)<=atx) (K 0 0 st) (((0<=atx/\atx<(s.length:Int))/\∃(C1:Int->Int->B8->Int->St->Prop),(BId ((240:Int)<=(i64.wrap ((List.getD s atx.toNat 0).toNat:Int))) (C1 4 ((Ai .and .i64 (i64.wrap ((List.getD s atx.toNat 0).toNat:Int)) (7:Int))) s atx st) (BId ((224:Int)<=(i64.wrap ((List.getD s atx.toNat 0).toNat:Int))) (C1 3 ((Ai .and .i64 (i64.wrap ((List.getD s atx.toNat 0).toNat:Int)) (15:Int))) s atx st) (BId ((192:Int)<=(i64.wrap ((List.getD s atx.toNat 0).toNat:Int))) (C1 2 ((Ai .and .i64 (i64.wrap ((List.getD s atx.toNat 0).toNat:Int)) (31:Int))) s atx st) (C1 1 ((i64.wrap ((List.getD s atx.toNat 0).toNat:Int))) s atx st))))/\∀e m l i k,C1 e m l i k->(BId ((i64.wrap ((l.length:Int)-i))<e) (K 0 0 k) (∃(I1:Int->Int->B8->Int->Int->St->Prop) (M1:Int->Int->B8->Int->Int->St->Nat),(I1 m 1 l i e k)/\∀f d c a b g,I1 f d c a b g->(BId (d<b) (((0<=(i64.wrap (a+d))/\(i64.wrap (a+d))<(c.length:Int))/\(I1 ((Ai .or .i64 (i64.wrap (f*2^(min (Int.toNat (6:Int)) (IntKind.bits .i64)))) (Ai .and .i64 (i64.wrap ((List.getD c (Int.toNat (i64.wrap (a+d))) 0).toNat:Int)) (63:Int)))) ((i64.wrap (d+(1:Int)))) c a b g/\M1 ((Ai .or .i64 (i64.wrap (f*2^(min (Int.toNat (6:Int)) (IntKind.bits .i64)))) (Ai .and .i64 (i64.wrap ((List.getD c (Int.toNat (i64.wrap (a+d))) 0).toNat:Int)) (63:Int)))) ((i64.wrap (d+(1:Int)))) c a b g<M1 f d c a b g))) (CallT PR A9 [.int .i64 f] [.one .str,.one (.int .i64)] g (fun (s1:B8) (n1:Int) j=>BId (n1≠0) (K 0 0 j) (((0<=a/\a<=(i64.wrap (a+b))/\(i64.wrap (a+b))<=(c.length:Int))/\BId (s1≠(List.drop a.toNat (List.take (Int.toNat (i64.wrap (a+b))) c))) (K 0 0 j) (K f b j)))))))))))):CallT PR Ba [.str s,.int .i64 atx] [.one (.int .i64),.one (.int .i64)] st K:=
 Ad (cfg:=⟨[],[],[]⟩) (h:=(.seq .none (.seq .none (.seq .none (.seq .none (.cut ⟨[(7,.int .i64),(8,.int .i64),(0,.str),(1,.int .i64)],[],[],[]⟩ .none (.seq .none (.seq (.seq .none (.block (.loop ⟨[(8,.int .i64),(9,.int .i64),(0,.str),(1,.int .i64),(7,.int .i64)],[],[],[]⟩ .none))) .none)))))))) mixed (fun _ _=>Tryz.call225 _ _) Tryz.func225 (by kernel_rfl) (by kernel_rfl) h
theorem Ft (a:B8) (st:St) (K:Int->St->Prop) (h:∃(I1:Int->B8->St->Prop) (M1:Int->B8->St->Nat),(I1 0 a st)/\∀c b d,I1 c b d->(BId (c<(b.length:Int)) (((0<=(i64.wrap ((i64.wrap ((b.length:Int)-(1:Int)))-c))/\(i64.wrap ((i64.wrap ((b.length:Int)-(1:Int)))-c))<(b.length:Int))/\BId (((List.getD b (Int.toNat (i64.wrap ((i64.wrap ((b.length:Int)-(1:Int)))-c))) 0).toNat:Int)=(48:Int)) ((I1 ((i64.wrap (c+(1:Int)))) b d/\M1 ((i64.wrap (c+(1:Int)))) b d<M1 c b d)) (K c d))) (K c d))):CallT PR BL [.str a] [.one (.int .i64)] st K:=
 Ad (cfg:=⟨[],[],[]⟩) (h:=(.seq .none (.seq .none (.seq (.block (.loop ⟨[(3,.int .i64),(0,.str)],[],[],[]⟩ .none)) .none)))) mixed (fun _ _=>Tryz.call229 _ _) Tryz.func229 (by kernel_rfl) (by kernel_rfl) h
theorem Ji (s:B8) (st:St) (K:Bool->St->Prop) (h:BId ((s.length:Int)<=(600:Int)) (CallT PR En [.str s] [.one .bool] st (fun (b1:Bool) a=>BIf b1 (BId (s=([]:B8)) (K true a) (((0<=(0:Int)/\(0:Int)<(s.length:Int))/\K ((decide (((List.getD s (Int.toNat (0:Int)) 0).toNat:Int)≠(48:Int)))) a))) (K false a))) (K false st)):CallT PR Ct [.str s] [.one .bool] st K:=
 Ad (cfg:=⟨[],[],[]⟩) (h:= .none) mixed (fun _ _=>Tryz.call232 _ _) Tryz.func232 (by kernel_rfl) (by kernel_rfl) h
theorem Jh (a:B8) (st:St) (K:Int->St->Prop) (h:CallT PR BV [.str a,.str HB] [.one .str] st (fun (s1:B8) b=>K ((i64.wrap ((a.length:Int)-(s1.length:Int)))) b)):CallT PR Ds [.str a] [.one (.int .i64)] st K:=
 Ad (cfg:=⟨[],[],[]⟩) (h:= .none) mixed (fun _ _=>Tryz.call233 _ _) Tryz.func233 (by kernel_rfl) (by kernel_rfl) h
theorem Hn (n:Int) (st:St) (K:B8->St->Prop) (h:∃(I1:Int->TV->St->Prop) (M1:Int->TV->St->Nat),(I1 n .nilSlice st)/\∀a b c,I1 a b c->(BId ((0:Int)<a) (Jp 5 1 1 b 1 [(.int .u8 (u8.wrap (i64.wrap ((48:Int)+(Int.tmod a (10:Int))))))] c (fun (v1:TV) e=>(I1 ((i64.wrap (Int.tdiv a (10:Int)))) v1 e/\M1 ((i64.wrap (Int.tdiv a (10:Int)))) v1 e<M1 a b c))) (CallT PR CJ [b] [] c (fun (d:St)=>Ao ((toBytes d b).map TV.str) (fun (x1:TV)=>Ar .str x1 (fun (s1:B8)=>K s1 d)))))):CallT PR CK [.int .i64 n] [.one .str] st K:=
 Ad (cfg:=⟨[],[14],[]⟩) (h:=(.seq .none (.seq .none (.seq (.block (.loop ⟨[(0,.int .i64),(3,.tv)],[],[],[]⟩ .none)) .none)))) mixed (fun _ _=>Tryz.call238 _ _) Tryz.func238 (by kernel_rfl) (by kernel_rfl) h
theorem Ii (n:Int) (st:St) (K:Int->Int->Int->Int->St->Prop) (h:CallT PR Ef [.int .i64 n] [.one .bool] st (fun (b1:Bool) r=>BIf (!b1) (K 0 0 0 2 r) (∃(I1:Int->Int->St->Prop) (M1:Int->Int->St->Nat),(I1 ((i64.wrap ((i64.wrap (Int.tdiv n (366:Int)))+(1:Int)))) n r)/\∀a i j,I1 a i j->(BId (a<9999) (CallT PR A4 [(.int .i64 (i64.wrap (a+(1:Int))))] [.one (.int .i64)] j (fun (n1:Int) o=>BId (n1<=i) ((I1 ((i64.wrap (a+(1:Int)))) i o/\M1 ((i64.wrap (a+(1:Int)))) i o<M1 a i j)) (CallT PR A4 [.int .i64 a] [.one (.int .i64)] o (fun (n2:Int) u=>∃(I2:Int->Int->Int->St->Prop) (M2:Int->Int->Int->St->Nat),(I2 1 ((i64.wrap (i-n2))) a u)/\∀b g d l,I2 b g d l->(CallT PR AA [.int .i64 d,.int .i64 b] [.one (.int .i64)] l (fun (n3:Int) q=>BId (n3<=g) (CallT PR AA [.int .i64 d,.int .i64 b] [.one (.int .i64)] q (fun (n4:Int) s=>(I2 ((i64.wrap (b+(1:Int)))) ((i64.wrap (g-n4))) d s/\M2 ((i64.wrap (b+(1:Int)))) ((i64.wrap (g-n4))) d s<M2 b g d l))) (K d b ((i64.wrap (g+(1:Int)))) 0 q))))))) (CallT PR A4 [.int .i64 a] [.one (.int .i64)] j (fun (n5:Int) t=>∃(I3:Int->Int->Int->St->Prop) (M3:Int->Int->Int->St->Nat),(I3 1 ((i64.wrap (i-n5))) a t)/\∀c f e k,I3 c f e k->(CallT PR AA [.int .i64 e,.int .i64 c] [.one (.int .i64)] k (fun (n6:Int) m=>BId (n6<=f) (CallT PR AA [.int .i64 e,.int .i64 c] [.one (.int .i64)] m (fun (n7:Int) p=>(I3 ((i64.wrap (c+(1:Int)))) ((i64.wrap (f-n7))) e p/\M3 ((i64.wrap (c+(1:Int)))) ((i64.wrap (f-n7))) e p<M3 c f e k))) (K e c ((i64.wrap (f+(1:Int)))) 0 m))))))))):CallT PR Dc [.int .i64 n] [.one (.int .i64),.one (.int .i64),.one (.int .i64),.one (.int .i64)] st K:=
 Ad (cfg:=⟨[],[],[]⟩) (h:=(.seq .none (.seq .none (.seq .none (.seq (.block (.loop ⟨[(2,.int .i64),(0,.int .i64)],[],[],[]⟩ .none)) (.seq .none (.seq .none (.seq (.block (.loop ⟨[(3,.int .i64),(6,.int .i64),(2,.int .i64)],[],[],[]⟩ .none)) .none)))))))) mixed (fun _ _=>Tryz.call239 _ _) Tryz.func239 (by kernel_rfl) (by kernel_rfl) h
theorem Ic (n:Int) (width:Int) (st:St) (K:B8->St->Prop) (h:((0<=width/\width<=width/\Int.toNat width*1<=140737488355328)/\∃(I1:Int->Int->TV->St->Prop) (M1:Int->Int->TV->St->Nat),(I1 n ((i64.wrap (width-(1:Int)))) ((.ms 1 st.nb 0 width.toNat width.toNat)) (st.push (.cells (Fk [.int .u8 0] (Int.toNat width*1))) (some 5)))/\∀c a b d,I1 c a b d->(BId ((0:Int)<=a) (((0<=a/\a<(lenZ 1 b:Int))/\stB d (ixT 1 b a.toNat) [(.int .u8 (u8.wrap (i64.wrap ((48:Int)+(Int.tmod c (10:Int))))))] (fun e=>(I1 ((i64.wrap (Int.tdiv c (10:Int)))) ((i64.wrap (a-(1:Int)))) b e/\M1 ((i64.wrap (Int.tdiv c (10:Int)))) ((i64.wrap (a-(1:Int)))) b e<M1 c a b d)))) (Ao ((toBytes d b).map TV.str) (fun (x1:TV)=>Ar .str x1 (fun (s1:B8)=>K s1 d)))))):CallT PR Au [.int .i64 n,.int .i64 width] [.one .str] st K:=
 Ad (cfg:=⟨[],[8],[]⟩) (h:=(.seq .none (.seq .none (.seq (.seq .none (.block (.loop ⟨[(0,.int .i64),(6,.int .i64),(5,.tv)],[],[],[]⟩ .none))) .none)))) mixed (fun _ _=>Tryz.call240 _ _) Tryz.func240 (by kernel_rfl) (by kernel_rfl) h
theorem Fp (kind:Int) (st:St) (K:Bool->St->Prop) (h:BId (kind=1) (K true st) (BId (kind=3) (K true st) (K ((decide (kind=4))) st))):CallT PR BJ [.int .i64 kind] [.one .bool] st K:=
 Ad (cfg:=⟨[],[],[]⟩) (h:= .none) mixed (fun _ _=>Tryz.call243 _ _) Tryz.func243 (by kernel_rfl) (by kernel_rfl) h
theorem Ez (kind:Int) (st:St) (K:Bool->St->Prop) (h:BId (kind=2) (K true st) (BId (kind=3) (K true st) (K ((decide (kind=4))) st))):CallT PR A3 [.int .i64 kind] [.one .bool] st K:=
 Ad (cfg:=⟨[],[],[]⟩) (h:= .none) mixed (fun _ _=>Tryz.call244 _ _) Tryz.func244 (by kernel_rfl) (by kernel_rfl) h
theorem Gs (v_0:Int) (v_1:Bool) (v_2:Bool) (v_3:B8) (v_4:Int) (v_5:Int) (v_6:Int) (v_7:Int) (v_8:Int) (v_9:B8) (v_10:TV) (v_11:TV) (v_12:TV) (st:St) (K:Bool->St->Prop) (h:BId (v_0<0) (K false st) (BId ((7:Int)<v_0) (K false st) (BId (v_0≠1) (BIf v_1 (K false st) (BId (v_0≠2) (BIf (!((v_2==false)&&(decide (v_3=([]:B8))&&(decide (v_4=(0:Int))&&true)))) (K false st) (BId (v_0≠3) (BIf (!(decide (v_5=(0:Int))&&(decide (v_6=(0:Int))&&(decide (v_7=(0:Int))&&(decide (v_8=(0:Int))&&true))))) (K false st) (BId (v_0=4) (BId (v_0=5) (BId (v_0=6) (BId (v_0=7) (K true st) (need (isSl v_12) (K ((decide ((lenS v_12:Int)=(0:Int)))) st))) (need (isSl v_11) (BId ((lenS v_11:Int)=(0:Int)) (BId (v_0=7) (K true st) (need (isSl v_12) (K ((decide ((lenS v_12:Int)=(0:Int)))) st))) (K false st)))) (need (isSl v_10) (BId ((lenS v_10:Int)=(0:Int)) (BId (v_0=6) (BId (v_0=7) (K true st) (need (isSl v_12) (K ((decide ((lenS v_12:Int)=(0:Int)))) st))) (need (isSl v_11) (BId ((lenS v_11:Int)=(0:Int)) (BId (v_0=7) (K true st) (need (isSl v_12) (K ((decide ((lenS v_12:Int)=(0:Int)))) st))) (K false st)))) (K false st)))) (BId (v_9=([]:B8)) (BId (v_0=5) (BId (v_0=6) (BId (v_0=7) (K true st) (need (isSl v_12) (K ((decide ((lenS v_12:Int)=(0:Int)))) st))) (need (isSl v_11) (BId ((lenS v_11:Int)=(0:Int)) (BId (v_0=7) (K true st) (need (isSl v_12) (K ((decide ((lenS v_12:Int)=(0:Int)))) st))) (K false st)))) (need (isSl v_10) (BId ((lenS v_10:Int)=(0:Int)) (BId (v_0=6) (BId (v_0=7) (K true st) (need (isSl v_12) (K ((decide ((lenS v_12:Int)=(0:Int)))) st))) (need (isSl v_11) (BId ((lenS v_11:Int)=(0:Int)) (BId (v_0=7) (K true st) (need (isSl v_12) (K ((decide ((lenS v_12:Int)=(0:Int)))) st))) (K false st)))) (K false st)))) (K false st)))) (BId (v_0=4) (BId (v_0=5) (BId (v_0=6) (BId (v_0=7) (K true st) (need (isSl v_12) (K ((decide ((lenS v_12:Int)=(0:Int)))) st))) (need (isSl v_11) (BId ((lenS v_11:Int)=(0:Int)) (BId (v_0=7) (K true st) (need (isSl v_12) (K ((decide ((lenS v_12:Int)=(0:Int)))) st))) (K false st)))) (need (isSl v_10) (BId ((lenS v_10:Int)=(0:Int)) (BId (v_0=6) (BId (v_0=7) (K true st) (need (isSl v_12) (K ((decide ((lenS v_12:Int)=(0:Int)))) st))) (need (isSl v_11) (BId ((lenS v_11:Int)=(0:Int)) (BId (v_0=7) (K true st) (need (isSl v_12) (K ((decide ((lenS v_12:Int)=(0:Int)))) st))) (K false st)))) (K false st)))) (BId (v_9=([]:B8)) (BId (v_0=5) (BId (v_0=6) (BId (v_0=7) (K true st) (need (isSl v_12) (K ((decide ((lenS v_12:Int)=(0:Int)))) st))) (need (isSl v_11) (BId ((lenS v_11:Int)=(0:Int)) (BId (v_0=7) (K true st) (need (isSl v_12) (K ((decide ((lenS v_12:Int)=(0:Int)))) st))) (K false st)))) (need (isSl v_10) (BId ((lenS v_10:Int)=(0:Int)) (BId (v_0=6) (BId (v_0=7) (K true st) (need (isSl v_12) (K ((decide ((lenS v_12:Int)=(0:Int)))) st))) (need (isSl v_11) (BId ((lenS v_11:Int)=(0:Int)) (BId (v_0=7) (K true st) (need (isSl v_12) (K ((decide ((lenS v_12:Int)=(0:Int)))) st))) (K false st)))) (K false st)))) (K false st))))) (BId (v_0≠3) (BIf (!(decide (v_5=(0:Int))&&(decide (v_6=(0:Int))&&(decide (v_7=(0:Int))&&(decide (v_8=(0:Int))&&true))))) (K false st) (BId (v_0=4) (BId (v_0=5) (BId (v_0=6) (BId (v_0=7) (K true st) (need (isSl v_12) (K ((decide ((lenS v_12:Int)=(0:Int)))) st))) (need (isSl v_11) (BId ((lenS v_11:Int)=(0:Int)) (BId (v_0=7) (K true st) (need (isSl v_12) (K ((decide ((lenS v_12:Int)=(0:Int)))) st))) (K false st)))) (need (isSl v_10) (BId ((lenS v_10:Int)=(0:Int)) (BId (v_0=6) (BId (v_0=7) (K true st) (need (isSl v_12) (K ((decide ((lenS v_12:Int)=(0:Int)))) st))) (need (isSl v_11) (BId ((lenS v_11:Int)=(0:Int)) (BId (v_0=7) (K true st) (need (isSl v_12) (K ((decide ((lenS v_12:Int)=(0:Int)))) st))) (K false st)))) (K false st)))) (BId (v_9=([]:B8)) (BId (v_0=5) (BId (v_0=6) (BId (v_0=7) (K true st) (need (isSl v_12) (K ((decide ((lenS v_12:Int)=(0:Int)))) st))) (need (isSl v_11) (BId ((lenS v_11:Int)=(0:Int)) (BId (v_0=7) (K true st) (need (isSl v_12) (K ((decide ((lenS v_12:Int)=(0:Int)))) st))) (K false st)))) (need (isSl v_10) (BId ((lenS v_10:Int)=(0:Int)) (BId (v_0=6) (BId (v_0=7) (K true st) (need (isSl v_12) (K ((decide ((lenS v_12:Int)=(0:Int)))) st))) (need (isSl v_11) (BId ((lenS v_11:Int)=(0:Int)) (BId (v_0=7) (K true st) (need (isSl v_12) (K ((decide ((lenS v_12:Int)=(0:Int)))) st))) (K false st)))) (K false st)))) (K false st)))) (BId (v_0=4) (BId (v_0=5) (BId (v_0=6) (BId (v_0=7) (K true st) (need (isSl v_12) (K ((decide ((lenS v_12:Int)=(0:Int)))) st))) (need (isSl v_11) (BId ((lenS v_11:Int)=(0:Int)) (BId (v_0=7) (K true st) (need (isSl v_12) (K ((decide ((lenS v_12:Int)=(0:Int)))) st))) (K false st)))) (need (isSl v_10) (BId ((lenS v_10:Int)=(0:Int)) (BId (v_0=6) (BId (v_0=7) (K true st) (need (isSl v_12) (K ((decide ((lenS v_12:Int)=(0:Int)))) st))) (need (isSl v_11) (BId ((lenS v_11:Int)=(0:Int)) (BId (v_0=7) (K true st) (need (isSl v_12) (K ((decide ((lenS v_12:Int)=(0:Int)))) st))) (K false st)))) (K false st)))) (BId (v_9=([]:B8)) (BId (v_0=5) (BId (v_0=6) (BId (v_0=7) (K true st) (need (isSl v_12) (K ((decide ((lenS v_12:Int)=(0:Int)))) st))) (need (isSl v_11) (BId ((lenS v_11:Int)=(0:Int)) (BId (v_0=7) (K true st) (need (isSl v_12) (K ((decide ((lenS v_12:Int)=(0:Int)))) st))) (K false st)))) (need (isSl v_10) (BId ((lenS v_10:Int)=(0:Int)) (BId (v_0=6) (BId (v_0=7) (K true st) (need (isSl v_12) (K ((decide ((lenS v_12:Int)=(0:Int)))) st))) (need (isSl v_11) (BId ((lenS v_11:Int)=(0:Int)) (BId (v_0=7) (K true st) (need (isSl v_12) (K ((decide ((lenS v_12:Int)=(0:Int)))) st))) (K false st)))) (K false st)))) (K false st)))))) (BId (v_0≠2) (BIf (!((v_2==false)&&(decide (v_3=([]:B8))&&(decide (v_4=(0:Int))&&true)))) (K false st) (BId (v_0≠3) (BIf (!(decide (v_5=(0:Int))&&(decide (v_6=(0:Int))&&(decide (v_7=(0:Int))&&(decide (v_8=(0:Int))&&true))))) (K false st) (BId (v_0=4) (BId (v_0=5) (BId (v_0=6) (BId (v_0=7) (K true st) (need (isSl v_12) (K ((decide ((lenS v_12:Int)=(0:Int)))) st))) (need (isSl v_11) (BId ((lenS v_11:Int)=(0:Int)) (BId (v_0=7) (K true st) (need (isSl v_12) (K ((decide ((lenS v_12:Int)=(0:Int)))) st))) (K false st)))) (need (isSl v_10) (BId ((lenS v_10:Int)=(0:Int)) (BId (v_0=6) (BId (v_0=7) (K true st) (need (isSl v_12) (K ((decide ((lenS v_12:Int)=(0:Int)))) st))) (need (isSl v_11) (BId ((lenS v_11:Int)=(0:Int)) (BId (v_0=7) (K true st) (need (isSl v_12) (K ((decide ((lenS v_12:Int)=(0:Int)))) st))) (K false st)))) (K false st)))) (BId (v_9=([]:B8)) (BId (v_0=5) (BId (v_0=6) (BId (v_0=7) (K true st) (need (isSl v_12) (K ((decide ((lenS v_12:Int)=(0:Int)))) st))) (need (isSl v_11) (BId ((lenS v_11:Int)=(0:Int)) (BId (v_0=7) (K true st) (need (isSl v_12) (K ((decide ((lenS v_12:Int)=(0:Int)))) st))) (K false st)))) (need (isSl v_10) (BId ((lenS v_10:Int)=(0:Int)) (BId (v_0=6) (BId (v_0=7) (K true st) (need (isSl v_12) (K ((decide ((lenS v_12:Int)=(0:Int)))) st))) (need (isSl v_11) (BId ((lenS v_11:Int)=(0:Int)) (BId (v_0=7) (K true st) (need (isSl v_12) (K ((decide ((lenS v_12:Int)=(0:Int)))) st))) (K false st)))) (K false st)))) (K false st)))) (BId (v_0=4) (BId (v_0=5) (BId (v_0=6) (BId (v_0=7) (K true st) (need (isSl v_12) (K ((decide ((lenS v_12:Int)=(0:Int)))) st))) (need (isSl v_11) (BId ((lenS v_11:Int)=(0:Int)) (BId (v_0=7) (K true st) (need (isSl v_12) (K ((decide ((lenS v_12:Int)=(0:Int)))) st))) (K false st)))) (need (isSl v_10) (BId ((lenS v_10:Int)=(0:Int)) (BId (v_0=6) (BId (v_0=7) (K true st) (need (isSl v_12) (K ((decide ((lenS v_12:Int)=(0:Int)))) st))) (need (isSl v_11) (BId ((lenS v_11:Int)=(0:Int)) (BId (v_0=7) (K true st) (need (isSl v_12) (K ((decide ((lenS v_12:Int)=(0:Int)))) st))) (K false st)))) (K false st)))) (BId (v_9=([]:B8)) (BId (v_0=5) (BId (v_0=6) (BId (v_0=7) (K true st) (need (isSl v_12) (K ((decide ((lenS v_12:Int)=(0:Int)))) st))) (need (isSl v_11) (BId ((lenS v_11:Int)=(0:Int)) (BId (v_0=7) (K true st) (need (isSl v_12) (K ((decide ((lenS v_12:Int)=(0:Int)))) st))) (K false st)))) (need (isSl v_10) (BId ((lenS v_10:Int)=(0:Int)) (BId (v_0=6) (BId (v_0=7) (K true st) (need (isSl v_12) (K ((decide ((lenS v_12:Int)=(0:Int)))) st))) (need (isSl v_11) (BId ((lenS v_11:Int)=(0:Int)) (BId (v_0=7) (K true st) (need (isSl v_12) (K ((decide ((lenS v_12:Int)=(0:Int)))) st))) (K false st)))) (K false st)))) (K false st))))) (BId (v_0≠3) (BIf (!(decide (v_5=(0:Int))&&(decide (v_6=(0:Int))&&(decide (v_7=(0:Int))&&(decide (v_8=(0:Int))&&true))))) (K false st) (BId (v_0=4) (BId (v_0=5) (BId (v_0=6) (BId (v_0=7) (K true st) (need (isSl v_12) (K ((decide ((lenS v_12:Int)=(0:Int)))) st))) (need (isSl v_11) (BId ((lenS v_11:Int)=(0:Int)) (BId (v_0=7) (K true st) (need (isSl v_12) (K ((decide ((lenS v_12:Int)=(0:Int)))) st))) (K false st)))) (need (isSl v_10) (BId ((lenS v_10:Int)=(0:Int)) (BId (v_0=6) (BId (v_0=7) (K true st) (need (isSl v_12) (K ((decide ((lenS v_12:Int)=(0:Int)))) st))) (need (isSl v_11) (BId ((lenS v_11:Int)=(0:Int)) (BId (v_0=7) (K true st) (need (isSl v_12) (K ((decide ((lenS v_12:Int)=(0:Int)))) st))) (K false st)))) (K false st)))) (BId (v_9=([]:B8)) (BId (v_0=5) (BId (v_0=6) (BId (v_0=7) (K true st) (need (isSl v_12) (K ((decide ((lenS v_12:Int)=(0:Int)))) st))) (need (isSl v_11) (BId ((lenS v_11:Int)=(0:Int)) (BId (v_0=7) (K true st) (need (isSl v_12) (K ((decide ((lenS v_12:Int)=(0:Int)))) st))) (K false st)))) (need (isSl v_10) (BId ((lenS v_10:Int)=(0:Int)) (BId (v_0=6) (BId (v_0=7) (K true st) (need (isSl v_12) (K ((decide ((lenS v_12:Int)=(0:Int)))) st))) (need (isSl v_11) (BId ((lenS v_11:Int)=(0:Int)) (BId (v_0=7) (K true st) (need (isSl v_12) (K ((decide ((lenS v_12:Int)=(0:Int)))) st))) (K false st)))) (K false st)))) (K false st)))) (BId (v_0=4) (BId (v_0=5) (BId (v_0=6) (BId (v_0=7) (K true st) (need (isSl v_12) (K ((decide ((lenS v_12:Int)=(0:Int)))) st))) (need (isSl v_11) (BId ((lenS v_11:Int)=(0:Int)) (BId (v_0=7) (K true st) (need (isSl v_12) (K ((decide ((lenS v_12:Int)=(0:Int)))) st))) (K false st)))) (need (isSl v_10) (BId ((lenS v_10:Int)=(0:Int)) (BId (v_0=6) (BId (v_0=7) (K true st) (need (isSl v_12) (K ((decide ((lenS v_12:Int)=(0:Int)))) st))) (need (isSl v_11) (BId ((lenS v_11:Int)=(0:Int)) (BId (v_0=7) (K true st) (need (isSl v_12) (K ((decide ((lenS v_12:Int)=(0:Int)))) st))) (K false st)))) (K false st)))) (BId (v_9=([]:B8)) (BId (v_0=5) (BId (v_0=6) (BId (v_0=7) (K true st) (need (isSl v_12) (K ((decide ((lenS v_12:Int)=(0:Int)))) st))) (need (isSl v_11) (BId ((lenS v_11:Int)=(0:Int)) (BId (v_0=7) (K true st) (need (isSl v_12) (K ((decide ((lenS v_12:Int)=(0:Int)))) st))) (K false st)))) (need (isSl v_10) (BId ((lenS v_10:Int)=(0:Int)) (BId (v_0=6) (BId (v_0=7) (K true st) (need (isSl v_12) (K ((decide ((lenS v_12:Int)=(0:Int)))) st))) (need (isSl v_11) (BId ((lenS v_11:Int)=(0:Int)) (BId (v_0=7) (K true st) (need (isSl v_12) (K ((decide ((lenS v_12:Int)=(0:Int)))) st))) (K false st)))) (K false st)))) (K false st)))))))):CallT PR Ch [(.agg (cV v_0 v_1 v_2 v_3 v_4 v_5 v_6 v_7 v_8 v_9 v_10 v_11 v_12))] [.one .bool] st K:=
 Ad (cfg:=⟨[1],[],[]⟩) (h:= .none) mixed (fun _ _=>Tryz.call257 _ _) Tryz.func257 (by kernel_rfl) (by kernel_rfl) h
theorem CT (d_0:Bool) (d_1:B8) (d_2:Int) (st:St) (K:Bool->St->Prop) (h:BId (d_1=([]:B8)) (BIf (!d_0) (K ((decide (d_2=0))) st) (K false st)) (BId ((d_1.length:Int)<=(120:Int)) (CallT PR BM [.str d_1] [.one .bool] st (fun (b1:Bool) b=>BIf b1 (CallT PR BL [.str d_1] [.one (.int .i64)] b (fun (n1:Int) a=>BId (n1=0) (BId ((-400:Int)<=d_2) (K ((decide (d_2<=400))) a) (K false a)) (K false a))) (K false b))) (K false st))):CallT PR Bi [(.agg [.bool d_0,.str d_1,.int .i64 d_2])] [.one .bool] st K:=
 Ad (cfg:=⟨[1],[],[]⟩) (h:= .none) mixed (fun _ _=>Tryz.call258 _ _) Tryz.func258 (by kernel_rfl) (by kernel_rfl) h
theorem FI (l:TV) (st:St) (K:Int->St->Prop) (h:∃(I1:Int->TV->St->Prop) (M1:Int->TV->St->Nat),(I1 0 l st)/\∀b c g,I1 b c g->(need (isSl c) (BId (b<(lenS c:Int)) (((0<=b/\b<(lenZ 14 c:Int))/\need (isPtr (ixT 14 c b.toNat)) (Ao (Af g [] (.t (AX (ixT 14 c b.toNat) 0)) 0) (fun (x1:TV)=>Ar .str x1 (fun (s1:B8)=>CallT PR AC [.str s1] [.one .bool] g (fun (b1:Bool) i=>BIf (!b1) (K 5 i) (((0<=b/\b<(lenZ 14 c:Int))/\need (isPtr (ixT 14 c b.toNat)) (Ao (Af i [] (.t (AX (ixT 14 c b.toNat) 0)) 0) (fun (x2:TV)=>Ar .str x2 (fun (s2:B8)=>BId ((1024:Int)<(s2.length:Int)) (K 10 i) (∃(I2:Int->TV->Int->St->Prop) (M2:Int->TV->Int->St->Nat),(I2 0 c b i)/\∀f a d e,I2 f a d e->(BId (f<d) (((0<=f/\f<(lenZ 14 a:Int))/\need (isPtr (ixT 14 a f.toNat)) (Ao (Af e [] (.t (AX (ixT 14 a f.toNat) 0)) 0) (fun (x3:TV)=>Ar .str x3 (fun (s3:B8)=>((0<=d/\d<(lenZ 14 a:Int))/\need (isPtr (ixT 14 a d.toNat)) (Ao (Af e [] (.t (AX (ixT 14 a d.toNat) 0)) 0) (fun (x4:TV)=>Ar .str x4 (fun (s4:B8)=>BId (s3=s4) (K 8 e) ((I2 ((i64.wrap (f+(1:Int)))) a d e/\M2 ((i64.wrap (f+(1:Int)))) a d e<M2 f a d e))))))))))) ((I1 ((i64.wrap (d+(1:Int)))) a e/\M1 ((i64.wrap (d+(1:Int)))) a e<M1 b c g))))))))))))))) (K 0 g)))):CallT PR AK [l] [.one (.int .i64)] st K:=
 Ad (cfg:=⟨[],[],[]⟩) (h:=(.seq .none (.seq (.seq .none (.block (.loop ⟨[(3,.int .i64),(0,.tv)],[],[],[]⟩ (.seq .none (.seq (.block (.seq .none (.seq .none (.seq .none (.block (.loop ⟨[(4,.int .i64),(0,.tv),(3,.int .i64)],[],[],[]⟩ .none)))))) .none))))) .none))) mixed (fun _ _=>Tryz.call259 _ _) Tryz.func259 (by kernel_rfl) (by kernel_rfl) h
theorem Gm (s:B8) (p:B8) (st:St) (K:Bool->St->Prop) (h:BId ((s.length:Int)<(p.length:Int)) (K false st) (∃(I1:Int->B8->B8->St->Prop) (M1:Int->B8->B8->St->Nat),(I1 0 s p st)/\∀a c b d,I1 a c b d->(BId (a<(b.length:Int)) (((0<=a/\a<(b.length:Int))/\BId (((List.getD b a.toNat 0).toNat:Int)=(48:Int)) (((0<=a/\a<(c.length:Int))/\BId (((List.getD c a.toNat 0).toNat:Int)<(48:Int)) (K false d) (((0<=a/\a<(c.length:Int))/\BId ((57:Int)<((List.getD c a.toNat 0).toNat:Int)) (K false d) (((0<=a/\a<(b.length:Int))/\BId (((List.getD b a.toNat 0).toNat:Int)≠(48:Int)) (((0<=a/\a<(c.length:Int))/\((0<=a/\a<(b.length:Int))/\BId (((List.getD c a.toNat 0).toNat:Int)≠((List.getD b a.toNat 0).toNat:Int)) (K false d) ((I1 ((i64.wrap (a+(1:Int)))) c b d/\M1 ((i64.wrap (a+(1:Int)))) c b d<M1 a c b d))))) ((I1 ((i64.wrap (a+(1:Int)))) c b d/\M1 ((i64.wrap (a+(1:Int)))) c b d<M1 a c b d)))))))) (((0<=a/\a<(b.length:Int))/\BId (((List.getD b a.toNat 0).toNat:Int)≠(48:Int)) (((0<=a/\a<(c.length:Int))/\((0<=a/\a<(b.length:Int))/\BId (((List.getD c a.toNat 0).toNat:Int)≠((List.getD b a.toNat 0).toNat:Int)) (K false d) ((I1 ((i64.wrap (a+(1:Int)))) c b d/\M1 ((i64.wrap (a+(1:Int)))) c b d<M1 a c b d))))) ((I1 ((i64.wrap (a+(1:Int)))) c b d/\M1 ((i64.wrap (a+(1:Int)))) c b d<M1 a c b d)))))) (K true d)))):CallT PR Bq [.str s,.str p] [.one .bool] st K:=
 Ad (cfg:=⟨[],[],[]⟩) (h:=(.seq .none (.seq .none (.seq (.seq .none (.block (.loop ⟨[(5,.int .i64),(0,.str),(1,.str)],[],[],[]⟩ .none))) .none)))) mixed (fun _ _=>Tryz.call279 _ _) Tryz.func279 (by kernel_rfl) (by kernel_rfl) h
theorem Jc (s:B8) (i:Int) (st:St) (K:Int->Int->St->Prop) (h:∃(I1:Int->Int->B8->Int->St->Prop) (M1:Int->Int->B8->Int->St->Nat),(I1 0 i s i st)/\∀c a b d e,I1 c a b d e->(BId (a<(i64.wrap (d+(4:Int)))) (BId ((b.length:Int)<=a) (K 0 4 e) (((0<=a/\a<(b.length:Int))/\CallT PR AH [.str QB,(.int .u8 ((List.getD b a.toNat 0).toNat:Int))] [.one (.int .i64)] e (fun (n1:Int) f=>BId (n1<0) (K 0 3 f) (BId ((16:Int)<=n1) ((I1 ((i64.wrap ((i64.wrap (c*(16:Int)))+(i64.wrap (n1-(6:Int)))))) ((i64.wrap (a+(1:Int)))) b d f/\M1 ((i64.wrap ((i64.wrap (c*(16:Int)))+(i64.wrap (n1-(6:Int)))))) ((i64.wrap (a+(1:Int)))) b d f<M1 c a b d e)) ((I1 ((i64.wrap ((i64.wrap (c*(16:Int)))+n1))) ((i64.wrap (a+(1:Int)))) b d f/\M1 ((i64.wrap ((i64.wrap (c*(16:Int)))+n1))) ((i64.wrap (a+(1:Int)))) b d f<M1 c a b d e))))))) (K c 0 e))):CallT PR Bl [.str s,.int .i64 i] [.one (.int .i64),.one (.int .i64)] st K:=
 Ad (cfg:=⟨[],[],[]⟩) (h:=(.seq .none (.seq .none (.seq (.seq .none (.block (.loop ⟨[(6,.int .i64),(7,.int .i64),(0,.str),(1,.int .i64)],[],[],[]⟩ .none))) .none)))) mixed (fun _ _=>Tryz.call280 _ _) Tryz.func280 (by kernel_rfl) (by kernel_rfl) h
theorem Ey (r:Nat) (width:Int) (st:St) (K:Int->St->Prop) (h:Ao (Af st [] (.t (.box r 0)) 0) (fun (x1:TV)=>Ar .str x1 (fun (s1:B8)=>BId ((s1.length:Int)<width) (stB st (.box r 1) [.bool true] (fun k=>K 0 k)) (∃(I1:Int->Int->TV->Int->Int->St->Prop) (M1:Int->Int->TV->Int->Int->St->Nat),(I1 0 0 ((.box r 0)) width width st)/\∀e c a b f d,I1 e c a b f d->(BId (c<f) (need (isPtr a) (need (isPtr a) (Ao (Af d [] (.t (AX a 0)) 0) (fun (x2:TV)=>Ar .str x2 (fun (s2:B8)=>((0<=c/\c<(s2.length:Int))/\BId (((List.getD s2 c.toNat 0).toNat:Int)<(48:Int)) (need (isPtr a) (need (isPtr a) (stB d (AX a 1) [.bool true] (fun i=>K 0 i)))) (need (isPtr a) (need (isPtr a) (Ao (Af d [] (.t (AX a 0)) 0) (fun (x3:TV)=>Ar .str x3 (fun (s3:B8)=>((0<=c/\c<(s3.length:Int))/\BId ((57:Int)<((List.getD s3 c.toNat 0).toNat:Int)) (need (isPtr a) (need (isPtr a) (stB d (AX a 1) [.bool true] (fun g=>K 0 g)))) (need (isPtr a) (need (isPtr a) (Ao (Af d [] (.t (AX a 0)) 0) (fun (x4:TV)=>Ar .str x4 (fun (s4:B8)=>((0<=c/\c<(s4.length:Int))/\(I1 ((i64.wrap ((i64.wrap ((10:Int)*e))+(i64.wrap (u8.wrap (((List.getD s4 c.toNat 0).toNat:Int)-(48:Int))))))) ((i64.wrap (c+(1:Int)))) a b f d/\M1 ((i64.wrap ((i64.wrap ((10:Int)*e))+(i64.wrap (u8.wrap (((List.getD s4 c.toNat 0).toNat:Int)-(48:Int))))))) ((i64.wrap (c+(1:Int)))) a b f d<M1 e c a b f d))))))))))))))))))) (need (isPtr a) (need (isPtr a) (Ao (Af d [] (.t (AX a 0)) 0) (fun (x5:TV)=>Ar .str x5 (fun (s5:B8)=>((0<=b/\b<=(s5.length:Int))/\need (isPtr a) (need (isPtr a) (stB d (AX a 0) [(.str (List.drop b.toNat s5))] (fun j=>K e j)))))))))))))):CallT PR Aj [(.box r 0),.int .i64 width] [.one (.int .i64)] st K:=
 Ad (cfg:=⟨[],[],[]⟩) (h:=(.seq .none (.seq .none (.seq .none (.seq (.seq .none (.block (.loop ⟨[(5,.int .i64),(18,.int .i64),(0,.tv),(1,.int .i64),(17,.int .i64)],[],[],[]⟩ .none))) .none))))) mixed (fun _ _=>Tryz.call285 _ _) Tryz.func285 (by kernel_rfl) (by kernel_rfl) h
theorem D5 (r:Nat) (st:St) (K:Int->St->Prop) (h:∃(I1:Int->Int->TV->St->Prop) (M1:Int->Int->TV->St->Nat),(I1 0 0 ((.box r 0)) st)/\∀d b a c,I1 d b a c->(need (isPtr a) (need (isPtr a) (Ao (Af c [] (.t (AX a 0)) 0) (fun (x1:TV)=>Ar .str x1 (fun (s1:B8)=>BId (b<(s1.length:Int)) (need (isPtr a) (need (isPtr a) (Ao (Af c [] (.t (AX a 0)) 0) (fun (x2:TV)=>Ar .str x2 (fun (s2:B8)=>((0<=b/\b<(s2.length:Int))/\BId ((48:Int)<=((List.getD s2 b.toNat 0).toNat:Int)) (need (isPtr a) (need (isPtr a) (Ao (Af c [] (.t (AX a 0)) 0) (fun (x3:TV)=>Ar .str x3 (fun (s3:B8)=>((0<=b/\b<(s3.length:Int))/\BId (((List.getD s3 b.toNat 0).toNat:Int)<=(57:Int)) (BId (b<9) (need (isPtr a) (need (isPtr a) (Ao (Af c [] (.t (AX a 0)) 0) (fun (x4:TV)=>Ar .str x4 (fun (s4:B8)=>((0<=b/\b<(s4.length:Int))/\(I1 ((i64.wrap ((i64.wrap ((10:Int)*d))+(i64.wrap (u8.wrap (((List.getD s4 b.toNat 0).toNat:Int)-(48:Int))))))) ((i64.wrap (b+(1:Int)))) a c/\M1 ((i64.wrap ((i64.wrap ((10:Int)*d))+(i64.wrap (u8.wrap (((List.getD s4 b.toNat 0).toNat:Int)-(48:Int))))))) ((i64.wrap (b+(1:Int)))) a c<M1 d b a c))))))) ((I1 d ((i64.wrap (b+(1:Int)))) a c/\M1 d ((i64.wrap (b+(1:Int)))) a c<M1 d b a c))) (BId (b<1) (need (isPtr a) (need (isPtr a) (stB c (AX a 1) [.bool true] (fun w=>K 0 w)))) (BId ((9:Int)<b) (need (isPtr a) (need (isPtr a) (stB c (AX a 1) [.bool true] (fun y=>K 0 y)))) (need (isPtr a) (need (isPtr a) (Ao (Af c [] (.t (AX a 0)) 0) (fun (x5:TV)=>Ar .str x5 (fun (s5:B8)=>((0<=b/\b<=(s5.length:Int))/\need (isPtr a) (need (isPtr a) (stB c (AX a 0) [(.str (List.drop b.toNat s5))] (fun x=>∃(I2:Int->Int->St->Prop) (M2:Int->Int->St->Nat),(I2 d b x)/\∀j n g,I2 j n g->(BId (n<9) ((I2 ((i64.wrap (j*(10:Int)))) ((i64.wrap (n+(1:Int)))) g/\M2 ((i64.wrap (j*(10:Int)))) ((i64.wrap (n+(1:Int)))) g<M2 j n g)) (K j g))))))))))))))))))) (BId (b<1) (need (isPtr a) (need (isPtr a) (stB c (AX a 1) [.bool true] (fun s=>K 0 s)))) (BId ((9:Int)<b) (need (isPtr a) (need (isPtr a) (stB c (AX a 1) [.bool true] (fun v=>K 0 v)))) (need (isPtr a) (need (isPtr a) (Ao (Af c [] (.t (AX a 0)) 0) (fun (x6:TV)=>Ar .str x6 (fun (s6:B8)=>((0<=b/\b<=(s6.length:Int))/\need (isPtr a) (need (isPtr a) (stB c (AX a 0) [(.str (List.drop b.toNat s6))] (fun u=>∃(I3:Int->Int->St->Prop) (M3:Int->Int->St->Nat),(I3 d b u)/\∀i k f,I3 i k f->(BId (k<9) ((I3 ((i64.wrap (i*(10:Int)))) ((i64.wrap (k+(1:Int)))) f/\M3 ((i64.wrap (i*(10:Int)))) ((i64.wrap (k+(1:Int)))) f<M3 i k f)) (K i f))))))))))))))))))) (BId (b<1) (need (isPtr a) (need (isPtr a) (stB c (AX a 1) [.bool true] (fun p=>K 0 p)))) (BId ((9:Int)<b) (need (isPtr a) (need (isPtr a) (stB c (AX a 1) [.bool true] (fun q=>K 0 q)))) (need (isPtr a) (need (isPtr a) (Ao (Af c [] (.t (AX a 0)) 0) (fun (x7:TV)=>Ar .str x7 (fun (s7:B8)=>((0<=b/\b<=(s7.length:Int))/\need (isPtr a) (need (isPtr a) (stB c (AX a 0) [(.str (List.drop b.toNat s7))] (fun o=>∃(I4:Int->Int->St->Prop) (M4:Int->Int->St->Nat),(I4 d b o)/\∀m l e,I4 m l e->(BId (l<9) ((I4 ((i64.wrap (m*(10:Int)))) ((i64.wrap (l+(1:Int)))) e/\M4 ((i64.wrap (m*(10:Int)))) ((i64.wrap (l+(1:Int)))) e<M4 m l e)) (K m e))))))))))))))))))):CallT PR Bj [(.box r 0)] [.one (.int .i64)] st K:=
 Ad (cfg:=⟨[],[],[]⟩) (h:=(.seq .none (.seq .none (.seq (.block (.loop ⟨[(3,.int .i64),(4,.int .i64),(0,.tv)],[],[],[]⟩ .none)) (.seq .none (.seq .none (.seq (.block (.loop ⟨[(3,.int .i64),(4,.int .i64)],[],[],[]⟩ .none)) .none))))))) mixed (fun _ _=>Tryz.call286 _ _) Tryz.func286 (by kernel_rfl) (by kernel_rfl) h
theorem Ho (year:Int) (st:St) (K:Bool->St->Prop) (h:BId ((1:Int)<=year) (K ((decide (year<=9999))) st) (K false st)):CallT PR BP [.int .i64 year] [.one .bool] st K:=
 Ad (cfg:=⟨[],[],[]⟩) (h:= .none) mixed (fun _ _=>Tryz.call287 _ _) Tryz.func287 (by kernel_rfl) (by kernel_rfl) h
theorem Ih (year:Int) (st:St) (K:Bool->St->Prop) (h:CallT PR BP [.int .i64 year] [.one .bool] st (fun (b1:Bool) a=>BIf b1 (BId ((Int.tmod year (4:Int))=(0:Int)) (BId ((Int.tmod year (100:Int))≠(0:Int)) (K true a) (K ((decide ((Int.tmod year (400:Int))=(0:Int)))) a)) (K false a)) (K false a))):CallT PR Db [.int .i64 year] [.one .bool] st K:=
 Ad (cfg:=⟨[],[],[]⟩) (h:= .none) mixed (fun _ _=>Tryz.call288 _ _) Tryz.func288 (by kernel_rfl) (by kernel_rfl) h
theorem EO (r:Int) (st:St) (K:B8->Int->St->Prop) (h:CallT PR Bk [.int .i64 r] [.one .bool] st (fun (b1:Bool) a=>BIf (!b1) (K [] 2 a) (BId (r<128) (Ao ((toBytes a (.list 1 .full 1 [(.int .u8 (u8.wrap r))])).map TV.str) (fun (x1:TV)=>Ar .str x1 (fun (s1:B8)=>K s1 0 a))) (BId (r<2048) (Ao ((toBytes a (.list 1 .full 2 [(.int .u8 (u8.wrap (Ai .or .i64 (192:Int) (Int.fdiv r (2^(min (Int.toNat (6:Int)) (IntKind.bits .i64))))))),(.int .u8 (u8.wrap (Ai .or .i64 (128:Int) (Ai .and .i64 r (63:Int)))))])).map TV.str) (fun (x2:TV)=>Ar .str x2 (fun (s2:B8)=>K s2 0 a))) (BId (r<65536) (Ao ((toBytes a (.list 1 .full 3 [(.int .u8 (u8.wrap (Ai .or .i64 (224:Int) (Int.fdiv r (2^(min (Int.toNat (12:Int)) (IntKind.bits .i64))))))),(.int .u8 (u8.wrap (Ai .or .i64 (128:Int) (Ai .and .i64 (Int.fdiv r (2^(min (Int.toNat (6:Int)) (IntKind.bits .i64)))) (63:Int))))),(.int .u8 (u8.wrap (Ai .or .i64 (128:Int) (Ai .and .i64 r (63:Int)))))])).map TV.str) (fun (x3:TV)=>Ar .str x3 (fun (s3:B8)=>K s3 0 a))) (Ao ((toBytes a (.list 1 .full 4 [(.int .u8 (u8.wrap (Ai .or .i64 (240:Int) (Int.fdiv r (2^(min (Int.toNat (18:Int)) (IntKind.bits .i64))))))),(.int .u8 (u8.wrap (Ai .or .i64 (128:Int) (Ai .and .i64 (Int.fdiv r (2^(min (Int.toNat (12:Int)) (IntKind.bits .i64)))) (63:Int))))),(.int .u8 (u8.wrap (Ai .or .i64 (128:Int) (Ai .and .i64 (Int.fdiv r (2^(min (Int.toNat (6:Int)) (IntKind.bits .i64)))) (63:Int))))),(.int .u8 (u8.wrap (Ai .or .i64 (128:Int) (Ai .and .i64 r (63:Int)))))])).map TV.str) (fun (x4:TV)=>Ar .str x4 (fun (s4:B8)=>K s4 0 a)))))))):CallT PR A9 [.int .i64 r] [.one .str,.one (.int .i64)] st K:=
 Ad (cfg:=⟨[],[],[]⟩) (h:= .none) mixed (fun _ _=>Tryz.call290 _ _) Tryz.func290 (by kernel_rfl) (by kernel_rfl) h
theorem Fu (s:B8) (st:St) (K:Bool->St->Prop) (h:BId ((s.length:Int)<=(600:Int)) (CallT PR BC [.str s] [.one .bool] st (fun (b1:Bool) a=>BIf b1 (BId ((s.length:Int)=(0:Int)) (K true a) (((0<=(0:Int)/\(0:Int)<(s.length:Int))/\K ((decide (((List.getD s (Int.toNat (0:Int)) 0).toNat:Int)≠(48:Int)))) a))) (K false a))) (K false st)):CallT PR BM [.str s] [.one .bool] st K:=
 Ad (cfg:=⟨[],[],[]⟩) (h:= .none) mixed (fun _ _=>Tryz.call291 _ _) Tryz.func291 (by kernel_rfl) (by kernel_rfl) h
theorem Kw (s:B8) (st:St) (K:Bool->St->Prop) (h:∃(I1:Int->B8->Int->St->Prop) (M1:Int->B8->Int->St->Nat),(I1 0 s ((s.length:Int)) st)/\∀a b d c,I1 a b d c->(BId (a<d) (((0<=a/\a<(b.length:Int))/\BId (((List.getD b a.toNat 0).toNat:Int)<(48:Int)) (K false c) (((0<=a/\a<(b.length:Int))/\BId ((57:Int)<((List.getD b a.toNat 0).toNat:Int)) (K false c) ((I1 ((i64.wrap (a+(1:Int)))) b d c/\M1 ((i64.wrap (a+(1:Int)))) b d c<M1 a b d c)))))) (K true c))):CallT PR En [.str s] [.one .bool] st K:=
 Ad (cfg:=⟨[],[],[]⟩) (h:=(.seq .none (.seq (.seq .none (.block (.loop ⟨[(6,.int .i64),(0,.str),(5,.int .i64)],[],[],[]⟩ .none))) .none))) mixed (fun _ _=>Tryz.call293 _ _) Tryz.func293 (by kernel_rfl) (by kernel_rfl) h
theorem Hm (b:TV) (st:St) (K:St->Prop) (h:need (isSl b) (∃(I1:Int->Int->TV->St->Prop) (M1:Int->Int->TV->St->Nat),(I1 0 ((i64.wrap ((lenS b:Int)-(1:Int)))) b st)/\∀d c a e,I1 d c a e->(BId (d<c) (((0<=c/\c<(lenZ 1 a:Int))/\Ao (Af e [] (.t (ixT 1 a c.toNat)) 0) (fun (x1:TV)=>Ar (.int .u8) x1 (fun (n1:Int)=>((0<=d/\d<(lenZ 1 a:Int))/\Ao (Af e [] (.t (ixT 1 a d.toNat)) 0) (fun (x2:TV)=>Ar (.int .u8) x2 (fun (n2:Int)=>((0<=d/\d<(lenZ 1 a:Int))/\stB e (ixT 1 a d.toNat) [.int .u8 n1] (fun g=>((0<=c/\c<(lenZ 1 a:Int))/\stB g (ixT 1 a c.toNat) [.int .u8 n2] (fun f=>(I1 ((i64.wrap (d+(1:Int)))) ((i64.wrap (c-(1:Int)))) a f/\M1 ((i64.wrap (d+(1:Int)))) ((i64.wrap (c-(1:Int)))) a f<M1 d c a e)))))))))))) (K e)))):CallT PR CJ [b] [] st K:=
 Ad (cfg:=⟨[],[],[]⟩) (h:=(.seq .none (.block (.loop ⟨[(2,.int .i64),(3,.int .i64),(0,.tv)],[],[],[]⟩ .none)))) mixed (fun _ _=>Tryz.call298 _ _) Tryz.func298 (by kernel_rfl) (by kernel_rfl) h
theorem Hq (n:Int) (st:St) (K:Bool->St->Prop) (h:BId ((0:Int)<=n) (K ((decide (n<=3652058))) st) (K false st)):CallT PR Ef [.int .i64 n] [.one .bool] st K:=
 Ad (cfg:=⟨[],[],[]⟩) (h:= .none) mixed (fun _ _=>Tryz.call299 _ _) Tryz.func299 (by kernel_rfl) (by kernel_rfl) h
theorem D6 (r:Int) (st:St) (K:Bool->St->Prop) (h:BId ((0:Int)<=r) (BId (r<=1114111) (BId (r<55296) (K true st) (K ((decide ((57343:Int)<r))) st)) (K false st)) (K false st)):CallT PR Bk [.int .i64 r] [.one .bool] st K:=
 Ad (cfg:=⟨[],[],[]⟩) (h:= .none) mixed (fun _ _=>Tryz.call318 _ _) Tryz.func318 (by kernel_rfl) (by kernel_rfl) h
theorem EQ (s:B8) (st:St) (K:Bool->St->Prop) (h:∃(I1:Int->B8->St->Prop) (M1:Int->B8->St->Nat),(I1 0 s st)/\∀a b c,I1 a b c->(BId (a<(b.length:Int)) (((0<=a/\a<(b.length:Int))/\BId (((List.getD b a.toNat 0).toNat:Int)<(48:Int)) (K false c) (((0<=a/\a<(b.length:Int))/\BId ((57:Int)<((List.getD b a.toNat 0).toNat:Int)) (K false c) ((I1 ((i64.wrap (a+(1:Int)))) b c/\M1 ((i64.wrap (a+(1:Int)))) b c<M1 a b c)))))) (K true c))):CallT PR BC [.str s] [.one .bool] st K:=
 Ad (cfg:=⟨[],[],[]⟩) (h:=(.seq .none (.seq (.seq .none (.block (.loop ⟨[(3,.int .i64),(0,.str)],[],[],[]⟩ .none))) .none))) mixed (fun _ _=>Tryz.call319 _ _) Tryz.func319 (by kernel_rfl) (by kernel_rfl) h
section
structure Sc where
 kind:Int
 b:Bool
 neg:Bool
 dg:B8
 ex:Int
 tk:Int
 td:Int
 tn:Int
 tz:Int
 text:B8
 bytes:B8
mutual
inductive Vl where
 | mk (s:Sc) (l:List Vl) (f:List Fd)
inductive Fd where
 | mk (k:B8) (v:Vl)
end
def Fd.key:Fd->B8 | .mk k _=>k
def Fd.val:Fd->Vl | .mk _ v=>v
def SlR (st:St) (sz:Nat) (v:TV) (n:Nat) (xs:List TV):Prop:=
 Rd sz v n xs∨∃b off cap l,v= .ms sz b off n cap/\b<st.nb/\st.box b= .cells l/\off+cap*sz<=l.length/\n<=cap/\xs=(l.drop off).take (n*sz)
theorem SlR.of_rd {st:St} {sz n:Nat} {v:TV} {xs:List TV} (h:Rd sz v n xs):SlR st sz v n xs:= .inl h
def Bw (st st':St):Prop:=st.nb<=st'.nb/\∀b,b<st.nb->st'.box b=st.box b
theorem SlR.keep {st st':St} (k:Bw st st') {sz n:Nat} {v:TV} {xs:List TV} (h:SlR st sz v n xs):SlR st' sz v n xs:=by
 rcases h with h | ⟨b,off,cap,l,h1,h2,h3,h4,h5,h6⟩
 ·exact .inl h
 ·exact .inr ⟨b,off,cap,l,h1,Nat.lt_of_lt_of_le h2 k.1,(k.2 b h2).trans h3,h4,h5,h6⟩
mutual
def VlR (st:St):Vl->List TV->Prop
 | .mk s l f,cs=>∃ub ul uf xl xf,cs=[.int .i64 s.kind,.bool s.b,.bool s.neg,.str s.dg,.int .i64 s.ex,.int .i64 s.tk,.int .i64 s.td,.int .i64 s.tn,.int .i64 s.tz,.str s.text,ub,ul,uf]/\
   SlR st 1 ub s.bytes.length (Aq s.bytes)/\SlR st 13 ul l.length xl/\VsR st l xl/\SlR st 14 uf f.length xf/\FsR st f xf
def VsR (st:St):List Vl->List TV->Prop
 | [],xs=>xs=[]
 | v::r,xs=>∃a b,xs=a++b/\VlR st v a/\VsR st r b
def FdR (st:St):Fd->List TV->Prop
 | .mk k v,xs=>∃cs,xs= .str k::cs/\VlR st v cs
def FsR (st:St):List Fd->List TV->Prop
 | [],xs=>xs=[]
 | d::r,xs=>∃a b,xs=a++b/\FdR st d a/\FsR st r b
end
mutual
theorem VlR.keep {st st':St} (k:Bw st st'):∀{v:Vl} {cs:List TV},VlR st v cs->VlR st' v cs
 | .mk s l f,cs,h=>by
  unfold VlR at h⊢
  obtain⟨ub,ul,uf,xl,xf,h0,h1,h2,h3,h4,h5⟩:=h
  exact⟨ub,ul,uf,xl,xf,h0,h1.keep k,h2.keep k,VsR.keep k h3,h4.keep k,FsR.keep k h5⟩
theorem VsR.keep {st st':St} (k:Bw st st'):∀{l:List Vl} {cs:List TV},VsR st l cs->VsR st' l cs
 | [],cs,h=>by unfold VsR at h⊢;exact h
 | v::r,cs,h=>by
  unfold VsR at h⊢
  obtain⟨a,b,h0,h1,h2⟩:=h
  exact⟨a,b,h0,VlR.keep k h1,VsR.keep k h2⟩
theorem FdR.keep {st st':St} (k:Bw st st'):∀{d:Fd} {cs:List TV},FdR st d cs->FdR st' d cs
 | .mk key v,cs,h=>by
  unfold FdR at h⊢
  obtain⟨c,h0,h1⟩:=h
  exact⟨c,h0,VlR.keep k h1⟩
theorem FsR.keep {st st':St} (k:Bw st st'):∀{l:List Fd} {cs:List TV},FsR st l cs->FsR st' l cs
 | [],cs,h=>by unfold FsR at h⊢;exact h
 | d::r,cs,h=>by
  unfold FsR at h⊢
  obtain⟨a,b,h0,h1,h2⟩:=h
  exact⟨a,b,h0,FdR.keep k h1,FsR.keep k h2⟩
end
theorem VlR.len {st:St} {v:Vl} {cs:List TV} (h:VlR st v cs):cs.length=13:=by
 cases v;unfold VlR at h;obtain⟨ub,ul,uf,xl,xf,rfl,_⟩:=h;rfl
theorem FdR.len {st:St} {v:Fd} {cs:List TV} (h:FdR st v cs):cs.length=14:=by
 cases v;unfold FdR at h;obtain⟨c,rfl,h⟩:=h;simp[h.len]
theorem VsR.len {st:St}:∀{l:List Vl} {xs:List TV},VsR st l xs->xs.length=l.length*13
 | [],xs,h=>by unfold VsR at h;subst h;rfl
 | v::r,xs,h=>by
  unfold VsR at h
  obtain⟨a,b,rfl,h1,h2⟩:=h
  rw[List.length_append,h1.len,VsR.len h2,List.length_cons];omega
theorem FsR.len {st:St}:∀{l:List Fd} {xs:List TV},FsR st l xs->xs.length=l.length*14
 | [],xs,h=>by unfold FsR at h;subst h;rfl
 | v::r,xs,h=>by
  unfold FsR at h
  obtain⟨a,b,rfl,h1,h2⟩:=h
  rw[List.length_append,h1.len,FsR.len h2,List.length_cons];omega
theorem VsR.get {st:St}:∀{l:List Vl} {xs:List TV} {i:Nat} {v:Vl},VsR st l xs->l[i]? =some v->∃cs,VlR st v cs/\(xs.drop (i*13)).take 13=cs/\cs.length=13
 | [],xs,i,v,h,hi=>by simp at hi
 | w::r,xs,i,v,h,hi=>by
  unfold VsR at h
  obtain⟨a,b,rfl,h1,h2⟩:=h
  cases i with
  | zero=>
   simp only[List.getElem?_cons_zero,Option.some.injEq]at hi
   subst hi
   refine⟨a,h1,?_,h1.len⟩
   rw[Nat.zero_mul,List.drop_zero,<-h1.len,List.take_left]
  | succ i=>
   obtain⟨cs,h3,h4,h5⟩:=VsR.get h2 (by simpa using hi)
   refine⟨cs,h3,?_,h5⟩
   rw[show(i+1)*13=a.length+i*13 by rw[h1.len];omega,List.drop_append]
   simp only[Nat.add_sub_cancel_left]
   rw[List.drop_of_length_le (by omega),List.nil_append];exact h4
theorem FsR.get {st:St}:∀{l:List Fd} {xs:List TV} {i:Nat} {v:Fd},FsR st l xs->l[i]? =some v->∃cs,FdR st v cs/\(xs.drop (i*14)).take 14=cs/\cs.length=14
 | [],xs,i,v,h,hi=>by simp at hi
 | w::r,xs,i,v,h,hi=>by
  unfold FsR at h
  obtain⟨a,b,rfl,h1,h2⟩:=h
  cases i with
  | zero=>
   simp only[List.getElem?_cons_zero,Option.some.injEq]at hi
   subst hi
   refine⟨a,h1,?_,h1.len⟩
   rw[Nat.zero_mul,List.drop_zero,<-h1.len,List.take_left]
  | succ i=>
   obtain⟨cs,h3,h4,h5⟩:=FsR.get h2 (by simpa using hi)
   refine⟨cs,h3,?_,h5⟩
   rw[show(i+1)*14=a.length+i*14 by rw[h1.len];omega,List.drop_append]
   simp only[Nat.add_sub_cancel_left]
   rw[List.drop_of_length_le (by omega),List.nil_append];exact h4
end
structure StX (S:Nat->Prop) (a b:St):Prop where
 nb:a.nb<=b.nb
 box:∀i,i<a.nb->¬S i->b.box i=a.box i
 nt:a.nt<=b.nt
 live:∀i,i<a.nt->b.live i=a.live i
 ty:∀i,i<a.nt->b.ty i=a.ty i
 bt:∀i,i<a.nb->b.bt i=a.bt i
theorem StX.trans {S:Nat->Prop} {a b c:St} (h:StX S a b) (k:StX S b c):StX S a c:=
 ⟨Nat.le_trans h.nb k.nb,fun i hi hs=>(k.box i (Nat.lt_of_lt_of_le hi h.nb) hs).trans (h.box i hi hs),Nat.le_trans h.nt k.nt,fun i hi=>(k.live i (Nat.lt_of_lt_of_le hi h.nt)).trans (h.live i hi),fun i hi=>(k.ty i (Nat.lt_of_lt_of_le hi h.nt)).trans (h.ty i hi),fun i hi=>(k.bt i (Nat.lt_of_lt_of_le hi h.nb)).trans (h.bt i hi)⟩
theorem StX.mono {S T:Nat->Prop} {a b:St} (h:StX S a b) (k:∀i,S i->T i):StX T a b:=
 ⟨h.nb,fun i hi hs=>h.box i hi fun g=>hs (k i g),h.nt,h.live,h.ty,h.bt⟩
theorem StX.of {S:Nat->Prop} {a b:St} (h:Ah a b):StX S a b:=⟨h.nb,fun i hi _=>h.box i hi,h.nt,h.live,h.ty,h.bt⟩
theorem StX.ext {S:Nat->Prop} {a b c:St} (h:Ah a b) (k:StX S b c) (hs:∀i,S i->a.nb<=i):Ah a c:=
 ⟨Nat.le_trans h.nb k.nb,fun i hi=>(k.box i (Nat.lt_of_lt_of_le hi h.nb) fun g=>absurd (hs i g) (by omega)).trans (h.box i hi),Nat.le_trans h.nt k.nt,fun i hi=>(k.live i (Nat.lt_of_lt_of_le hi h.nt)).trans (h.live i hi),fun i hi=>(k.ty i (Nat.lt_of_lt_of_le hi h.nt)).trans (h.ty i hi),fun i hi=>(k.bt i (Nat.lt_of_lt_of_le hi h.nb)).trans (h.bt i hi)⟩
theorem StX.put {S:Nat->Prop} {a:St} {i:Nat} (hi:S i) (o:Hf):StX S a (a.put i o):=
 ⟨Nat.le_refl _,fun j hj hs=>by simp only[St.put];rw[if_neg (by rintro rfl;exact hs hi)],Nat.le_refl _,fun _ _=>rfl,fun _ _=>rfl,fun _ _=>rfl⟩
theorem JQ:∀(ys A c B:List TV),ys.length=c.length->setAll (A++c++B) A.length ys=A++ys++B
 | [],A,c,B,h=>by
  have:c=[]:=List.eq_nil_of_length_eq_zero (by simpa using h.symm)
  subst this;rfl
 | y::ys,A,[],B,h=>by simp at h
 | y::ys,A,x::c,B,h=>by
  rw[setAll]
  have e:(A++x::c++B).set A.length y=(A++[y])++c++B:=by simp
  rw[e]
  have:=JQ ys (A++[y]) c B (by simpa using h)
  rw[List.length_append]at this
  rw[show A.length+1=A.length+ [y].length from rfl,this]
  simp
theorem Jv {st:St} {b:Nat} {B:List TV}:∀(c:List TV) (l:List TV) (j o:Nat),st.box b= .cells l->l.drop (o+j)=c++B->Am st [] (.t (.box b o)) j c.length=some c
 | [],l,j,o,h,hd=>rfl
 | x::c,l,j,o,h,hd=>by
  have hx:l[o+j]? =some x:=by
   have:=congrArg (fun z:List TV=>z[0]?) hd
   simpa using this
  have hd2:l.drop (o+(j+1))=c++B:=by
   have:=congrArg (fun z:List TV=>z.drop 1) hd
   simpa [List.drop_drop,Nat.add_assoc]using this
  show(match Af st [] (.t (.box b o)) j with | some x=>(Am st [] (.t (.box b o)) (j+1) c.length).map (x::·) | none=>none)=_
  have:Af st [] (.t (.box b o)) j=some x:=by simp only[Af,h];exact hx
  rw[this]
  simp only
  rw[Jv c l (j+1) o h hd2];rfl
theorem BR {g:Ghost} {w:World} {l:B8} {v:Value} (h:Rel g w (.str l) v):v= .string ⟨l.toArray⟩:=by cases h;rfl
theorem IU {g:Ghost} {w:World} {k:IntKind} {n:Int} {v:Value} (h:Rel g w (.int k n) v):v= .int k n:=by cases h;rfl
theorem QN {g:Ghost} {w:World} {x:TV} {vs:List Value} (h:Ax g w [x] vs):∃v,vs=[v]/\Rel g w x v:=by
 obtain⟨v,h1,h2⟩:=h.get? (i:=0) rfl
 have:=h.1
 cases vs with
 | nil=>simp at this
 | cons a r=>cases r with
  | nil=>simp at h1;subst h1;exact⟨_,rfl,h2⟩
  | cons b r=>simp at this
theorem HK {g:Ghost} {w:World} {x y:TV} {vs:List Value} (h:Ax g w [x,y] vs):∃v u,vs=[v,u]/\Rel g w x v/\Rel g w y u:=by
 obtain⟨v,h1,h2⟩:=h.get? (i:=0) rfl
 obtain⟨u,h3,h4⟩:=h.get? (i:=1) rfl
 have:=h.1
 cases vs with
 | nil=>simp at this
 | cons a r=>cases r with
  | nil=>simp at this
  | cons b r=>cases r with
   | nil=>simp at h1 h3;subst h1 h3;exact⟨_,_,rfl,h2,h4⟩
   | cons c r=>simp at this
section
theorem SlR.one {st:St} {sz n:Nat} {u:TV} {xs:List TV} (h:SlR st sz u n xs):BQ u=true:=by
 rcases h with(⟨rfl,_⟩ | ⟨tip,rfl⟩) | ⟨b,off,cap,l,rfl,_⟩<;>rfl
theorem Ah.keeps {a b:St} (h:Ah a b):Bw a b:=⟨h.nb,h.box⟩
section
variable {st:St}
end
end
def Fj (st:St) (sz:Nat) (u:TV) (n:Nat) (xs:List TV) (bs:List Nat):Prop:=
 (n=0/\xs=[]/\bs=[]/\(u= .nilSlice∨u= .list sz .full 0 []))∨∃b cap tail,u= .ms sz b 0 n cap/\b<st.nb/\st.box b= .cells (xs++tail)/\(xs++tail).length=cap*sz/\xs.length=n*sz/\n<=cap/\bs=[b]
theorem Fj.rd {st:St} {sz n:Nat} {u:TV} {xs:List TV} {bs:List Nat} (h:Fj st sz u n xs bs):SlR st sz u n xs:=by
 rcases h with⟨rfl,rfl,rfl,rfl | rfl⟩ | ⟨b,cap,tail,rfl,h1,h2,h3,h4,h5,rfl⟩
 ·exact .inl (.inl ⟨rfl,rfl,rfl⟩)
 ·exact .inl (.inr ⟨_,rfl⟩)
 ·exact .inr ⟨b,0,cap,_,rfl,h1,h2,by omega,h5,by rw[List.drop_zero,<-h4,List.take_left]⟩
theorem NI (xs ys tail:List TV) (h:ys.length<=tail.length):setAll (xs++tail) xs.length ys=xs++ys++tail.drop ys.length:=by
 have e:tail=tail.take ys.length++tail.drop ys.length:=(List.take_append_drop _ _).symm
 have:=JQ ys xs (tail.take ys.length) (tail.drop ys.length) (by simp;omega)
 rw[List.append_assoc,List.take_append_drop]at this
 exact this
theorem Qi {T sz bytes:Nat} {st:St} {u:TV} {n k:Nat} {xs ys:List TV} {bs:List Nat} {K:TV->St->Prop} (h:Fj st sz u n xs bs) (hk1:0<k) (hy:ys.length=k*sz) (hby:(n+k)*bytes<=140737488355328)
  (hK:∀u' st' bs',Fj st' sz u' (n+k) (xs++ys) bs'->StX (·∈bs) st st'->((bs'=bs/\bs≠ [])∨bs'=[st.nb])->K u' st'):Jp T sz bytes u k ys st K:=by
 obtain⟨m,rfl⟩:∃m,k=m+1:=⟨k-1,by omega⟩
 have fresh:∀(zs:List TV) (N cap:Nat),zs.length=N*sz->N<=cap->Fj (st.push (.cells (zs++Ed ((cap-N)*sz))) (some T)) sz (.ms sz st.nb 0 N cap) N zs [st.nb]:=fun zs N cap h1 h2=>
  .inr ⟨st.nb,cap,Ed ((cap-N)*sz),rfl,by simp[St.push],by simp[St.push],by rw[List.length_append,h1];simp only[Ed,List.length_replicate];rw[<-Nat.add_mul];congr 1;omega,h1,h2,rfl⟩
 rcases h with⟨rfl,rfl,rfl,rfl | rfl⟩ | ⟨b,cap,tail,rfl,h1,h2,h3,h4,h5,rfl⟩
 ·simp only[Jp,Ag]
  refine⟨by simpa using hby,fun cap hc=>hK _ _ [st.nb] ?_ (StX.of ((Ah.refl st).push _ _)) (.inr rfl)⟩
  have:=fresh ys (m+1) cap hy hc
  simpa using this
 ·simp only[Jp,Nat.beq_refl]
  refine⟨hby,fun cap hc=>hK _ _ [st.nb] ?_ (StX.of ((Ah.refl st).push _ _)) (.inr rfl)⟩
  have:=fresh ys (0+(m+1)) cap (by rw[hy];congr 1;omega) hc
  simpa using this
 ·simp only[Jp,Nat.beq_refl]
  rw[List.length_append]at h3
  refine⟨hby,_,h2,by rw[List.length_append];omega,fun hc=>?_,fun hc cap' hc'=>?_⟩
  ·have hmul:(n+(m+1))*sz<=cap*sz:=Nat.mul_le_mul_right _ hc
   rw[Nat.add_mul]at hmul
   rw[Nat.zero_add,<-h4,NI xs ys tail (by omega)]
   refine hK _ _ [b] (.inr ⟨b,cap,tail.drop ys.length,rfl,h1,by simp[St.put],by simp only[List.length_append,List.length_drop];omega,by rw[List.length_append,h4,hy,<-Nat.add_mul],hc,rfl⟩) (StX.put (S:=(·∈ [b])) (.head _) _) (.inl ⟨rfl,by simp⟩)
  ·rw[List.drop_zero,<-h4,List.take_left]
   exact hK _ _ [st.nb] (fresh (xs++ys) (n+(m+1)) cap' (by rw[List.length_append,h4,hy,<-Nat.add_mul]) hc') (StX.of ((Ah.refl st).push _ _)) (.inr rfl)
section
mutual
def Vl.sz:Vl->Nat
 | .mk s l f=>1+s.bytes.length+s.text.length+s.dg.length+FC l+D7 f
def FC:List Vl->Nat
 | []=>0
 | v::r=>v.sz+FC r
def Fd.sz:Fd->Nat
 | .mk k v=>k.length+v.sz
def D7:List Fd->Nat
 | []=>0
 | d::r=>d.sz+D7 r
end
theorem Vl.sz_pos (v:Vl):1<=v.sz:=by cases v;unfold Vl.sz;omega
theorem Hh:∀l:List Vl,l.length<=FC l
 | []=>Nat.le_refl _
 | v::r=>by have:=Hh r;have:=v.sz_pos;unfold FC;simp only[List.length_cons];omega
theorem EH:∀l:List Fd,l.length<=D7 l
 | []=>Nat.le_refl _
 | .mk k v::r=>by have:=EH r;have:=v.sz_pos;unfold D7 Fd.sz;simp only[List.length_cons];omega
theorem Hi:∀{l:List Vl} {i:Nat} {v:Vl},l[i]? =some v->v.sz<=FC l
 | [],i,v,h=>by simp at h
 | w::r,0,v,h=>by simp at h;subst h;unfold FC;omega
 | w::r,i+1,v,h=>by have:=Hi (by simpa using h:r[i]? =some v);unfold FC;omega
theorem F4:∀{l:List Fd} {i:Nat} {d:Fd},l[i]? =some d->d.sz<=D7 l
 | [],i,v,h=>by simp at h
 | w::r,0,v,h=>by simp at h;subst h;unfold D7;omega
 | w::r,i+1,v,h=>by have:=F4 (by simpa using h:r[i]? =some v);unfold D7;omega
theorem J5 {st:St} {ys:List TV}:∀(k j:Nat),j+k<=ys.length->Am st [] (.t (.rptr ys)) j k=some ((ys.drop j).take k)
 | 0,j,h=>by simp[Am]
 | k+1,j,h=>by
  show(match Af st [] (.t (.rptr ys)) j with | some x=>(Am st [] (.t (.rptr ys)) (j+1) k).map (x::·) | none=>none)=_
  have hj:j<ys.length:=by omega
  have:Af st [] (.t (.rptr ys)) j=some ys[j]:=by simp[Af,hj]
  rw[this]
  simp only
  rw[J5 k (j+1) (by omega),List.drop_eq_getElem_cons hj]
  rfl
theorem SlR.ldc {st:St} {sz n i:Nat} {u:TV} {xs:List TV} (h:SlR st sz u n xs) (hl:xs.length=n*sz) (hi:i<n):Am st [] (.t (ixT sz u i)) 0 sz=some ((xs.drop (i*sz)).take sz):=by
 have hm:(i+1)*sz<=n*sz:=Nat.mul_le_mul_right _ hi
 rw[Nat.add_mul,Nat.one_mul]at hm
 rcases h with(⟨rfl,rfl,rfl⟩ | ⟨tip,rfl⟩) | ⟨b,off,cap,l,rfl,h2,h3,h4,h5,rfl⟩
 ·omega
 ·show Am st [] (.t (.rptr (xs.drop (i*sz)))) 0 sz=_
  rw[J5 sz 0 (by rw[List.length_drop];omega),List.drop_zero]
 ·have hc:n*sz<=cap*sz:=Nat.mul_le_mul_right _ h5
  have e1:(((l.drop off).take (n*sz)).drop (i*sz)).take sz=(l.drop (off+i*sz)).take sz:=by
   rw[List.drop_take,List.drop_drop,List.take_take,Nat.min_eq_left (by omega)]
  rw[e1]
  have e:=Jv (B:=l.drop (off+i*sz+sz)) (st:=st) (b:=b) ((l.drop (off+i*sz)).take sz) l 0 (off+i*sz) h3 (by
   have:=List.take_append_drop sz (l.drop (off+i*sz))
   rw[List.drop_drop]at this
   rw[Nat.add_zero];exact this.symm)
  rw[show((l.drop (off+i*sz)).take sz).length=sz by simp;omega]at e
  exact e
theorem SlR.lenZ {st:St} {sz n:Nat} {u:TV} {xs:List TV} (h:SlR st sz u n xs):TVF.lenZ sz u=n:=by
 rcases h with(⟨rfl,rfl,rfl⟩ | ⟨tip,rfl⟩) | ⟨b,off,cap,l,rfl,h2,h3,h4,h5,rfl⟩
 ·rfl
 ·simp[TVF.lenZ]
 ·simp[TVF.lenZ]
theorem SlR.lenS {st:St} {sz n:Nat} {u:TV} {xs:List TV} (h:SlR st sz u n xs):TVF.lenS u=n:=by
 rcases h with(⟨rfl,rfl,rfl⟩ | ⟨tip,rfl⟩) | ⟨b,off,cap,l,rfl,h2,h3,h4,h5,rfl⟩<;>rfl
theorem SlR.isSl {st:St} {sz n:Nat} {u:TV} {xs:List TV} (h:SlR st sz u n xs):TVF.isSl u=true:=by
 rcases h with(⟨rfl,rfl,rfl⟩ | ⟨tip,rfl⟩) | ⟨b,off,cap,l,rfl,h2,h3,h4,h5,rfl⟩<;>rfl
theorem Fj.nil (st:St) (sz:Nat):Fj st sz .nilSlice 0 [] []:= .inl ⟨rfl,rfl,rfl,.inl rfl⟩
theorem RF {n1:Int} {b1 b2:Bool} {s2:B8} {n2 n3 n4 n5 n6:Int} {s3:B8} {u1 u2 u3:TV} {f:Fun [.int .i64,.bool,.bool,.str,.int .i64,.int .i64,.int .i64,.int .i64,.int .i64,.str,.tv,.tv,.tv] Prop} (h:f n1 b1 b2 s2 n2 n3 n4 n5 n6 s3 u1 u2 u3):
  LV [.int .i64,.bool,.bool,.str,.int .i64,.int .i64,.int .i64,.int .i64,.int .i64,.str,.tv,.tv,.tv] (.agg [.int .i64 n1,.bool b1,.bool b2,.str s2,.int .i64 n2,.int .i64 n3,.int .i64 n4,.int .i64 n5,.int .i64 n6,.str s3,u1,u2,u3]) f:=h
theorem QY {n1:Int} {b1 b2:Bool} {s2:B8} {n2 n3 n4 n5 n6:Int} {s3:B8} {u1 u2 u3:TV} (h1:BQ u1=true) (h2:BQ u2=true) (h3:BQ u3=true):
  List.all [.int .i64 n1,.bool b1,.bool b2,.str s2,.int .i64 n2,.int .i64 n3,.int .i64 n4,.int .i64 n5,.int .i64 n6,.str s3,u1,u2,u3] BQ=true:=by
 simp only[List.all_cons,List.all_nil,h1,h2,h3,Bool.and_true];rfl
end
def A1 (s:Sc) (ub ul uf:TV):List TV:=[.int .i64 s.kind,.bool s.b,.bool s.neg,.str s.dg,.int .i64 s.ex,.int .i64 s.tk,.int .i64 s.td,.int .i64 s.tn,.int .i64 s.tz,.str s.text,ub,ul,uf]
theorem Rt {l:List Fd} {v:Fd} (h:v∈l):v.sz<=D7 l:=by
 obtain⟨i,hi⟩:=List.getElem?_of_mem h
 exact F4 hi
theorem Dg {T:Nat} {st0 st:St} {v:TV} {l ys:B8} {k:Nat} {xs:List TV} {K:TV->St->Prop} (e:Ah st0 st) (h:H5 st0.nt st v l) (hkl:k=ys.length) (hx:xs=Aq ys) (hby:l.length+ys.length<=140737488355328)
  (hK:∀v' st',Ah st0 st'->st'.box=st.box->H5 st0.nt st' v' (l++ys)->K v' st'):Bp T 1 1 v k xs st K:=by
 subst hkl hx
 exact OF e h hby hK
theorem natB_lt (n:Nat) (h:n<256):n.toUInt8.toNat=n:=by simp;omega
theorem or_u8 (x y:Nat) (hx:x<2^8) (hy:y<2^8):Ai .or .u8 (x:Int) (y:Int)=((x ||| y:Nat):Int):=by
 have h:x ||| y<2^8:=Nat.or_lt_two_pow hx hy
 show IntKind.wrap .u8 ((BitVec.ofInt 8 (x:Int) ||| BitVec.ofInt 8 (y:Int)).toNat:Int)=_
 simp only[BitVec.ofInt_natCast,BitVec.toNat_or,BitVec.toNat_ofNat]
 rw[Nat.mod_eq_of_lt (by omega),Nat.mod_eq_of_lt (by omega),H7 _ (by omega) (by omega)]
theorem el13 {st0 st:St} {ul:TV} {xl:List TV} {l:List Vl} (hke:Bw st0 st) (h2:SlR st0 13 ul l.length xl) (h3:VsR st0 l xl) {i:Int} {k:Nat} (hi:i=k) (hk:k<l.length) {f:Fun [.int .i64,.bool,.bool,.str,.int .i64,.int .i64,.int .i64,.int .i64,.int .i64,.str,.tv,.tv,.tv] Prop}
  (hf:∀s' l' f' ub1 ul1 uf1,l[k]? =some (.mk s' l' f')->VlR st0 (.mk s' l' f') (A1 s' ub1 ul1 uf1)->List.all (A1 s' ub1 ul1 uf1) BQ=true->f s'.kind s'.b s'.neg s'.dg s'.ex s'.tk s'.td s'.tn s'.tz s'.text ub1 ul1 uf1):
  (0<=i/\i<(lenZ 13 ul:Int))/\Ao ((Am st [] (.t (ixT 13 ul (Int.toNat i))) 0 13).map TV.agg) fun x=>LV [.int .i64,.bool,.bool,.str,.int .i64,.int .i64,.int .i64,.int .i64,.int .i64,.str,.tv,.tv,.tv] x f:=by
 subst hi
 have gw:l[k]? =some l[k]:=List.getElem?_eq_getElem hk
 obtain⟨cw,hw,hcw,hcl⟩:=h3.get gw
 rw[h2.lenZ,Int.toNat_natCast,(h2.keep hke).ldc h3.len hk,hcw]
 generalize l[k]=w at*
 cases w with
 | mk s' l' f'=>
 have hw0:=hw
 unfold VlR at hw0
 obtain⟨ub',ul',uf',xl',xf',rfl,w1,w2,w3,w4,w5⟩:=hw0
 exact⟨⟨by omega,by omega⟩,Ab rfl (RF (hf s' l' f' ub' ul' uf' gw hw (QY w1.one w2.one w4.one)))⟩
theorem Gd {α:Type} {l:List α} {k:Nat} {v:α} (h:l[k]? =some v):l.take (k+1)=l.take k++[v]:=by
 obtain⟨q1,q2⟩:=List.getElem?_eq_some_iff.1 h
 rw[List.take_succ_eq_append_getElem q1,q2]
theorem J2 {α:Type} {l:List α} {k:Nat} {v:α} (h:l[k]? =some v):v∈l:=by
 obtain⟨q1,q2⟩:=List.getElem?_eq_some_iff.1 h
 rw[<-q2];exact List.getElem_mem q1
end Go.TVF
