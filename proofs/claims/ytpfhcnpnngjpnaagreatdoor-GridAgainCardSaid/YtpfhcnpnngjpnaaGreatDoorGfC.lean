/- What the laws below rest on: a framework for Go programs, and contracts of the functions that they reach. -/
import Derived.Test.YtpfhcnpnngjpnaaGreatDoorGfB
import Derived.Deep.Slices
import Derived.WideShapes
import Derived.ChangeArms
import Derived.OpenShut
import Derived.Test.YtpfhcnpnngjpnaaGreatDoorProg
import Derived.KernelRfl
set_option maxRecDepth 20000
set_option linter.unusedVariables false
set_option linter.unusedSimpArgs false
section
namespace Go.TVF
open Go.IntKind(i64 u8)
open Go.RowKit (Below)
theorem To {P:Program} {Q:Exit->Act->World->Prop} {a:Act} {w:World} {c:Code} (I:Nat->Act->World->Prop) (h₀:∃m,I m a w)
  (round:∀m a w,I m a w->c.wp P (Exit.then (fun a' w'=>∃m',m'<m/\I m' a' w') Q) a w):(Code.loop c).wp P Q a w:=by
 intro b k cs
 have key:∀m a w,I m a w->∃e a' w',Q e a' w'/\Arrives P (lone (b.at a (.code c:: .inLoop c::k)) cs w) b k cs e a' w':=by
  intro m
  induction m using Nat.strongRecOn with
  | _ m ih=>
   intro a w hI
   obtain⟨e,a₁,w₁,hq,harr⟩:=round m a w hI b (.inLoop c::k) cs
   cases e with
   | normal=>
    obtain⟨m',hlt,hI₁⟩:=hq
    obtain⟨e₂,a₂,w₂,hq₂,harr₂⟩:=ih m' hlt a₁ w₁ hI₁
    exact⟨e₂,a₂,w₂,hq₂,.of_steps (Steps.trans harr (.one step_inLoop)) harr₂⟩
   | exit id=>exact⟨_,a₁,w₁,hq,.pass (x:= .inLoop c) rfl (fun _ _=> .inl (by simp)) harr⟩
   | goto l=>exact⟨_,a₁,w₁,hq,.pass (x:= .inLoop c) rfl (fun _ _=> .inl (by simp)) harr⟩
   | ret=>exact⟨_,a₁,w₁,hq,.pass (x:= .inLoop c) rfl (fun _ _=> .inl (by simp)) harr⟩
   | panic ch=>exact⟨_,a₁,w₁,hq,.pass (x:= .inLoop c) rfl (fun _ _=> .inl (by simp)) harr⟩
   | outgrown=>exact⟨_,a₁,w₁,hq,.pass (x:= .inLoop c) rfl (fun _ _=> .inl (by simp)) harr⟩
 obtain⟨m,hm⟩:=h₀
 obtain⟨e,a',w',hq,harr⟩:=key m a w hm
 exact⟨e,a',w',hq,.of_steps (.one step_loop) harr⟩
theorem P5:∀{cs:List CTy} {vs:List TV} {I:Fun cs (St->Prop)} {M:Fun cs (St->Nat)} {B:List TV->Nat->St->Prop} {st:St},AllC cs I M B->Ko cs vs I (fun p=>p st)->∃m,B vs m st
 | [],[],I,M,B,st,h,hd=>⟨_,h st hd⟩
 | [],_::_,I,M,B,st,h,hd=>hd.elim
 | _::_,[],I,M,B,st,h,hd=>hd.elim
 | c::cs,v::vs,I,M,B,st,h,hd=>by
  obtain⟨y,rfl,hd2⟩:=Ec hd
  exact P5 (B:=fun l=>B (enc c y::l)) (h y) hd2
theorem RR:∀{cs:List CTy} {vs:List TV} {I:Fun cs (St->Prop)} {M:Fun cs (St->Nat)} {B:List TV->Nat->St->Prop} {st:St} {m:Nat},AllC cs I M B->UY cs vs I M (fun p q=>p st/\q st<m)->∃m',m'<m/\B vs m' st
 | [],[],I,M,B,st,m,h,hd=>⟨_,hd.2,h st hd.1⟩
 | [],_::_,I,M,B,st,m,h,hd=>hd.elim
 | _::_,[],I,M,B,st,m,h,hd=>hd.elim
 | c::cs,v::vs,I,M,B,st,m,h,hd=>by
  obtain⟨y,rfl,hd2⟩:=Ec hd
  exact RR (B:=fun l=>B (enc c y::l)) (h y) hd2
theorem Nv:∀{cs:List CTy} {vs:List TV} {I:Fun cs (St->Prop)} {B:List TV->St->Prop} {st:St},AllC1 cs I B->Ko cs vs I (fun p=>p st)->B vs st
 | [],[],I,B,st,h,hd=>h st hd
 | [],_::_,I,B,st,h,hd=>hd.elim
 | _::_,[],I,B,st,h,hd=>hd.elim
 | c::cs,v::vs,I,B,st,h,hd=>by
  obtain⟨y,rfl,hd2⟩:=Ec hd
  exact Nv (B:=fun l=>B (enc c y::l)) (h y) hd2
def QPost (g:Ghost) (w:World) (a0:Act) (Q:Exit->Fr->St->Prop) (e:Exit) (a:Act) (w':World):Prop:=Kq g w a0 (Q e) a w'
section
variable {P:Program} {cfg:Cfg} {ns nl:Nat}
theorem Zl (hm:P.follows .mixedOrders=true):∀(c:Code) (h:JC) (Q:Exit->Fr->St->Prop) (fr:Fr) (st:St) (g:Ghost) (w:World) (a:Act),cwp cfg P ns nl c h Q fr st->Sim g st fr.loc w->Gn g w fr a.tmps->a.tmps.size=ns->
  c.wp P (QPost g w a Q) a w:=by
 intro c
 induction c with
 | skip=>intro h Q fr st g w a hc s hf hn;exact wp_skip ⟨fr,st,g,hc,s,hf,Ext.refl _ _,rfl,rfl⟩
 | region id ops draw=>
  intro h Q fr st g w a hc s hf hn
  cases draw with
  | false=>exact wp_region_list (Na ops.toList fr st g w a hc s hf fun a' w' hp=>hp)
  | true=>exact SO hm hc s hf fun a' w' hp=>hp
 | seq x y ihx ihy=>
  intro h Q fr st g w a hc s hf hn
  have key:∀(hx hy:JC),cwp cfg P ns nl x hx (TF (cwp cfg P ns nl y hy Q) Q) fr st->(Code.seq x y).wp P (QPost g w a Q) a w:=by
   intro hx hy hcx
   refine wp_seq (wp_mono (ihx hx _ fr st g w a hcx s hf hn) fun e a' w' hq=>?_)
   obtain⟨fr',st',g',h1,h2,h3,h4,h5⟩:=hq
   cases e with
   | normal=>
    refine wp_mono (ihy hy Q fr' st' g' w' a' h1 h2 h3 (h5.2.trans hn)) fun e a'' w'' hq2=>?_
    exact hq2.ext h4 h5
   | _=>exact⟨fr',st',g',h1,h2,h3,h4,h5⟩
  cases h with
  | cut k hx hy=>
   obtain⟨R,h1,h2⟩:=hc
   refine wp_seq (wp_mono (ihx hx _ fr st g w a h1 s hf hn) fun e a' w' hq=>?_)
   obtain⟨fr',st',g',q1,q2,q3,q4,q5⟩:=hq
   cases e with
   | normal=>
    have q1':need (k.ok nl fr') (Ko k.tys (k.vals fr') R fun p=>p st'):=q1
    rw[At]at q1'
    obtain⟨w1,w2⟩:=Fo.weak (ns:=ns) q1'.1 q2 q3 (q5.2.trans hn)
    have hb:=Nv h2 q1'.2
    exact wp_mono (ihy hy Q _ st' g' w' a' hb w1 w2 (q5.2.trans hn)) fun e a'' w'' hq2=>hq2.ext q4 q5
   | _=>exact⟨fr',st',g',q1,q2,q3,q4,q5⟩
  | none=>exact key _ _ hc
  | seq p q=>exact key _ _ hc
  | cond p q=>exact key _ _ hc
  | block p=>exact key _ _ hc
  | loop k p=>exact key _ _ hc
 | cond c x y ihx ihy=>
  intro h Q fr st g w a hc s hf hn
  simp only[cwp]at hc
  split at hc
  ·rename_i b hb
   have hr:=So hf c
   rw[hb]at hr
   have hr':Rel g w (.bool b) (a.eval c):=hr
   have hev:a.eval c= .bool b:=by generalize a.eval c=q at hr';cases hr';rfl
   cases b with
   | true=>exact wp_cond_true hev (ihx h.l Q fr st g w a hc s hf hn)
   | false=>exact wp_cond_false hev (ihy h.r Q fr st g w a hc s hf hn)
  ·exact hc.elim
 | block id x ih=>
  intro h Q fr st g w a hc s hf hn
  refine wp_block (wp_mono (ih h.l (W3 id Q) fr st g w a hc s hf hn) fun e a' w' hq=>?_)
  obtain⟨fr',st',g',h1,h2,h3,h4,h5⟩:=hq
  cases e with
  | exit id'=>
   simp only[W3]at h1
   by_cases hid:id'=id
   ·subst hid
    have hbe:(id'.beq id')=true:=Nat.beq_refl id'
    simp only[hbe]at h1
    simp only[Exit.inBlock,if_true]
    exact⟨fr',st',g',h1,h2,h3,h4,h5⟩
   ·have hbe:(id'.beq id)=false:=by
     cases hq:id'.beq id with
     | false=>rfl
     | true=>exact absurd (Nat.eq_of_beq_eq_true hq) hid
    simp only[hbe]at h1
    simp only[Exit.inBlock,hid,if_false]
    exact⟨fr',st',g',h1,h2,h3,h4,h5⟩
  | _=>exact⟨fr',st',g',h1,h2,h3,h4,h5⟩
 | loop x ih=>
  intro h Q fr st g w a hc s hf hn
  cases h with
  | loop k hx=>
   obtain⟨I,M,h1,h2⟩:=hc
   rw[At]at h1
   refine To (fun m a' w'=>∃vals st' g',cwp cfg P ns nl x hx (TF (fun fr st=>need (k.ok nl fr) (UY k.tys (k.vals fr) I M fun p q=>p st/\q st<m)) Q) (k.frame ns nl vals) st'/\
    Sim g' st' (k.frame ns nl vals).loc w'/\Gn g' w' (k.frame ns nl vals) a'.tmps/\Ext g w g' w'/\a'.defers=a.defers/\a'.tmps.size=a.tmps.size) ?_ ?_
   ·obtain⟨m,hm⟩:=P5 h2 h1.2
    obtain⟨w1,w2⟩:=Fo.weak (ns:=ns) h1.1 s hf hn
    exact⟨m,_,st,g,hm,w1,w2,Ext.refl _ _,rfl,rfl⟩
   ·rintro m a' w' ⟨vals,st',g',q1,q2,q3,q4,q5⟩
    refine wp_mono (ih hx _ _ st' g' w' a' q1 q2 q3 (q5.2.trans hn)) fun e a'' w'' hq=>?_
    obtain⟨fr2,st2,g2,r1,r2,r3,r4,r5⟩:=hq
    cases e with
    | normal=>
     have r1':need (k.ok nl fr2) (UY k.tys (k.vals fr2) I M fun p q=>p st2/\q st2<m):=r1
     rw[At]at r1'
     obtain⟨m',hlt,hB⟩:=RR h2 r1'.2
     obtain⟨w1,w2⟩:=Fo.weak (ns:=ns) r1'.1 r2 r3 (r5.2.trans (q5.2.trans hn))
     exact⟨m',hlt,_,st2,g2,hB,w1,w2,q4.trans r4,r5.1.trans q5.1,r5.2.trans q5.2⟩
    | _=>exact⟨fr2,st2,g2,r1,r2,r3,q4.trans r4,r5.1.trans q5.1,r5.2.trans q5.2⟩
  | _=>exact hc.elim
 | exit id=>intro h Q fr st g w a hc s hf hn;exact wp_exit ⟨fr,st,g,hc,s,hf,Ext.refl _ _,rfl,rfl⟩
 | ret=>intro h Q fr st g w a hc s hf hn;exact wp_ret ⟨fr,st,g,hc,s,hf,Ext.refl _ _,rfl,rfl⟩
 | _=>intro h Q fr st g w a hc s hf hn;exact hc.elim
def Mr (P:Program) (fr:Fr) (st:St):ResultVar->Option TV
 | .tmp t=>some (Mk fr t)
 | .cell a t=>match KR P t with
  | some true=>match P.cellsOf t with
   | 0=>none
   | n=>(Ah st fr.loc (fr.slots.f a) 0 n).map .agg
  | some false=>Ad st fr.loc (fr.slots.f a) 0
  | none=>none
def Jk (P:Program) (fr:Fr) (st:St):List ResultVar->Option (List TV)
 | []=>some []
 | r::rs=>match Mr P fr st r with
  | some v=>(Jk P fr st rs).map (v::·)
  | none=>none
def VF:List TV->TV
 | [v]=>v
 | vs=> .tuple vs
def resT (P:Program) (fn:Func) (fr:Fr) (st:St):Option TV:=(Jk P fr st fn.results.toList).map VF
def Su (P:Program) (fr:Fr) (st:St) (r:ResultVar) (k:TV->Prop):Prop:=
 match r with
 | .tmp t=>k (Mk fr t)
 | .cell a t=>match KR P t with
  | some true=>match P.cellsOf t with
   | 0=>False
   | n=>Ae ((Ah st fr.loc (fr.slots.f a) 0 n).map .agg) k
  | some false=>Ae (Ad st fr.loc (fr.slots.f a) 0) k
  | none=>False
def Lq (P:Program) (fr:Fr) (st:St):List ResultVar->(List TV->Prop)->Prop
 | [],k=>k []
 | r::rs,k=>Su P fr st r fun v=>Lq P fr st rs fun vs=>k (v::vs)
theorem QA {P:Program} {fr:Fr} {st:St} {r:ResultVar} {k:TV->Prop} (h:Su P fr st r k):∃v,Mr P fr st r=some v/\k v:=by
 cases r with
 | tmp t=>exact⟨_,rfl,h⟩
 | cell a t=>
  unfold Su at h
  unfold Mr
  simp only at h⊢
  cases ha:KR P t with
  | none=>rw[ha]at h;exact h.elim
  | some b=>
   rw[ha]at h
   cases b with
   | true=>
    simp only at h⊢
    cases hn:P.cellsOf t with
    | zero=>rw[hn]at h;exact h.elim
    | succ n=>
     rw[hn]at h
     exact DT.1 h
   | false=>exact DT.1 h
theorem Kd {P:Program} {fr:Fr} {st:St}:∀{rs:List ResultVar} {k:List TV->Prop},Lq P fr st rs k->∃vs,Jk P fr st rs=some vs/\k vs
 | [],k,h=>⟨[],rfl,h⟩
 | r::rs,k,h=>by
  obtain⟨v,h1,h2⟩:=QA h
  obtain⟨vs,h3,h4⟩:=Kd h2
  exact⟨v::vs,by simp[Jk,h1,h3],h4⟩
def retQ (P:Program) (fn:Func) (R:TV->St->Prop):Exit->Fr->St->Prop
 | .normal,fr,st=>Lq P fr st fn.results.toList fun vs=>R (VF vs) st
 | .ret,fr,st=>Lq P fr st fn.results.toList fun vs=>R (VF vs) st
 | _,_,_=>False
def Ig (cfg:Cfg) (fn:Func) (args:List TV):Fr:=⟨⟨fn.ntmps,fun i=>match args[i]? with | some v=> .t v | none=> .t .undef⟩,cfg.loc.map fun _=>none⟩
theorem Sr {g:Ghost} {st:St} {w:World} {fr:Fr} {tmps:Array Value} (s:Sim g st fr.loc w) (hf:Gn g w fr tmps) {r:ResultVar} {v:TV} (h:Mr P fr st r=some v):
  ∃u,(match r with | .tmp t=>pure (tmps.getD t Go.undef) | .cell a t=>do loadVar t (<-asAddr (tmps.getD a Go.undef)):Sem Value).run P w= .ok u w/\Rel g w v u:=by
 cases r with
 | tmp t=>
  simp only[Mr,Option.some.injEq]at h
  subst h
  exact⟨_,rfl,(hf.2 t).tv⟩
 | cell a t=>
  simp only[Mr]at h
  have hld:∀p,BE g w fr.loc p (tmps.getD a Go.undef)->(Et P st fr.loc t p).Is (.t v)->∃u,(do loadVar t (<-asAddr (tmps.getD a Go.undef)):Sem Value).run P w= .ok u w/\Rel g w v u:=by
   intro p hp hl
   have hl':=hl
   obtain⟨u,hu,hr⟩:=Pl (P:=P) s hp hl'
   have hsa:(Instr.loadAt t (tmps.getD a Go.undef)).run P w=(do loadVar t (<-asAddr (tmps.getD a Go.undef)):Sem Value).run P w:=by
    generalize hq:tmps.getD a Go.undef=q at hp hu
    simp only[Instr.loadAt,Sem.run_bind]
    cases q with
    | pointer o=>cases o with
     | none=>simp[Instr.loadAt,Instr.sureAddr]at hu
     | some ad=>simp[Instr.sureAddr,asAddr]
    | _=>simp[Instr.loadAt,Instr.sureAddr]at hu
   exact⟨u,by rw[<-hsa];exact hu,hr⟩
  split at h
  ·rename_i ha
   split at h
   ·cases h
   ·rename_i n hn
    refine hld _ (hf.2 a) ?_
    unfold Et
    rw[ha]
    exact⟨v,by
     split
     ·rename_i h0;exact absurd h0 hn
     ·exact h,rfl⟩
  ·rename_i ha
   refine hld _ (hf.2 a) ?_
   unfold Et
   rw[ha]
   exact⟨v,h,rfl⟩
  ·cases h
theorem Lp {g:Ghost} {st:St} {w:World} {fr:Fr} {tmps:Array Value} (s:Sim g st fr.loc w) (hf:Gn g w fr tmps):∀{rs:List ResultVar} {vs:List TV},Jk P fr st rs=some vs->
  ∃us:List Value,(rs.mapM (fun r=>match r with | .tmp t=>pure (tmps.getD t Go.undef) | .cell a t=>do loadVar t (<-asAddr (tmps.getD a Go.undef))):Sem (List Value)).run P w= .ok us w/\AV g w vs us
 | [],vs,h=>by simp only[Jk,Option.some.injEq]at h;subst h;exact⟨[],rfl,.nil _ _⟩
 | r::rs,vs,h=>by
  simp only[Jk]at h
  split at h
  ·rename_i v hv
   obtain⟨vs',hvs',rfl⟩:=Option.map_eq_some_iff.1 h
   obtain⟨u,hu,hr⟩:=Sr s hf hv
   obtain⟨us,hus,hrs⟩:=Lp s hf hvs'
   refine⟨u::us,?_,.cons hr hrs⟩
   rw[List.mapM_cons]
   simp only[Sem.run_bind,hu,Result.andThen_ok,hus,Sem.run_pure]
  ·cases h
theorem VY {g:Ghost} {st:St} {w:World} {fr:Fr} {tmps:Array Value} (s:Sim g st fr.loc w) (hf:Gn g w fr tmps) {fn:Func} {v:TV} (h:resT P fn fr st=some v):∃u,(results fn tmps).run P w= .ok u w/\Rel g w v u:=by
 unfold resT at h
 cases hr:Jk P fr st fn.results.toList with
 | none=>rw[hr]at h;cases h
 | some vs=>
  rw[hr]at h
  obtain⟨us,hus,hrel⟩:=Lp s hf hr
  have hrun:(fn.results.mapM (fun r=>match r with | .tmp t=>pure (tmps.getD t Go.undef) | .cell a t=>do loadVar t (<-asAddr (tmps.getD a Go.undef))):Sem (Array Value)).run P w= .ok us.toArray w:=by
   rw[<-Array.toArray_toList (xs:=fn.results),List.mapM_toArray]
   simp only[Sem.run_map,hus,Result.andThen_ok]
  refine⟨if h:us.toArray.size=1 then us.toArray[0]else .tuple us.toArray,?_,?_⟩
  ·have hres:results fn tmps=(do
     let vs<-(fn.results.mapM (fun r=>match r with | .tmp t=>pure (tmps.getD t Go.undef) | .cell a t=>do loadVar t (<-asAddr (tmps.getD a Go.undef))):Sem (Array Value))
     pure (if h:vs.size=1 then vs[0]else .tuple vs)):=rfl
   rw[hres,Sem.run_bind,hrun]
   rfl
  ·cases vs with
   | nil=>
    simp only[Option.map_some,Option.some.injEq,VF]at h;subst h
    have:us=[]:=List.eq_nil_of_length_eq_zero hrel.1.symm
    subst this
    exact Rel.tuple [] [] rfl (fun i hi=>absurd hi (Nat.not_lt_zero _))
   | cons v1 vs1=>cases vs1 with
    | nil=>
     simp only[Option.map_some,Option.some.injEq,VF]at h;subst h
     cases us with
     | nil=>have:=hrel.1;simp at this
     | cons u1 us1=>
      have:us1=[]:=List.eq_nil_of_length_eq_zero (by have:=hrel.1;simpa using this.symm)
      subst this
      simpa using hrel.2 0 (by simp)
    | cons v2 vs2=>
     simp only[Option.map_some,Option.some.injEq,VF]at h;subst h
     have hl:us.toArray.size≠1:=by have:=hrel.1;simp at this⊢;omega
     rw[dif_neg hl]
     exact Rel.tuple _ us hrel.1 hrel.2
theorem Yt (hm:P.follows .mixedOrders=true) {f:FuncId} {fn:Func} {c:Code} (hcall:∀(vs:Array Value) (w:World),(callFunc f vs).run P w= .ok (.enter f vs) w) (hf:P.funcs[f]? =some fn) (hb:fn.body=some c)
  (cfg:Cfg) (h:JC) {args:List TV} {st:St} {R:TV->St->Prop} (hn:args.length<=fn.ntmps)
  (hc:cwp cfg P fn.ntmps cfg.loc.length c h (retQ P fn R) (Ig cfg fn args) st):FD P f args st R:=by
 refine CI hcall fun g w vargs s hr=>?_
 refine calls_of_wp hf hb ?_
 have hlen:vargs.length=args.length:=hr.1.symm
 have hsize:(vargs.toArray++Array.replicate (fn.ntmps-vargs.toArray.size) Go.undef).size=fn.ntmps:=by simp;omega
 have hsim:Sim g st (Ig cfg fn args).loc w:=s.weakLoc fun j x' hx'=>by
  simp only[Ig,List.getElem?_map]at hx'
  cases hq:cfg.loc[j]? with
  | none=>rw[hq]at hx';cases hx'
  | some q=>rw[hq]at hx';simp at hx'
 have hfr:Gn g w (Ig cfg fn args) (vargs.toArray++Array.replicate (fn.ntmps-vargs.toArray.size) Go.undef):=by
  refine⟨by rw[hsize];rfl,fun i=>?_⟩
  by_cases hia:i<args.length
  ·have h1:(Ig cfg fn args).slots.f i= .t args[i]:=by simp[Ig,hia]
   have h2:(vargs.toArray++Array.replicate (fn.ntmps-vargs.toArray.size) Go.undef).getD i Go.undef=vargs.getD i Go.undef:=by
    have:i<vargs.length:=by omega
    have hin:i<fn.ntmps:=by omega
    simp[Array.getD,Array.getElem_append,this,hin,List.getD_eq_getElem?_getD]
    omega
   rw[h1,h2]
   exact hr.2 i hia
  ·have h1:(Ig cfg fn args).slots.f i= .t .undef:=by simp[Ig,hia]
   have h2:(vargs.toArray++Array.replicate (fn.ntmps-vargs.toArray.size) Go.undef).getD i Go.undef=Go.undef:=by
    have:¬i<vargs.length:=by omega
    simp[Array.getD,Array.getElem_append,this]
   rw[h1,h2]
   exact Rel.undef
 refine wp_mono (Zl hm c h _ _ st g w {tmps:=vargs.toArray++Array.replicate (fn.ntmps-vargs.toArray.size) Go.undef,defers:=[]} hc hsim hfr hsize) fun e a' w' hq=>?_
 obtain⟨fr',st',g',h1,h2,h3,h4,h5,h6⟩:=hq
 have fin:Lq P fr' st' fn.results.toList (fun vs=>R (VF vs) st')->a'.defers=[]/\∃v,(results fn a'.tmps).run P w'= .ok v w'/\∃v',Ending.returned v= .returned v'/\∃r st' g',R r st'/\Sim g' st' [] w'/\Rel g' w' r v'/\Ext g w g' w':=by
  intro ho
  obtain⟨vs,hvs,hR⟩:=Kd ho
  obtain⟨u,hu,hrel⟩:=VY (fn:=fn) h2 h3 (by unfold resT;rw[hvs];rfl)
  exact⟨h5,u,hu,u,rfl,_,st',g',hR,h2.dropLoc (fun j x hx=>by simp at hx),hrel,h4⟩
 cases e with
 | normal=>exact fin h1
 | ret=>exact fin h1
 | _=>exact h1.elim
def St.zero:St:={nb:=0,box:=fun _=> .dead,nt:=0,live:=fun _=>false,ty:=fun _=>none,bt:=fun _=>none}
def Ghost.start (w:World):Ghost:={base:=w.heap.size,w0:=w,nb:=0,bk:=fun _=>0,lam:=fun _=>0,nt:=0,sp:=fun _=>none,S:=fun a=>a.spot=none/\∃v,w.cell? a=some v,prot:=fun _=>False}
theorem Sim.start (w:World) (hG:∀w',Below w.heap.size w w'->GlobOK w'):Sim (Ghost.start w) St.zero [] w:=by
 have hd:∀k,¬Dom St.zero [] k:=by
  intro k d
  cases k with
  | box i=>exact absurd d (Nat.not_lt_zero _)
  | loc i=>obtain⟨x,hx⟩:=d;simp at hx
 exact⟨rfl,rfl,Below.refl _ _,Nat.le_refl _,fun k d=>absurd d (hd k),fun k k' d=>absurd d (hd k),fun k d=>absurd d (hd k),fun id h=>absurd h (Nat.not_lt_zero _),
  fun id b l h hh=>(by cases hh),fun i j b l h l' h' _ hh=>(by cases hh),fun id _=>rfl,fun a ha=>⟨ha.1,ha.2,fun k d=>absurd d (hd k),fun id l h hh=>(by cases hh)⟩,fun b hb=>hb.elim,fun id b l h hh=>(by cases hh),fun id b l h T hh=>(by cases hh),fun b T hb=>absurd hb (Nat.not_lt_zero _),hG⟩
theorem WW {f:FuncId} {args:List TV} (hcall:∀(vs:Array Value) (w:World),(callFunc f vs).run P w= .ok (.enter f vs) w) (h:FD P f args St.zero fun r _=>r= .bool true) (w:World) (hG:∀w',Below w.heap.size w w'->GlobOK w') (vargs:List Value) (hr:AV (Ghost.start w) w args vargs):
  Calls P f vargs.toArray w fun e w'=>e= .returned (.bool true)/\Below w.heap.size w w':=by
 have h1:=h.run (Ghost.start w) w vargs (Sim.start w hG) hr
 unfold Dl at h1
 rw[hcall]at h1
 refine Calls.mono h1 ?_
 rintro e w' ⟨v,rfl,r,st',g',rfl,s',hrel,e'⟩
 have hb:=s'.below
 rw[e'.base,e'.w0]at hb
 cases hrel
 exact⟨rfl,hb⟩
end
def W0 (fn:Func):Code:=match fn.body with | some c=>c | none=> .skip
def Fw (cfg:Cfg) (P:Program) (h:JC) (fn:Func) (args:List TV) (st:St) (R:TV->St->Prop):Prop:=
 cwp cfg P fn.ntmps cfg.loc.length (W0 fn) h (retQ P fn R) (Ig cfg fn args) st
def fits (fn:Func) (args:List TV):Bool:=(fn.body.isSome).and (args.length.ble fn.ntmps)
theorem Ag {P:Program} (hm:P.follows .mixedOrders=true) {f:FuncId} {fn:Func} (hcall:∀(vs:Array Value) (w:World),(callFunc f vs).run P w= .ok (.enter f vs) w) (hf:P.funcs[f]? =some fn)
  {cfg:Cfg} {h:JC} {args:List TV} {st:St} {R:TV->St->Prop} (hn:fits fn args=true) {V:Prop} (he:Fw cfg P h fn args st R=V) (hV:V):FD P f args st R:=by
 simp only[fits,Bool.and_eq_true]at hn
 obtain⟨c,hc⟩:=Option.isSome_iff_exists.1 hn.1
 have hb:fn.body=some (W0 fn):=by rw[W0,hc]
 rw[<-he]at hV
 exact Yt hm hcall hf hb cfg h (Nat.le_of_ble_eq_true hn.2) hV
def AM (cs:List CTy) (v:TV) (f:Fun cs Prop):Prop:=
 match v with
 | .agg l=>decL cs l f
 | _=>False
def stB (st:St) (p:TV) (xs:List TV) (k:St->Prop):Prop:=
 match p with
 | .box b off=>∃l,st.box b= .cells l/\off+xs.length<=l.length/\k (st.put b (.cells (setAll l off xs)))
 | _=>False
theorem Aa {p:Prop} [Decidable p] {x y:Prop} (h1:p->x) (h2:¬p->y):BIf (decide p) x y:=by
 by_cases h:p
 ·simp only[h,decide_true,BIf];exact h1 h
 ·simp only[h,decide_false,BIf];exact h2 h
theorem Aq {b:Bool} {x y:Prop} (h1:b=true->x) (h2:b=false->y):BIf b x y:=by
 cases b
 ·exact h2 rfl
 ·exact h1 rfl
end Go.TVF
end
section
namespace Go.TVF
open Go.IntKind(i64 u8)
structure Ak (a b:St):Prop where
 nb:a.nb<=b.nb
 box:∀i,i<a.nb->b.box i=a.box i
 nt:a.nt<=b.nt
 live:∀i,i<a.nt->b.live i=a.live i
 ty:∀i,i<a.nt->b.ty i=a.ty i
 bt:∀i,i<a.nb->b.bt i=a.bt i
theorem Ak.refl (a:St):Ak a a:=⟨Nat.le_refl _,fun _ _=>rfl,Nat.le_refl _,fun _ _=>rfl,fun _ _=>rfl,fun _ _=>rfl⟩
theorem Ak.trans {a b c:St} (h:Ak a b) (k:Ak b c):Ak a c:=
 ⟨Nat.le_trans h.nb k.nb,fun i hi=>(k.box i (Nat.lt_of_lt_of_le hi h.nb)).trans (h.box i hi),Nat.le_trans h.nt k.nt,fun i hi=>(k.live i (Nat.lt_of_lt_of_le hi h.nt)).trans (h.live i hi),fun i hi=>(k.ty i (Nat.lt_of_lt_of_le hi h.nt)).trans (h.ty i hi),fun i hi=>(k.bt i (Nat.lt_of_lt_of_le hi h.nb)).trans (h.bt i hi)⟩
theorem Ak.fresh {a b:St} (h:Ak a b) (T:Option Nat):Ak a (b.fresh T):=
 h.trans ⟨Nat.le_refl _,fun _ _=>rfl,Nat.le_succ _,fun i hi=>by simp only[St.fresh];rw[if_neg (by omega)],fun i hi=>by simp only[St.fresh];rw[if_neg (by omega)],fun _ _=>rfl⟩
theorem Ak.push {a b:St} (h:Ak a b) (o:J6) (T:Option Nat):Ak a (b.push o T):=
 h.trans ⟨Nat.le_succ _,fun i hi=>by simp only[St.push];rw[if_neg (by omega)],Nat.le_refl _,fun _ _=>rfl,fun _ _=>rfl,fun i hi=>by simp only[St.push];rw[if_neg (by omega)]⟩
theorem Ak.retire {a b:St} (h:Ak a b) {id:Nat} (hid:a.nt<=id):Ak a (b.retire id):=
 ⟨h.nb,h.box,h.nt,fun i hi=>by simp only[St.retire];rw[if_neg (by omega)];exact h.live i hi,h.ty,h.bt⟩
theorem Ak.put {a b:St} (h:Ak a b) {i:Nat} (hi:a.nb<=i) (o:J6):Ak a (b.put i o):=
 ⟨h.nb,fun j hj=>by simp only[St.put];rw[if_neg (by omega)];exact h.box j hj,h.nt,h.live,h.ty,h.bt⟩
theorem DW (l:B8):(AD l).length=l.length:=by simp[AD]
theorem DC:∀l:B8,FV (AD l)=some l
 | []=>rfl
 | c::l=>by
  have:=DC l
  simp only[AD]at this
  simp[AD,FV,JA,W4,this]
theorem V8 (l:B8):(AD l).all As=true:=by simp[AD,JA,As]
theorem Fa (a b:B8):AD a++AD b=AD (a++b):=by simp[AD]
def Rd (sz:Nat) (v:TV) (n:Nat) (xs:List TV):Prop:=
 (v= .nilSlice/\n=0/\xs=[])∨∃tip,v= .list sz tip n xs
def Own (b sz:Nat) (st:St) (v:TV) (n:Nat) (xs:List TV):Prop:=
 (v= .nilSlice/\n=0/\xs=[])∨∃tip,v= .list sz tip n xs/\(tip= .full∨∃id,tip= .own id/\b<=id/\id<st.nt/\st.live id=true)
theorem Own.rd {b sz:Nat} {st:St} {v:TV} {n:Nat} {xs:List TV} (h:Own b sz st v n xs):Rd sz v n xs:=by
 rcases h with h | ⟨tip,h,_⟩
 ·exact .inl h
 ·exact .inr ⟨tip,h⟩
theorem Own.ext {b sz:Nat} {st st':St} {v:TV} {n:Nat} {xs:List TV} (h:Own b sz st v n xs) (e:Ak st st'):Own b sz st' v n xs:=by
 rcases h with h | ⟨tip,h,ht | ⟨id,h1,h2,h3,h4⟩⟩
 ·exact .inl h
 ·exact .inr ⟨tip,h,.inl ht⟩
 ·exact .inr ⟨tip,h,.inr ⟨id,h1,h2,Nat.lt_of_lt_of_le h3 e.nt,(e.live id h3).trans h4⟩⟩
theorem Own.nil (b sz:Nat) (st:St):Own b sz st .nilSlice 0 []:= .inl ⟨rfl,rfl,rfl⟩
theorem Own.full (b sz:Nat) (st:St) (n:Nat) (xs:List TV):Own b sz st (.list sz .full n xs) n xs:= .inr ⟨_,rfl,.inl rfl⟩
theorem Own.fresh {b sz:Nat} {st:St} {T:Option Nat} (n:Nat) (xs:List TV) (hb:b<=st.nt):Own b sz (st.fresh T) (.list sz (.own st.nt) n xs) n xs:=
 .inr ⟨_,rfl,.inr ⟨st.nt,rfl,hb,Nat.lt_succ_self _,by simp[St.fresh]⟩⟩
theorem Rd.isSl {sz:Nat} {v:TV} {n:Nat} {xs:List TV} (h:Rd sz v n xs):TVF.isSl v=true:=by
 rcases h with⟨rfl,_⟩ | ⟨tip,rfl⟩<;>rfl
theorem Rd.lenS {sz:Nat} {v:TV} {n:Nat} {xs:List TV} (h:Rd sz v n xs):TVF.lenS v=n:=by
 rcases h with⟨rfl,rfl,_⟩ | ⟨tip,rfl⟩<;>rfl
theorem Rd.lenZ {sz:Nat} {v:TV} {n:Nat} {xs:List TV} (h:Rd sz v n xs):TVF.lenZ sz v=n:=by
 rcases h with⟨rfl,rfl,_⟩ | ⟨tip,rfl⟩
 ·rfl
 ·simp[TVF.lenZ]
theorem Rd.one {sz:Nat} {v:TV} {n:Nat} {xs:List TV} (h:Rd sz v n xs):As v=true:=by
 rcases h with⟨rfl,rfl,_⟩ | ⟨tip,rfl⟩<;>rfl
theorem Rd.ld {sz:Nat} {v:TV} {n:Nat} {xs:List TV} (h:Rd sz v n xs) (st:St) (i j:Nat) (hi:i*sz+j<xs.length):Ad st [] (.t (ixT sz v i)) j=some xs[i*sz+j]:=by
 rcases h with⟨rfl,rfl,rfl⟩ | ⟨tip,rfl⟩
 ·simp at hi
 ·simp[Ad,ixT,hi]
theorem Rd.ldf {sz:Nat} {v:TV} {n:Nat} {xs:List TV} (h:Rd sz v n xs) (st:St) (i f:Nat) (hi:i*sz+f<xs.length):Ad st [] (.t (Ao (ixT sz v i) f)) 0=some xs[i*sz+f]:=by
 rcases h with⟨rfl,rfl,rfl⟩ | ⟨tip,rfl⟩
 ·simp at hi
 ·simp[Ad,ixT,Ao,hi]
theorem Xq (st:St) (l:B8):EW st 1 (.str l)=some (l.length,AD l):=rfl
theorem D2 {T b sz bytes:Nat} {st0 st:St} {v:TV} {n k:Nat} {xs ys:List TV} {K:TV->St->Prop} (e:Ak st0 st) (hb:b=st0.nt) (h:Own b sz st v n xs) (hby:(n+k)*bytes<=140737488355328) (hys:k=0->ys=[])
  (hK:∀v' st',Ak st0 st'->st'.box=st.box->Own b sz st' v' (n+k) (xs++ys)->K v' st'):BF T sz bytes v k ys st K:=by
 subst hb
 rcases h with⟨rfl,rfl,rfl⟩ | ⟨tip,rfl,ht⟩
 ·simp only[BF]
  cases k with
  | zero=>rw[hys rfl]at hK;exact hK _ _ e rfl (.nil _ _ _)
  | succ m=>
   simp only[At]
   refine⟨by simpa using hby,hK _ _ (e.fresh _) rfl ?_⟩
   simp only[List.nil_append,Nat.zero_add]
   exact Own.fresh _ _ e.nt
 ·simp only[BF,Nat.beq_refl]
  refine⟨hby,?_⟩
  rcases ht with rfl | ⟨id,rfl,h1,h2,h3⟩
  ·cases k with
   | zero=>rw[hys rfl]at hK;simp only[List.append_nil]at hK;exact hK _ _ e rfl (Own.full _ _ _ _ _)
   | succ m=>exact hK _ _ (e.fresh _) rfl (Own.fresh _ _ e.nt)
  ·exact⟨h3,hK _ _ ((e.retire h1).fresh _) rfl (Own.fresh (st:=st.retire id) _ _ e.nt)⟩
theorem Ab {b:Bool} {k:Prop} (h:b=true) (hk:k):need b k:=At.2 ⟨h,hk⟩
theorem Ac {α:Type} {o:Option α} {x:α} {k:α->Prop} (h:o=some x) (hk:k x):Ae o k:=by rw[h];exact hk
theorem Ai (x:Int) (h1: -9223372036854775808<=x) (h2:x<=9223372036854775807):IntKind.wrap .i64 x=x:=by
 unfold IntKind.wrap
 simp only[IntKind.signed,IntKind.bits]
 simp
 omega
theorem N8 (x:Int) (h1:0<=x) (h2:x<=255):IntKind.wrap .u8 x=x:=by
 unfold IntKind.wrap
 simp only[IntKind.signed,IntKind.bits]
 simp
 omega
end Go.TVF
end
section
namespace Go.TVF
open Go.IntKind(i64 u8)
open Go.RowKit (Below)
theorem bool_ret {r:TV} {st':St} (h:Hg [.one .bool] r (fun (b:Bool) (_:St)=>b=true) (fun p=>p st')):r= .bool true:=by
 cases r<;>simp only[Hg,Gj,Af]at h<;>first | exact h.elim | skip
 subst h;rfl
theorem calls_law {P:Program} {f:FuncId} {args:List TV} (hcall:∀(vs:Array Value) (w:World),(callFunc f vs).run P w= .ok (.enter f vs) w) (h:CallT P f args [.one .bool] St.zero (fun r _=>r=true)) (w:World) (hG:∀w',Below w.heap.size w w'->GlobOK w') (vargs:List Value) (hr:AV (Ghost.start w) w args vargs):
  Calls P f vargs.toArray w fun e w'=>e= .returned (.bool true)/\Below w.heap.size w w':=
 WW hcall (FD.mono h fun r st' hd=>bool_ret hd) w hG vargs hr
theorem rel_string (g:Ghost) (w:World) (s:ByteArray):Rel g w (.str s.data.toList) (.string s):=by
 have:=Rel.str (g:=g) (w:=w) s.data.toList
 simpa using this
def flatIs:List CTy->List TV->Prop
 | [],xs=>xs=[]
 | .int k::cs,xs=>∃n ys,xs= .int k n::ys/\(Lit.int k n).wf=true/\flatIs cs ys
 | .str::cs,xs=>∃l ys,xs= .str l::ys/\l.length<=maxLen/\flatIs cs ys
 | .bool::cs,xs=>∃b ys,xs= .bool b::ys/\flatIs cs ys
 | .tv::_,_=>False
def Xd (P:Program):CTy->TypeId->Prop
 | .int k,t=>P.underlying t=some (.int k)
 | .bool,t=>P.underlying t=some .bool
 | .str,t=>P.underlying t=some .string
 | .tv,_=>False
def FieldsTy (P:Program):List CTy->List Field->Nat->Prop
 | [],[],_=>True
 | c::cs,f::fs,o=>f.offset=o/\P.cellsOf f.type=1/\Xd P c f.type/\FieldsTy P cs fs (o+1)
 | _,_,_=>False
section
variable {H:Type} {enc:TypeId×Value->H} {P:Program} {w:World} {base:Nat} {sp:Nat->Bool} {held:Bool}
theorem Q8 {c:CTy} {t:TypeId} {fuel:Nat} {cs:List Value} {x:DataW H×List MemPlace} (g:Ghost) (hc:Xd P c t) (h:DataW.trod enc P w base sp held fuel t cs=some x):
  ∃v u,cs=[u]/\Rel g w v u/\flatIs [c] [v]:=by
 cases c with
 | int k=>
  obtain⟨n,rfl,_,hw⟩:=DataW.trod_int hc h
  exact⟨_,_,rfl,.int k n,n,[],rfl,hw,rfl⟩
 | bool=>
  obtain⟨b,rfl,_⟩:=DataW.trod_bool hc h
  exact⟨_,_,rfl,.bool b,b,[],rfl,rfl⟩
 | str=>
  obtain⟨s,rfl,_,hs⟩:=DataW.trod_string hc h
  exact⟨_,_,rfl,rel_string g w s,_,[],rfl,by rw[Array.length_toList];exact hs,rfl⟩
 | tv=>exact hc.elim
theorem flatIs.cons {c:CTy} {cs:List CTy} {v:TV} {xs:List TV} (h:flatIs [c] [v]) (k:flatIs cs xs):flatIs (c::cs) (v::xs):=by
 cases c with
 | int _=>
  obtain⟨n,ys,h1,h2,_⟩:=h
  simp only[List.cons.injEq]at h1
  exact⟨n,xs,by rw[h1.1],h2,k⟩
 | bool=>
  obtain⟨b,ys,h1,_⟩:=h
  simp only[List.cons.injEq]at h1
  exact⟨b,xs,by rw[h1.1],k⟩
 | str=>
  obtain⟨l,ys,h1,h2,_⟩:=h
  simp only[List.cons.injEq]at h1
  exact⟨l,xs,by rw[h1.1],h2,k⟩
 | tv=>exact h.elim
theorem Nc {n:Nat} {vs:List Value} (g:Ghost):∀(cs:List CTy) (fs:List Field) (o:Nat) (xs:List (DataW H×List MemPlace)),FieldsTy P cs fs o->xs.length=fs.length->vs.length=o+cs.length->
  (∀(i:Nat) (f:Field),fs[i]? =some f->DataW.trod enc P w base sp held n f.type ((vs.drop f.offset).take (P.cellsOf f.type))=xs[i]?)->∃tv,AV g w tv (vs.drop o)/\flatIs cs tv
 | [],[],o,xs,_,_,hl,_=>⟨[],by rw[List.drop_of_length_le (by simp at hl;omega)];exact .nil _ _,rfl⟩
 | c::cs,f::fs,o,[],_,hx,_,_=>by simp at hx
 | c::cs,f::fs,o,x::xs,ht,hx,hl,hd=>by
  obtain⟨h1,h2,h3,h4⟩:=ht
  have hd0:=hd 0 f rfl
  rw[h1,h2]at hd0
  obtain⟨v,u,hu,hr,hf⟩:=Q8 g h3 hd0
  obtain⟨tv,hr',hf'⟩:=Nc (n:=n) (vs:=vs) g cs fs (o+1) xs h4 (by simpa using hx) (by simp at hl;omega) (fun i f' hi=>by simpa using hd (i+1) f' (by simpa using hi))
  refine⟨v::tv,?_,hf.cons hf'⟩
  have hlt:o<vs.length:=by simp at hl;omega
  rw[List.drop_eq_getElem_cons hlt]
  rw[List.drop_eq_getElem_cons hlt]at hu
  simp only[List.take_succ_cons,List.take_zero,List.cons.injEq]at hu
  rw[hu.1]
  exact .cons hr hr'
 | [],f::fs,o,xs,ht,_,_,_=>ht.elim
 | c::cs,[],o,xs,ht,_,_,_=>ht.elim
theorem W7 (b off i:Nat):(⟨b,off,none⟩:Addr).add i=⟨b,off+i,none⟩:=by
 unfold Addr.add;split
 ·rename_i h;subst h;rfl
 ·rfl
def Opens (enc:TypeId×Value->H) (P:Program) (w:World) (base:Nat) (sp:Nat->Bool) (held:Bool) (cs:List CTy) (e:TypeId):Prop:=
 ∀(g:Ghost) n vs x,DataW.trod enc P w base sp held n e vs=some x->∃tv,AV g w tv vs/\flatIs cs tv
theorem opens_struct {cs:List CTy} {e:TypeId} {fs:Array Field} (ht:P.underlying e=some (.struct fs)) (hf:FieldsTy P cs fs.toList 0) (hc:P.cellsOf e=cs.length):Opens enc P w base sp held cs e:=fun g n vs x hd=>by
 obtain⟨xs,m,rfl,_,hl,hx,hi⟩:=DataW.trod_struct ht hd
 have:=Nc (enc:=enc) (P:=P) (w:=w) (base:=base) (sp:=sp) (held:=held) (n:=m) (vs:=vs) g cs fs.toList 0 xs hf (by simpa using hx) (by omega) (fun i f h=>hi i f (by simpa using h))
 simpa using this
end
end Go.TVF
end
namespace Go.TVF
open Go.IntKind(i64 u8)
open Go Go.Proofs
theorem mixed:Tryz.prog.follows .mixedOrders=true:=by kernel_rfl
noncomputable def PR:Program:=Tryz.prog
abbrev V13(X:Type):=Int->Bool->Bool->B8->Int->Int->Int->Int->Int->B8->TV->TV->TV->X
abbrev sV:RTy:=.agg [.int .i64,.bool,.bool,.str,.int .i64,.int .i64,.int .i64,.int .i64,.int .i64,.str,.tv,.tv,.tv]
abbrev cV(a:Int)(b c:Bool)(d:B8)(e f g h i:Int)(j:B8)(k l m:TV):List TV:=[.int .i64 a,.bool b,.bool c,.str d,.int .i64 e,.int .i64 f,.int .i64 g,.int .i64 h,.int .i64 i,.str j,k,l,m]
abbrev BId(p:Prop)[Decidable p](a b:Prop):Prop:=BIf (decide p) a b
def fn_datakitlaw28_GridAgain:Nat:=14
def BC:Nat:=33
def In:Nat:=34
def CN:Nat:=37
def CM:Nat:=39
def Ha:Nat:=42
def G9:Nat:=49
def Ez:Nat:=53
def E6:Nat:=54
def EC:Nat:=55
def G7:Nat:=56
def G6:Nat:=57
def Ev:Nat:=58
def Gd:Nat:=60
def G3:Nat:=61
def Cc:Nat:=62
def Dd:Nat:=63
def B6:Nat:=69
def Gf:Nat:=70
def Dc:Nat:=86
def DG:Nat:=87
def C8:Nat:=93
def Kj:Nat:=94
def G4:Nat:=95
def CA:Nat:=96
def FQ:Nat:=97
def CY:Nat:=98
def E5:Nat:=99
def ES:Nat:=105
def Fy:Nat:=106
def Il:Nat:=114
def EZ:Nat:=117
def ER:Nat:=118
def CO:Nat:=119
def DX:Nat:=120
def GE:Nat:=121
def E8:Nat:=122
def A0:Nat:=123
def Dt:Nat:=124
def E3:Nat:=125
def EY:Nat:=126
def B2:Nat:=128
def E7:Nat:=133
def D5:Nat:=143
def Ey:Nat:=144
def Cz:Nat:=145
def AJ:Nat:=146
def A6:Nat:=156
def Dw:Nat:=157
def ET:Nat:=158
def DM:Nat:=159
def CZ:Nat:=160
def Db:Nat:=161
def FA:Nat:=162
def E9:Nat:=173
def C9:Nat:=174
def Ew:Nat:=179
def Gg:Nat:=182
def Im:Nat:=183
def BU:Nat:=185
def CW:Nat:=186
def Cg:Nat:=187
def Av:Nat:=188
def Aw:Nat:=189
def D3:Nat:=190
def BB:Nat:=191
def Al:Nat:=192
def AW:Nat:=193
def AT:Nat:=194
def Ik:Nat:=195
def Ax:Nat:=196
def Gc:Nat:=197
def DI:Nat:=198
def CX:Nat:=199
def G2:Nat:=200
def E0:Nat:=201
def Fx:Nat:=203
def Jr:Nat:=210
def G5:Nat:=211
def Ij:Nat:=212
def Ex:Nat:=221
def DH:Nat:=222
def BD:Nat:=223
def Br:Nat:=224
def Dv:Nat:=225
def DY:Nat:=235
def Fv:Nat:=236
def Fz:Nat:=241
def Bp:Nat:=242
def Cb:Nat:=243
def AE:Nat:=244
def BP:Nat:=245
def AY:Nat:=246
def BQ:Nat:=247
def FR:Nat:=252
def KL:Nat:=256
def BV:Nat:=257
def Hc:Nat:=258
def G8:Nat:=259
def AK:Nat:=260
def BI:Nat:=261
def AC:Nat:=262
def Df:Nat:=263
def Ge:Nat:=264
def Cm:Nat:=265
def A2:Nat:=266
def D4:Nat:=267
def Fu:Nat:=268
def Ii:Nat:=269
def A7:Nat:=270
def EB:Nat:=277
def EV:Nat:=278
def AP:Nat:=279
def Du:Nat:=289
def Ay:Nat:=290
def Cf:Nat:=291
def Dg:Nat:=292
def EU:Nat:=293
def A1:Nat:=297
def CP:Nat:=299
def FB:Nat:=300
def Hb:Nat:=301
def EA:Nat:=306
def GF:Nat:=307
def AQ:Nat:=317
def Aj:Nat:=318
def Bg:Nat:=329
def AI:Nat:=333
def Yy:B8:=[97,44,98,10,49,44,120,10,34,49,34,44,10]
def str10:B8:=[49]
def str11:B8:=[34,49,34]
def QX:B8:=[116,114,117,101]
def Z0:B8:=[102,97,108,115,101]
def Lg:B8:=[48]
def Fc:B8:=[45]
def J9:B8:=[46]
def Xo:B8:=[48,46]
def ZZ:B8:=[101]
def OH:B8:=[84]
def TL:B8:=[43]
def ZY:B8:=[101,45]
def DL:B8:=[58]
def str24:B8:=[90]
def str25:B8:=[84,116,32]
def str31:B8:=[90,122,43,45]
theorem Gq (src:B8) (d_0:Int) (d_1:Int) (d_2:Bool) (d_3:Bool) (st:St) (K:Bool->St->Prop) (h:BId ((1500:Int)<(src.length:Int)) (CallT PR BC [] [.one .bool] st (fun (b1:Bool) u=>K b1 u)) (CallT PR Ez [] [.agg [.int .i64,.int .i64,.int .i64,.int .i64,.int .i64]] st (fun (n1 n2 n3 n4 n5:Int) x=>CallT PR CM [.str src,(.agg [.int .u8 d_0,.int .u8 d_1,.bool d_2,.bool d_3]),(.agg [.int .i64 n1,.int .i64 n2,.int .i64 n3,.int .i64 n4,.int .i64 n5])] [sV,.one (.int .i64),.one (.int .i64)] x (fun (n6:Int) (b2 b3:Bool) (s1:B8) (n7 n8 n9 a b:Int) (s2:B8) (v1 v2 v3:TV) (c0 v:Int) i=>need (List.all (cV n6 b2 b3 s1 n7 n8 n9 a b s2 v1 v2 v3) As) (BId (v≠0) (CallT PR BC [] [.one .bool] i (fun (b4:Bool) y=>K b4 y)) (CallT PR G9 [(.agg (cV n6 b2 b3 s1 n7 n8 n9 a b s2 v1 v2 v3)),(.agg [.int .u8 d_0,.int .u8 d_1,.bool d_2,.bool d_3])] [.one .str,.one (.int .i64)] i (fun (s3:B8) (a3:Int) a4=>CallT PR CM [.str s3,(.agg [.int .u8 d_0,.int .u8 d_1,.bool d_2,.bool d_3]),(.agg [.int .i64 n1,.int .i64 n2,.int .i64 n3,.int .i64 n4,.int .i64 n5])] [sV,.one (.int .i64),.one (.int .i64)] a4 (fun (g:Int) (b5 b6:Bool) (s4:B8) (o s m k q:Int) (s5:B8) (v4 v5 v6:TV) (a9 w:Int) a7=>need (List.all (cV g b5 b6 s4 o s m k q s5 v4 v5 v6) As) (CallT PR Gd [(.agg (cV n6 b2 b3 s1 n7 n8 n9 a b s2 v1 v2 v3))] [.one (.int .i64)] a7 (fun (a6:Int) a2=>CallT PR G3 [(.agg (cV n6 b2 b3 s1 n7 n8 n9 a b s2 v1 v2 v3))] [.one (.int .i64)] a2 (fun (a0:Int) a5=>CallT PR CM [.str src,(.agg [.int .u8 d_0,.int .u8 d_1,.bool d_2,.bool d_3]),(.agg [.int .i64 a6,.int .i64 a0,(.int .i64 (max (1:Int) (src.length:Int))),.int .i64 0,.int .i64 0])] [sV,.one (.int .i64),.one (.int .i64)] a5 (fun (n:Int) (b7 b8:Bool) (s6:B8) (j r l f p:Int) (s7:B8) (v7 v8 v9:TV) (b0 a1:Int) d=>need (List.all (cV n b7 b8 s6 j r l f p s7 v7 v8 v9) As) (BId (a3=0) (BId (w=0) (CallT PR E6 [(.agg (cV n6 b2 b3 s1 n7 n8 n9 a b s2 v1 v2 v3)),(.agg (cV g b5 b6 s4 o s m k q s5 v4 v5 v6))] [.one .bool] d (fun (b9:Bool) c=>BIf b9 (BId (a1=0) (CallT PR E6 [(.agg (cV n6 b2 b3 s1 n7 n8 n9 a b s2 v1 v2 v3)),(.agg (cV n b7 b8 s6 j r l f p s7 v7 v8 v9))] [.one .bool] c (fun (a8:Bool) e=>BIf a8 (CallT PR BC [] [.one .bool] e (fun (z:Bool) t=>K z t)) (K false e))) (K false c)) (K false c))) (K false d)) (K false d)))))))))))))):CallT PR fn_datakitlaw28_GridAgain [.str src,(.agg [.int .u8 d_0,.int .u8 d_1,.bool d_2,.bool d_3])] [.one .bool] st K:=
 Ag (cfg:=⟨[3,5,6,11,14,15],[],[]⟩) (h:= .none) mixed (fun _ _=>Tryz.call14 _ _) Tryz.func14 (by kernel_rfl) (by kernel_rfl) h
theorem IQ (st:St) (K:Bool->St->Prop) (h:CallT PR Cc [] [.agg [.int .u8,.int .u8,.bool,.bool]] st (fun (n1 n2:Int) (b1 b2:Bool) i=>CallT PR Dc [] [.agg [.int .i64,.int .i64,.int .i64,.int .i64,.int .i64]] i (fun (n3 n4 n5 n6 n7:Int) n=>CallT PR CM [.str Yy,(.agg [.int .u8 n1,.int .u8 n2,.bool b1,.bool b2]),(.agg [.int .i64 n3,.int .i64 n4,.int .i64 n5,.int .i64 n6,.int .i64 n7])] [sV,.one (.int .i64),.one (.int .i64)] n (fun (n8:Int) (b3 b4:Bool) (s1:B8) (n9 j l e c:Int) (s2:B8) (v1 v2 v3:TV) (q o:Int) b=>need (List.all (cV n8 b3 b4 s1 n9 j l e c s2 v1 v2 v3) As) (CallT PR Cc [] [.agg [.int .u8,.int .u8,.bool,.bool]] b (fun (k p:Int) (b5 b6:Bool) f=>CallT PR In [(.agg (cV 4 false false [] 0 0 0 0 0 str10 .nilSlice .nilSlice .nilSlice)),(.agg [.int .u8 k,.int .u8 p,.bool b5,.bool b6])] [.one .str,.one (.int .i64)] f (fun (s3:B8) (d:Int) a=>BId (o=0) (need (isSl v2) (BId ((lenS v2:Int)=(2:Int)) (((0<=(1:Int)/\(1:Int)<(lenZ 13 v2:Int))/\need (isPtr (ixT 13 v2 (Int.toNat (1:Int)))) (Ae (Ad a [] (.t (Ao (ixT 13 v2 (Int.toNat (1:Int))) 12)) 0) (fun (v4:TV)=>need (isSl v4) (BId ((lenS v4:Int)=(2:Int)) (((0<=(1:Int)/\(1:Int)<(lenZ 13 v2:Int))/\need (isPtr (ixT 13 v2 (Int.toNat (1:Int)))) (Ae (Ad a [] (.t (Ao (ixT 13 v2 (Int.toNat (1:Int))) 12)) 0) (fun (v5:TV)=>((0<=(0:Int)/\(0:Int)<(lenZ 14 v5:Int))/\need (isPtr (ixT 14 v5 (Int.toNat (0:Int)))) (need (isPtr (Ao (ixT 14 v5 (Int.toNat (0:Int))) 1)) (Ae (Ad a [] (.t (Ao (Ao (ixT 14 v5 (Int.toNat (0:Int))) 1) 9)) 0) (fun (x3:TV)=>Af .str x3 (fun (s4:B8)=>BId (s4=str10) (((0<=(0:Int)/\(0:Int)<(lenZ 13 v2:Int))/\need (isPtr (ixT 13 v2 (Int.toNat (0:Int)))) (Ae (Ad a [] (.t (Ao (ixT 13 v2 (Int.toNat (0:Int))) 12)) 0) (fun (v6:TV)=>((0<=(0:Int)/\(0:Int)<(lenZ 14 v6:Int))/\need (isPtr (ixT 14 v6 (Int.toNat (0:Int)))) (need (isPtr (Ao (ixT 14 v6 (Int.toNat (0:Int))) 1)) (Ae (Ad a [] (.t (Ao (Ao (ixT 14 v6 (Int.toNat (0:Int))) 1) 0)) 0) (fun (x5:TV)=>Af (.int .i64) x5 (fun (m:Int)=>BId (m=2) (((0<=(1:Int)/\(1:Int)<(lenZ 13 v2:Int))/\need (isPtr (ixT 13 v2 (Int.toNat (1:Int)))) (Ae (Ad a [] (.t (Ao (ixT 13 v2 (Int.toNat (1:Int))) 12)) 0) (fun (v7:TV)=>((0<=(1:Int)/\(1:Int)<(lenZ 14 v7:Int))/\need (isPtr (ixT 14 v7 (Int.toNat (1:Int)))) (need (isPtr (Ao (ixT 14 v7 (Int.toNat (1:Int))) 1)) (Ae (Ad a [] (.t (Ao (Ao (ixT 14 v7 (Int.toNat (1:Int))) 1) 0)) 0) (fun (x7:TV)=>Af (.int .i64) x7 (fun (g:Int)=>BId (g=0) (BId (s3=str11) (K ((decide (d=0))) a) (K false a)) (K false a)))))))))) (K false a)))))))))) (K false a)))))))))) (K false a)))))) (K false a))) (K false a)))))))):CallT PR BC [] [.one .bool] st K:=
 Ag (cfg:=⟨[1],[],[]⟩) (h:= .none) mixed (fun _ _=>Tryz.call33 _ _) Tryz.func33 (by kernel_rfl) (by kernel_rfl) h
theorem R6 (v_0:Int) (v_1:Bool) (v_2:Bool) (v_3:B8) (v_4:Int) (v_5:Int) (v_6:Int) (v_7:Int) (v_8:Int) (v_9:B8) (v_10:TV) (v_11:TV) (v_12:TV) (d_0:Int) (d_1:Int) (d_2:Bool) (d_3:Bool) (st:St) (K:B8->Int->St->Prop) (h:CallT PR B6 [(.agg [.int .u8 d_0,.int .u8 d_1,.bool d_2,.bool d_3])] [.one .bool] st (fun (b1:Bool) b=>BIf (!b1) (K [] 1 b) (CallT PR Ev [(.agg (cV v_0 v_1 v_2 v_3 v_4 v_5 v_6 v_7 v_8 v_9 v_10 v_11 v_12))] [.one (.int .i64)] b (fun (n1:Int) a=>BId (n1≠0) (K [] n1 a) (CallT PR DG [(.agg (cV v_0 v_1 v_2 v_3 v_4 v_5 v_6 v_7 v_8 v_9 v_10 v_11 v_12)),(.agg [.int .u8 d_0,.int .u8 d_1,.bool d_2,.bool d_3])] [.one .str,.one (.int .i64)] a (fun (s1:B8) (n2:Int) c=>K s1 n2 c)))))):CallT PR In [(.agg (cV v_0 v_1 v_2 v_3 v_4 v_5 v_6 v_7 v_8 v_9 v_10 v_11 v_12)),(.agg [.int .u8 d_0,.int .u8 d_1,.bool d_2,.bool d_3])] [.one .str,.one (.int .i64)] st K:=
 Ag (cfg:=⟨[2,3],[],[]⟩) (h:= .none) mixed (fun _ _=>Tryz.call34 _ _) Tryz.func34 (by kernel_rfl) (by kernel_rfl) h
theorem R7 (s:B8) (quoted:Bool) (d_0:Int) (d_1:Int) (d_2:Bool) (d_3:Bool) (st:St) (K:V13 (St->Prop)) (h:BIf (!d_3) (CallT PR C8 [.str s] [sV] st (fun (n1:Int) (b1 b2:Bool) (s1:B8) (n2 n3 n4 n5 n6:Int) (s2:B8) (v1 v2 v3:TV) l0=>need (List.all (cV n1 b1 b2 s1 n2 n3 n4 n5 n6 s2 v1 v2 v3) As) (K n1 b1 b2 s1 n2 n3 n4 n5 n6 s2 v1 v2 v3 l0))) (BIf quoted (CallT PR C8 [.str s] [sV] st (fun (n7:Int) (b3 b4:Bool) (s3:B8) (n8 n9 h0 d6 y:Int) (s4:B8) (v4 v5 v6:TV) l9=>need (List.all (cV n7 b3 b4 s3 n8 n9 h0 d6 y s4 v4 v5 v6) As) (K n7 b3 b4 s3 n8 n9 h0 d6 y s4 v4 v5 v6 l9))) (BId (s=([]:B8)) (CallT PR Kj [] [sV] st (fun (e7:Int) (b5 b6:Bool) (s5:B8) (u e5 f5 e0 f3:Int) (s6:B8) (v7 v8 v9:TV) k2=>need (List.all (cV e7 b5 b6 s5 u e5 f5 e0 f3 s6 v7 v8 v9) As) (K e7 b5 b6 s5 u e5 f5 e0 f3 s6 v7 v8 v9 k2))) (BId (s=QX) (BId (s=QX) (CallT PR G4 [(.bool (decide (s=QX)))] [sV] st (fun (l:Int) (b7 b8:Bool) (s7:B8) (g0 i e8 g5 i9:Int) (s8:B8) (i0 x i4:TV) l3=>need (List.all (cV l b7 b8 s7 g0 i e8 g5 i9 s8 i0 x i4) As) (K l b7 b8 s7 g0 i e8 g5 i9 s8 i0 x i4 l3))) (CallT PR CA [.str s] [.agg [.bool,.str,.int .i64],.one (.int .i64)] st (fun (b9:Bool) (s9:B8) (m0 k3:Int) g1=>BId (k3=0) (CallT PR FQ [(.agg [.bool b9,.str s9,.int .i64 m0])] [sV] g1 (fun (g6:Int) (e1 d0:Bool) (i1:B8) (o e4 f6 f9 j0:Int) (i8:B8) (i6 e9 h5:TV) l7=>need (List.all (cV g6 e1 d0 i1 o e4 f6 f9 j0 i8 i6 e9 h5) As) (K g6 e1 d0 i1 o e4 f6 f9 j0 i8 i6 e9 h5 l7))) (CallT PR CY [.str s] [.agg [.int .i64,.int .i64,.int .i64,.int .i64],.one (.int .i64)] g1 (fun (l1 m4 l2 k8 l8:Int) r=>BId (l8=0) (CallT PR E5 [(.agg [.int .i64 l1,.int .i64 m4,.int .i64 l2,.int .i64 k8])] [sV] r (fun (a8:Int) (j3 c7:Bool) (h1:B8) (f2 c4 g8 e3 d:Int) (a7:B8) (g w f7:TV) m3=>need (List.all (cV a8 j3 c7 h1 f2 c4 g8 e3 d a7 g w f7) As) (K a8 j3 c7 h1 f2 c4 g8 e3 d a7 g w f7 m3))) (CallT PR C8 [.str s] [sV] r (fun (d7:Int) (g2 h6:Bool) (d4:B8) (c8 c6 m c1 p:Int) (a9:B8) (g9 a3 f0:TV) k7=>need (List.all (cV d7 g2 h6 d4 c8 c6 m c1 p a9 g9 a3 f0) As) (K d7 g2 h6 d4 c8 c6 m c1 p a9 g9 a3 f0 k7)))))))) (BId (s=Z0) (CallT PR G4 [(.bool (decide (s=QX)))] [sV] st (fun (d9:Int) (j4 i7:Bool) (d5:B8) (a1 e6 c c3 c5:Int) (q:B8) (k f8 d8:TV) j8=>need (List.all (cV d9 j4 i7 d5 a1 e6 c c3 c5 q k f8 d8) As) (K d9 j4 i7 d5 a1 e6 c c3 c5 q k f8 d8 j8))) (CallT PR CA [.str s] [.agg [.bool,.str,.int .i64],.one (.int .i64)] st (fun (m1:Bool) (l4:B8) (l5 k6:Int) a=>BId (k6=0) (CallT PR FQ [(.agg [.bool m1,.str l4,.int .i64 l5])] [sV] a (fun (d3:Int) (g3 f4:Bool) (c0:B8) (b0 a6 n j j7:Int) (h8:B8) (h7 h4 t:TV) j9=>need (List.all (cV d3 g3 f4 c0 b0 a6 n j j7 h8 h7 h4 t) As) (K d3 g3 f4 c0 b0 a6 n j j7 h8 h7 h4 t j9))) (CallT PR CY [.str s] [.agg [.int .i64,.int .i64,.int .i64,.int .i64],.one (.int .i64)] a (fun (k4 k5 k9 l6 m2:Int) b=>BId (m2=0) (CallT PR E5 [(.agg [.int .i64 k4,.int .i64 k5,.int .i64 k9,.int .i64 l6])] [sV] b (fun (c9:Int) (a2 d1:Bool) (d2:B8) (h9 i2 a5 g7 e2:Int) (i3:B8) (c2 z j6:TV) k0=>need (List.all (cV c9 a2 d1 d2 h9 i2 a5 g7 e2 i3 c2 z j6) As) (K c9 a2 d1 d2 h9 i2 a5 g7 e2 i3 c2 z j6 k0))) (CallT PR C8 [.str s] [sV] b (fun (a4:Int) (j1 f1:Bool) (j5:B8) (h2 g4 j2 e a0:Int) (i5:B8) (h3 f v:TV) k1=>need (List.all (cV a4 j1 f1 j5 h2 g4 j2 e a0 i5 h3 f v) As) (K a4 j1 f1 j5 h2 g4 j2 e a0 i5 h3 f v k1)))))))))))):CallT PR CN [.str s,.bool quoted,(.agg [.int .u8 d_0,.int .u8 d_1,.bool d_2,.bool d_3])] [sV] st K:=
 Ag (cfg:=⟨[5,6,7,9],[],[]⟩) (h:= .none) mixed (fun _ _=>Tryz.call37 _ _) Tryz.func37 (by kernel_rfl) (by kernel_rfl) h
theorem K2 (src:B8) (d_0:Int) (d_1:Int) (d_2:Bool) (d_3:Bool) (l_0:Int) (l_1:Int) (l_2:Int) (l_3:Int) (l_4:Int) (st:St) (K:V13 (Int->Int->St->Prop)) (h:CallT PR EC [.str src,(.agg [.int .u8 d_0,.int .u8 d_1,.bool d_2,.bool d_3]),(.agg [.int .i64 l_0,.int .i64 l_1,.int .i64 l_2,.int .i64 l_3,.int .i64 l_4])] [.agg [.int .i64,.str,.str,.tv,.str],.one (.int .i64),.one (.int .i64)] st (fun (n1:Int) (s1 s2:B8) (v1:TV) (s3:B8) (n2 n3:Int) a=>need (List.all [.int .i64 n1,.str s1,.str s2,v1,.str s3] As) (BId (n3≠0) (K 0 false false [] 0 0 0 0 0 [] .nilSlice .nilSlice .nilSlice n2 n3 a) (CallT PR Ha [(.agg [.int .i64 n1,.str s1,.str s2,v1,.str s3]),(.agg [.int .u8 d_0,.int .u8 d_1,.bool d_2,.bool d_3])] [sV,.one (.int .i64)] a (fun (n4:Int) (b1 b2:Bool) (s4:B8) (n5 n6 n7 n8 n9:Int) (s5:B8) (v2 v3 v4:TV) (b:Int) c=>need (List.all (cV n4 b1 b2 s4 n5 n6 n7 n8 n9 s5 v2 v3 v4) As) (need (List.all (cV n4 b1 b2 s4 n5 n6 n7 n8 n9 s5 v2 v3 v4) As) (K n4 b1 b2 s4 n5 n6 n7 n8 n9 s5 v2 v3 v4 0 b c))))))):CallT PR CM [.str src,(.agg [.int .u8 d_0,.int .u8 d_1,.bool d_2,.bool d_3]),(.agg [.int .i64 l_0,.int .i64 l_1,.int .i64 l_2,.int .i64 l_3,.int .i64 l_4])] [sV,.one (.int .i64),.one (.int .i64)] st K:=
 Ag (cfg:=⟨[4,5,6,9,12],[],[]⟩) (h:= .none) mixed (fun _ _=>Tryz.call39 _ _) Tryz.func39 (by kernel_rfl) (by kernel_rfl) h
theorem Qs (n_0:Int) (g:B8) (k:B8) (j:TV) (l:B8) (d_0:Int) (d_1:Int) (d_2:Bool) (d_3:Bool) (st:St) (K:V13 (Int->St->Prop)) (h:CallT PR ES [(.agg [.int .i64 n_0,.str g,.str k,j,.str l]),(.agg [.int .u8 d_0,.int .u8 d_1,.bool d_2,.bool d_3])] [.one .tv,.one (.int .i64)] st (fun (v1:TV) (n1:Int) l8=>BId (n1≠0) (K 0 false false [] 0 0 0 0 0 [] .nilSlice .nilSlice .nilSlice n1 l8) (CallT PR Fy [(.agg [.int .i64 n_0,.str g,.str k,j,.str l]),(.agg [.int .u8 d_0,.int .u8 d_1,.bool d_2,.bool d_3])] [.one .tv,.one (.int .i64)] l8 (fun (v2:TV) (n2:Int) o8=>need (isSl v1) (∃(I1:Int->TV->TV->TV->Int->Int->Int->Bool->Bool->V13 (V13 (St->Prop))) (M1:Int->TV->TV->TV->Int->Int->Int->Bool->Bool->V13 (V13 (St->Nat))),(I1 0 v1 v2 v1 ((lenS v1:Int)) d_0 d_1 d_2 d_3 0 false false [] 0 0 0 0 0 [] .nilSlice .nilSlice .nilSlice 6 false false [] 0 0 0 0 0 [] .nilSlice .nilSlice .nilSlice o8)/\∀g b e u k n3 n4 b1 b2 n5 b3 b4 s1 n6 n7 n8 n9 y s2 v3 v4 v5 p b5 b6 s3 o r n q s s4 v6 v7 v8 m,I1 g b e u k n3 n4 b1 b2 n5 b3 b4 s1 n6 n7 n8 n9 y s2 v3 v4 v5 p b5 b6 s3 o r n q s s4 v6 v7 v8 m->(BId (g<k) (((0<=g/\g<(lenZ 1 u:Int))/\Ae (Ad m [] (.t (ixT 1 u g.toNat)) 0) (fun (v9:TV)=>BIf (!b1) (need (isSl v9) (∃(I2:Int->TV->TV->Int->TV->Int->Int->TV->Int->Int->Int->Bool->Bool->V13 (V13 (V13 (St->Prop)))) (M2:Int->TV->TV->Int->TV->Int->Int->TV->Int->Int->Int->Bool->Bool->V13 (V13 (V13 (St->Nat)))),(I2 0 b e g u k g v9 ((lenS v9:Int)) n3 n4 b1 b2 n5 b3 b4 s1 n6 n7 n8 n9 y s2 v3 v4 v5 p b5 b6 s3 o r n q s s4 v6 v7 v8 6 false false [] 0 0 0 0 0 [] .nilSlice .nilSlice .nilSlice m)/\∀j f c w h5 l d7 f8 j4 a1 a2 b7 b8 c3 b9 f6 s5 h1 c0 g2 h3 i5 s6 i0 d1 i2 i4 e9 i8 s7 c1 h4 c6 f7 g7 s8 i3 j5 h8 h0 e7 h2 s9 i6 g1 i9 g4 f4 i1 a9 j2 g8 a3,I2 j f c w h5 l d7 f8 j4 a1 a2 b7 b8 c3 b9 f6 s5 h1 c0 g2 h3 i5 s6 i0 d1 i2 i4 e9 i8 s7 c1 h4 c6 f7 g7 s8 i3 j5 h8 h0 e7 h2 s9 i6 g1 i9 g4 f4 i1 a9 j2 g8 a3->(BId (j<j4) (((0<=j/\j<(lenZ 1 f8:Int))/\Ae (Ad a3 [] (.t (ixT 1 f8 j.toNat)) 0) (fun (x2:TV)=>Af .str x2 (fun (p0:B8)=>((0<=w/\w<(lenZ 1 c:Int))/\Ae (Ad a3 [] (.t (ixT 1 c w.toNat)) 0) (fun (k5:TV)=>((0<=j/\j<(lenZ 1 k5:Int))/\Ae (Ad a3 [] (.t (ixT 1 k5 j.toNat)) 0) (fun (x4:TV)=>Af .bool x4 (fun (o7:Bool)=>CallT PR CN [.str p0,.bool o7,(.agg [.int .u8 a1,.int .u8 a2,.bool b7,.bool b8])] [sV] a3 (fun (m8:Int) (o2 o1:Bool) (n0:B8) (l4 m2 l5 m7 l9:Int) (l3:B8) (l2 m1 k8:TV) m3=>(Ad m3 [] (.t (ixT 1 c w.toNat)) 0=some k5/\need (List.all (cV m8 o2 o1 n0 l4 m2 l5 m7 l9 l3 l2 m1 k8) As) (BF 63 13 168 j2 1 (cV m8 o2 o1 n0 l4 m2 l5 m7 l9 l3 l2 m1 k8) m3 (fun (k4:TV) m6=>need (List.all [k4] As) ((I2 ((i64.wrap (j+(1:Int)))) f c w h5 l d7 f8 j4 a1 a2 b7 b8 c3 b9 f6 s5 h1 c0 g2 h3 i5 s6 i0 d1 i2 i4 e9 i8 s7 c1 h4 c6 f7 g7 s8 i3 j5 h8 h0 e7 h2 s9 i6 g1 i9 g4 f4 i1 a9 k4 g8 m6/\M2 ((i64.wrap (j+(1:Int)))) f c w h5 l d7 f8 j4 a1 a2 b7 b8 c3 b9 f6 s5 h1 c0 g2 h3 i5 s6 i0 d1 i2 i4 e9 i8 s7 c1 h4 c6 f7 g7 s8 i3 j5 h8 h0 e7 h2 s9 i6 g1 i9 g4 f4 i1 a9 k4 g8 m6<M2 j f c w h5 l d7 f8 j4 a1 a2 b7 b8 c3 b9 f6 s5 h1 c0 g2 h3 i5 s6 i0 d1 i2 i4 e9 i8 s7 c1 h4 c6 f7 g7 s8 i3 j5 h8 h0 e7 h2 s9 i6 g1 i9 g4 f4 i1 a9 j2 g8 a3))))))))))))))) (need (List.all (cV h0 e7 h2 s9 i6 g1 i9 g4 f4 i1 a9 j2 g8) As) (BF 63 13 168 j5 1 (cV h0 e7 h2 s9 i6 g1 i9 g4 f4 i1 a9 j2 g8) a3 (fun (k2:TV) l0=>need (List.all [k2] As) ((I1 ((i64.wrap (d7+(1:Int)))) f c h5 l a1 a2 b7 b8 c3 b9 f6 s5 h1 c0 g2 h3 i5 s6 i0 d1 i2 i4 e9 i8 s7 c1 h4 c6 f7 g7 s8 i3 k2 h8 l0/\M1 ((i64.wrap (d7+(1:Int)))) f c h5 l a1 a2 b7 b8 c3 b9 f6 s5 h1 c0 g2 h3 i5 s6 i0 d1 i2 i4 e9 i8 s7 c1 h4 c6 f7 g7 s8 i3 k2 h8 l0<M1 g b e u k n3 n4 b1 b2 n5 b3 b4 s1 n6 n7 n8 n9 y s2 v3 v4 v5 p b5 b6 s3 o r n q s s4 v6 v7 v8 m)))))))) (BId ((0:Int)<g) (need (isSl v9) (∃(I3:Int->TV->TV->Int->TV->Int->Int->TV->Int->Int->Int->Bool->Bool->V13 (V13 (V13 (St->Prop)))) (M3:Int->TV->TV->Int->TV->Int->Int->TV->Int->Int->Int->Bool->Bool->V13 (V13 (V13 (St->Nat)))),(I3 0 b e g u k g v9 ((lenS v9:Int)) n3 n4 b1 b2 n5 b3 b4 s1 n6 n7 n8 n9 y s2 v3 v4 v5 p b5 b6 s3 o r n q s s4 v6 v7 v8 7 false false [] 0 0 0 0 0 [] .nilSlice .nilSlice .nilSlice m)/\∀i a d x d9 d6 a8 c7 a5 z a0 a6 a4 e8 g5 d4 f2 e6 c4 e2 c8 f5 d8 h9 h7 c9 d2 f0 i7 f3 f9 a7 e4 e5 g9 d0 e3 j3 j0 d3 g3 g0 g6 f1 e0 d5 c5 c2 e1 h6 b0 j1 v,I3 i a d x d9 d6 a8 c7 a5 z a0 a6 a4 e8 g5 d4 f2 e6 c4 e2 c8 f5 d8 h9 h7 c9 d2 f0 i7 f3 f9 a7 e4 e5 g9 d0 e3 j3 j0 d3 g3 g0 g6 f1 e0 d5 c5 c2 e1 h6 b0 j1 v->(BId (i<a5) (((0<=i/\i<(lenZ 1 c7:Int))/\Ae (Ad v [] (.t (ixT 1 c7 i.toNat)) 0) (fun (x5:TV)=>Af .str x5 (fun (o9:B8)=>((0<=(0:Int)/\(0:Int)<(lenZ 1 a:Int))/\Ae (Ad v [] (.t (ixT 1 a (Int.toNat (0:Int)))) 0) (fun (j7:TV)=>((0<=i/\i<(lenZ 1 j7:Int))/\Ae (Ad v [] (.t (ixT 1 j7 i.toNat)) 0) (fun (x7:TV)=>Af .str x7 (fun (k1:B8)=>((0<=x/\x<(lenZ 1 d:Int))/\Ae (Ad v [] (.t (ixT 1 d x.toNat)) 0) (fun (k0:TV)=>((0<=i/\i<(lenZ 1 k0:Int))/\Ae (Ad v [] (.t (ixT 1 k0 i.toNat)) 0) (fun (x9:TV)=>Af .bool x9 (fun (o6:Bool)=>CallT PR CN [.str o9,.bool o6,(.agg [.int .u8 z,.int .u8 a0,.bool a6,.bool a4])] [sV] v (fun (o5:Int) (m5 l1:Bool) (o0:B8) (k7 k9 l7 m4 o3:Int) (o4:B8) (m0 m9 l6:TV) j6=>(Ad j6 [] (.t (ixT 1 d x.toNat)) 0=some k0/\(Ad j6 [] (.t (ixT 1 j7 i.toNat)) 0=some (.str k1)/\(Ad j6 [] (.t (ixT 1 a (Int.toNat (0:Int)))) 0=some j7/\need (List.all [.str k1,.int .i64 o5,.bool m5,.bool l1,.str o0,.int .i64 k7,.int .i64 k9,.int .i64 l7,.int .i64 m4,.int .i64 o3,.str o4,m0,m9,l6] As) (BF 136 14 184 j1 1 [.str k1,.int .i64 o5,.bool m5,.bool l1,.str o0,.int .i64 k7,.int .i64 k9,.int .i64 l7,.int .i64 m4,.int .i64 o3,.str o4,m0,m9,l6] j6 (fun (k6:TV) j9=>need (List.all [k6] As) ((I3 ((i64.wrap (i+(1:Int)))) a d x d9 d6 a8 c7 a5 z a0 a6 a4 e8 g5 d4 f2 e6 c4 e2 c8 f5 d8 h9 h7 c9 d2 f0 i7 f3 f9 a7 e4 e5 g9 d0 e3 j3 j0 d3 g3 g0 g6 f1 e0 d5 c5 c2 e1 h6 b0 k6 j9/\M3 ((i64.wrap (i+(1:Int)))) a d x d9 d6 a8 c7 a5 z a0 a6 a4 e8 g5 d4 f2 e6 c4 e2 c8 f5 d8 h9 h7 c9 d2 f0 i7 f3 f9 a7 e4 e5 g9 d0 e3 j3 j0 d3 g3 g0 g6 f1 e0 d5 c5 c2 e1 h6 b0 k6 j9<M3 i a d x d9 d6 a8 c7 a5 z a0 a6 a4 e8 g5 d4 f2 e6 c4 e2 c8 f5 d8 h9 h7 c9 d2 f0 i7 f3 f9 a7 e4 e5 g9 d0 e3 j3 j0 d3 g3 g0 g6 f1 e0 d5 c5 c2 e1 h6 b0 j1 v)))))))))))))))))))))) (need (List.all (cV d3 g3 g0 g6 f1 e0 d5 c5 c2 e1 h6 b0 j1) As) (BF 63 13 168 j3 1 (cV d3 g3 g0 g6 f1 e0 d5 c5 c2 e1 h6 b0 j1) v (fun (j8:TV) k3=>need (List.all [j8] As) ((I1 ((i64.wrap (a8+(1:Int)))) a d d9 d6 z a0 a6 a4 e8 g5 d4 f2 e6 c4 e2 c8 f5 d8 h9 h7 c9 d2 f0 i7 f3 f9 a7 e4 e5 g9 d0 e3 j8 j0 k3/\M1 ((i64.wrap (a8+(1:Int)))) a d d9 d6 z a0 a6 a4 e8 g5 d4 f2 e6 c4 e2 c8 f5 d8 h9 h7 c9 d2 f0 i7 f3 f9 a7 e4 e5 g9 d0 e3 j8 j0 k3<M1 g b e u k n3 n4 b1 b2 n5 b3 b4 s1 n6 n7 n8 n9 y s2 v3 v4 v5 p b5 b6 s3 o r n q s s4 v6 v7 v8 m)))))))) ((I1 ((i64.wrap (g+(1:Int)))) b e u k n3 n4 b1 b2 n5 b3 b4 s1 n6 n7 n8 n9 y s2 v3 v4 v5 p b5 b6 s3 o r n q s s4 v6 v7 v8 m/\M1 ((i64.wrap (g+(1:Int)))) b e u k n3 n4 b1 b2 n5 b3 b4 s1 n6 n7 n8 n9 y s2 v3 v4 v5 p b5 b6 s3 o r n q s s4 v6 v7 v8 m<M1 g b e u k n3 n4 b1 b2 n5 b3 b4 s1 n6 n7 n8 n9 y s2 v3 v4 v5 p b5 b6 s3 o r n q s s4 v6 v7 v8 m)))))) (need (List.all (cV p b5 b6 s3 o r n q s s4 v6 v7 v8) As) (K p b5 b6 s3 o r n q s s4 v6 v7 v8 0 m)))))))):CallT PR Ha [(.agg [.int .i64 n_0,.str g,.str k,j,.str l]),(.agg [.int .u8 d_0,.int .u8 d_1,.bool d_2,.bool d_3])] [sV,.one (.int .i64)] st K:=
 Ag (cfg:=⟨[2,3,4,10,13,16],[],[61,64,92,95,100,103]⟩) (h:=(.seq .none (.seq .none (.seq .none (.seq .none (.seq .none (.seq (.seq .none (.block (.loop ⟨[(38,.int .i64),(6,.tv),(8,.tv),(36,.tv),(37,.int .i64)],[(3,1,0),(4,2,0),(10,3,0)],[(1,4),(2,13),(3,13)],[(1,0,.int .u8),(1,1,.int .u8),(1,2,.bool),(1,3,.bool),(2,0,.int .i64),(2,1,.bool),(2,2,.bool),(2,3,.str),(2,4,.int .i64),(2,5,.int .i64),(2,6,.int .i64),(2,7,.int .i64),(2,8,.int .i64),(2,9,.str),(2,10,.tv),(2,11,.tv),(2,12,.tv),(3,0,.int .i64),(3,1,.bool),(3,2,.bool),(3,3,.str),(3,4,.int .i64),(3,5,.int .i64),(3,6,.int .i64),(3,7,.int .i64),(3,8,.int .i64),(3,9,.str),(3,10,.tv),(3,11,.tv),(3,12,.tv)]⟩ (.seq .none (.seq .none (.seq (.block (.seq .none (.block (.seq .none (.cond (.seq .none (.seq (.seq .none (.block (.loop ⟨[(50,.int .i64),(6,.tv),(8,.tv),(11,.int .i64),(36,.tv),(37,.int .i64),(38,.int .i64),(48,.tv),(49,.int .i64)],[(3,1,0),(4,2,0),(10,3,0),(13,4,0)],[(1,4),(2,13),(3,13),(4,13)],[(1,0,.int .u8),(1,1,.int .u8),(1,2,.bool),(1,3,.bool),(2,0,.int .i64),(2,1,.bool),(2,2,.bool),(2,3,.str),(2,4,.int .i64),(2,5,.int .i64),(2,6,.int .i64),(2,7,.int .i64),(2,8,.int .i64),(2,9,.str),(2,10,.tv),(2,11,.tv),(2,12,.tv),(3,0,.int .i64),(3,1,.bool),(3,2,.bool),(3,3,.str),(3,4,.int .i64),(3,5,.int .i64),(3,6,.int .i64),(3,7,.int .i64),(3,8,.int .i64),(3,9,.str),(3,10,.tv),(3,11,.tv),(3,12,.tv),(4,0,.int .i64),(4,1,.bool),(4,2,.bool),(4,3,.str),(4,4,.int .i64),(4,5,.int .i64),(4,6,.int .i64),(4,7,.int .i64),(4,8,.int .i64),(4,9,.str),(4,10,.tv),(4,11,.tv),(4,12,.tv)]⟩ .none))) .none)) (.seq .none (.cond (.seq .none (.seq (.seq .none (.block (.loop ⟨[(83,.int .i64),(6,.tv),(8,.tv),(11,.int .i64),(36,.tv),(37,.int .i64),(38,.int .i64),(81,.tv),(82,.int .i64)],[(3,1,0),(4,2,0),(10,3,0),(16,5,0)],[(1,4),(2,13),(3,13),(5,13)],[(1,0,.int .u8),(1,1,.int .u8),(1,2,.bool),(1,3,.bool),(2,0,.int .i64),(2,1,.bool),(2,2,.bool),(2,3,.str),(2,4,.int .i64),(2,5,.int .i64),(2,6,.int .i64),(2,7,.int .i64),(2,8,.int .i64),(2,9,.str),(2,10,.tv),(2,11,.tv),(2,12,.tv),(3,0,.int .i64),(3,1,.bool),(3,2,.bool),(3,3,.str),(3,4,.int .i64),(3,5,.int .i64),(3,6,.int .i64),(3,7,.int .i64),(3,8,.int .i64),(3,9,.str),(3,10,.tv),(3,11,.tv),(3,12,.tv),(5,0,.int .i64),(5,1,.bool),(5,2,.bool),(5,3,.str),(5,4,.int .i64),(5,5,.int .i64),(5,6,.int .i64),(5,7,.int .i64),(5,8,.int .i64),(5,9,.str),(5,10,.tv),(5,11,.tv),(5,12,.tv)]⟩ .none))) .none)) .none))))))) .none)))))) .none))))))) mixed (fun _ _=>Tryz.call42 _ _) Tryz.func42 (by kernel_rfl) (by kernel_rfl) h
theorem Qr (v_0:Int) (v_1:Bool) (v_2:Bool) (v_3:B8) (v_4:Int) (v_5:Int) (v_6:Int) (v_7:Int) (v_8:Int) (v_9:B8) (v_10:TV) (v_11:TV) (v_12:TV) (d_0:Int) (d_1:Int) (d_2:Bool) (d_3:Bool) (st:St) (K:B8->Int->St->Prop) (h:CallT PR Il [(.agg (cV v_0 v_1 v_2 v_3 v_4 v_5 v_6 v_7 v_8 v_9 v_10 v_11 v_12)),(.agg [.int .u8 d_0,.int .u8 d_1,.bool d_2,.bool d_3])] [.one .str,.one (.int .i64)] st (fun (s1:B8) (n1:Int) a=>BId (n1=0) (BId ((1048576:Int)<(s1.length:Int)) (K [] 10 a) (K s1 n1 a)) (K s1 n1 a))):CallT PR G9 [(.agg (cV v_0 v_1 v_2 v_3 v_4 v_5 v_6 v_7 v_8 v_9 v_10 v_11 v_12)),(.agg [.int .u8 d_0,.int .u8 d_1,.bool d_2,.bool d_3])] [.one .str,.one (.int .i64)] st K:=
 Ag (cfg:=⟨[2,3],[],[]⟩) (h:= .none) mixed (fun _ _=>Tryz.call49 _ _) Tryz.func49 (by kernel_rfl) (by kernel_rfl) h
theorem Qi (a_0:Int) (a_1:Bool) (a_2:Bool) (a_3:B8) (a_4:Int) (a_5:Int) (a_6:Int) (a_7:Int) (a_8:Int) (a_9:B8) (a_10:TV) (a_11:TV) (a_12:TV) (b_0:Int) (b_1:Bool) (b_2:Bool) (b_3:B8) (b_4:Int) (b_5:Int) (b_6:Int) (b_7:Int) (b_8:Int) (b_9:B8) (b_10:TV) (b_11:TV) (b_12:TV) (st:St) (K:Bool->St->Prop) (h:CallT PR EZ [(.agg (cV a_0 a_1 a_2 a_3 a_4 a_5 a_6 a_7 a_8 a_9 a_10 a_11 a_12)),(.agg (cV b_0 b_1 b_2 b_3 b_4 b_5 b_6 b_7 b_8 b_9 b_10 b_11 b_12)),.bool true,.int .i64 65536] [.one .bool] st (fun (b1:Bool) a=>K b1 a)):CallT PR E6 [(.agg (cV a_0 a_1 a_2 a_3 a_4 a_5 a_6 a_7 a_8 a_9 a_10 a_11 a_12)),(.agg (cV b_0 b_1 b_2 b_3 b_4 b_5 b_6 b_7 b_8 b_9 b_10 b_11 b_12))] [.one .bool] st K:=
 Ag (cfg:=⟨[2,3],[],[]⟩) (h:= .none) mixed (fun _ _=>Tryz.call54 _ _) Tryz.func54 (by kernel_rfl) (by kernel_rfl) h
theorem Oi (v_0:Int) (v_1:Bool) (v_2:Bool) (v_3:B8) (v_4:Int) (v_5:Int) (v_6:Int) (v_7:Int) (v_8:Int) (v_9:B8) (v_10:TV) (v_11:TV) (v_12:TV) (st:St) (K:Int->St->Prop) (h:stB (st.push (.cells [.int .i64 0]) (some 3)) (.box st.nb 0) [.int .i64 0] (fun a=>CallT PR Dt [(.agg (cV v_0 v_1 v_2 v_3 v_4 v_5 v_6 v_7 v_8 v_9 v_10 v_11 v_12)),.int .i64 1,(.box st.nb 0)] [.one (.int .i64)] a (fun (n1:Int) b=>K n1 b))):CallT PR Ev [(.agg (cV v_0 v_1 v_2 v_3 v_4 v_5 v_6 v_7 v_8 v_9 v_10 v_11 v_12))] [.one (.int .i64)] st K:=
 Ag (cfg:=⟨[1],[],[]⟩) (h:= .none) mixed (fun _ _=>Tryz.call58 _ _) Tryz.func58 (by kernel_rfl) (by kernel_rfl) h
theorem Oh (v_0:Int) (v_1:Bool) (v_2:Bool) (v_3:B8) (v_4:Int) (v_5:Int) (v_6:Int) (v_7:Int) (v_8:Int) (v_9:B8) (v_10:TV) (v_11:TV) (v_12:TV) (st:St) (K:Int->St->Prop) (h:CallT PR E3 [(.agg (cV v_0 v_1 v_2 v_3 v_4 v_5 v_6 v_7 v_8 v_9 v_10 v_11 v_12)),.int .i64 65536] [.one (.int .i64)] st (fun (n1:Int) a=>K n1 a)):CallT PR Gd [(.agg (cV v_0 v_1 v_2 v_3 v_4 v_5 v_6 v_7 v_8 v_9 v_10 v_11 v_12))] [.one (.int .i64)] st K:=
 Ag (cfg:=⟨[1],[],[]⟩) (h:= .none) mixed (fun _ _=>Tryz.call60 _ _) Tryz.func60 (by kernel_rfl) (by kernel_rfl) h
theorem Qh (v_0:Int) (v_1:Bool) (v_2:Bool) (v_3:B8) (v_4:Int) (v_5:Int) (v_6:Int) (v_7:Int) (v_8:Int) (v_9:B8) (v_10:TV) (v_11:TV) (v_12:TV) (st:St) (K:Int->St->Prop) (h:CallT PR EY [(.agg (cV v_0 v_1 v_2 v_3 v_4 v_5 v_6 v_7 v_8 v_9 v_10 v_11 v_12)),.int .i64 65536] [.one (.int .i64)] st (fun (n1:Int) a=>K n1 a)):CallT PR G3 [(.agg (cV v_0 v_1 v_2 v_3 v_4 v_5 v_6 v_7 v_8 v_9 v_10 v_11 v_12))] [.one (.int .i64)] st K:=
 Ag (cfg:=⟨[1],[],[]⟩) (h:= .none) mixed (fun _ _=>Tryz.call61 _ _) Tryz.func61 (by kernel_rfl) (by kernel_rfl) h
theorem R4 (v_0:Int) (v_1:Bool) (v_2:Bool) (v_3:B8) (v_4:Int) (v_5:Int) (v_6:Int) (v_7:Int) (v_8:Int) (v_9:B8) (v_10:TV) (v_11:TV) (v_12:TV) (d_0:Int) (d_1:Int) (d_2:Bool) (d_3:Bool) (st:St) (K:B8->Int->St->Prop) (h:BIf (!d_3) (BId (v_0≠4) (K [] 27 st) (BId (v_0=0) (K [] 0 st) (BId (v_0=1) (BIf v_1 (K QX 0 st) (K Z0 0 st)) (BId (v_0=2) (CallT PR D5 [(.agg [.bool v_2,.str v_3,.int .i64 v_4])] [.one .str] st (fun (s1:B8) j=>K s1 0 j)) (BId (v_0=3) (CallT PR Ey [(.agg [.int .i64 v_5,.int .i64 v_6,.int .i64 v_7,.int .i64 v_8])] [.one .str] st (fun (s2:B8) k=>K s2 0 k)) (BId (v_0=4) (CallT PR Cz [.str v_9,(.agg [.int .u8 d_0,.int .u8 d_1,.bool d_2,.bool d_3])] [.one .str,.one (.int .i64)] st (fun (s3:B8) (n1:Int) d=>BId (n1≠0) (K s3 n1 d) (BId (s3≠v_9) (K s3 n1 d) (CallT PR CN [.str s3,.bool false,(.agg [.int .u8 d_0,.int .u8 d_1,.bool d_2,.bool d_3])] [sV] d (fun (n2:Int) (b1 b2:Bool) (s4:B8) (n3 n4 n5 n6 n7:Int) (s5:B8) (v1 v2 v3:TV) e=>BId (n2=4) (K s3 n1 e) (Ae ((toBytes e (.list 1 .full 1 [.int .u8 d_1])).map TV.str) (fun (x1:TV)=>Af .str x1 (fun (s6:B8)=>(s6.length+s6.length<=9223372036854775807/\CallT PR AJ [.str s3,.str s6,(.str (s6++s6))] [.one .str] e (fun (s7:B8) m=>(s6.length+s7.length<=9223372036854775807/\(((s6++s7)).length+s6.length<=9223372036854775807/\K (((s6++s7)++s6)) 0 m)))))))))))) (K [] 27 st))))))) (BId (v_0=0) (K [] 0 st) (BId (v_0=1) (BIf v_1 (K QX 0 st) (K Z0 0 st)) (BId (v_0=2) (CallT PR D5 [(.agg [.bool v_2,.str v_3,.int .i64 v_4])] [.one .str] st (fun (s8:B8) n=>K s8 0 n)) (BId (v_0=3) (CallT PR Ey [(.agg [.int .i64 v_5,.int .i64 v_6,.int .i64 v_7,.int .i64 v_8])] [.one .str] st (fun (s9:B8) l=>K s9 0 l)) (BId (v_0=4) (CallT PR Cz [.str v_9,(.agg [.int .u8 d_0,.int .u8 d_1,.bool d_2,.bool d_3])] [.one .str,.one (.int .i64)] st (fun (b:B8) (n8:Int) g=>BId (n8≠0) (K b n8 g) (BId (b≠v_9) (K b n8 g) (CallT PR CN [.str b,.bool false,(.agg [.int .u8 d_0,.int .u8 d_1,.bool d_2,.bool d_3])] [sV] g (fun (n9:Int) (b3 b4:Bool) (r:B8) (o u t q s:Int) (p:B8) (v4 v5 v6:TV) c=>BId (n9=4) (K b n8 c) (Ae ((toBytes c (.list 1 .full 1 [.int .u8 d_1])).map TV.str) (fun (x2:TV)=>Af .str x2 (fun (a:B8)=>(a.length+a.length<=9223372036854775807/\CallT PR AJ [.str b,.str a,(.str (a++a))] [.one .str] c (fun (f:B8) i=>(a.length+f.length<=9223372036854775807/\(((a++f)).length+a.length<=9223372036854775807/\K (((a++f)++a)) 0 i)))))))))))) (K [] 27 st))))))):CallT PR DG [(.agg (cV v_0 v_1 v_2 v_3 v_4 v_5 v_6 v_7 v_8 v_9 v_10 v_11 v_12)),(.agg [.int .u8 d_0,.int .u8 d_1,.bool d_2,.bool d_3])] [.one .str,.one (.int .i64)] st K:=
 Ag (cfg:=⟨[2,3],[],[]⟩) (h:= .none) mixed (fun _ _=>Tryz.call87 _ _) Tryz.func87 (by kernel_rfl) (by kernel_rfl) h
theorem GU (s:B8) (st:St) (K:V13 (St->Prop)) (h:K 4 false false [] 0 0 0 0 0 s .nilSlice .nilSlice .nilSlice st):CallT PR C8 [.str s] [sV] st K:=
 Ag (cfg:=⟨[2],[],[]⟩) (h:= .none) mixed (fun _ _=>Tryz.call93 _ _) Tryz.func93 (by kernel_rfl) (by kernel_rfl) h
theorem Qj (st:St) (K:V13 (St->Prop)) (h:K 0 false false [] 0 0 0 0 0 [] .nilSlice .nilSlice .nilSlice st):CallT PR Kj [] [sV] st K:=
 Ag (cfg:=⟨[0],[],[]⟩) (h:= .none) mixed (fun _ _=>Tryz.call94 _ _) Tryz.func94 (by kernel_rfl) (by kernel_rfl) h
theorem J8 (b:Bool) (st:St) (K:V13 (St->Prop)) (h:K 1 b false [] 0 0 0 0 0 [] .nilSlice .nilSlice .nilSlice st):CallT PR G4 [.bool b] [sV] st K:=
 Ag (cfg:=⟨[2],[],[]⟩) (h:= .none) mixed (fun _ _=>Tryz.call95 _ _) Tryz.func95 (by kernel_rfl) (by kernel_rfl) h
theorem L8 (s:B8) (st:St) (K:Bool->B8->Int->Int->St->Prop) (h:CallT PR A6 [.str s,.str Fc] [.one .bool] st (fun (b1:Bool) a0=>∃(C1:B8->Bool->Bool->B8->Int->St->Prop),(BIf b1 (((0<=(1:Int)/\(1:Int)<=(s.length:Int))/\C1 ((List.drop (Int.toNat (1:Int)) s)) b1 false [] 0 a0)) (C1 s b1 false [] 0 a0))/\∀l m b2 s1 n1 a1,C1 l m b2 s1 n1 a1->(CallT PR Dw [.str l] [.one (.int .i64)] a1 (fun (n2:Int) v=>∃(C2:B8->Bool->Int->Bool->B8->Int->St->Prop),(BId (n2=0) (K false [] 0 3 v) (BId ((1:Int)<n2) (((0<=(0:Int)/\(0:Int)<(l.length:Int))/\BId (((List.getD l (Int.toNat (0:Int)) 0).toNat:Int)=(48:Int)) (K false [] 0 3 v) (C2 l m n2 b2 s1 n1 v))) (C2 l m n2 b2 s1 n1 v)))/\∀b n a b3 s2 n3 a2,C2 b n a b3 s2 n3 a2->(((0<=a/\a<=(b.length:Int))/\((0<=a/\a<=(b.length:Int))/\∃(C3:B8->B8->Int->Bool->Bool->B8->Int->St->Prop),(CallT PR A6 [(.str (List.drop a.toNat b)),.str J9] [.one .bool] a2 (fun (b4:Bool) a3=>BIf b4 (((0<=(1:Int)/\(1:Int)<=(((List.drop a.toNat b)).length:Int))/\CallT PR Dw [(.str (List.drop (Int.toNat (1:Int)) (List.drop a.toNat b)))] [.one (.int .i64)] a3 (fun (n4:Int) a5=>BId (n4=0) (K false [] 0 3 a5) (((0<=(1:Int)/\(1:Int)<=(i64.wrap (n4+(1:Int)))/\(i64.wrap (n4+(1:Int)))<=(((List.drop a.toNat b)).length:Int))/\(((List.take a.toNat b)).length+((List.drop (Int.toNat (1:Int)) (List.take (Int.toNat (i64.wrap (n4+(1:Int)))) (List.drop a.toNat b)))).length<=9223372036854775807/\((0<=(i64.wrap (n4+(1:Int)))/\(i64.wrap (n4+(1:Int)))<=(((List.drop a.toNat b)).length:Int))/\C3 ((List.drop (Int.toNat (i64.wrap (n4+(1:Int)))) (List.drop a.toNat b))) (((List.take a.toNat b)++(List.drop (Int.toNat (1:Int)) (List.take (Int.toNat (i64.wrap (n4+(1:Int)))) (List.drop a.toNat b))))) ((i64.wrap (0-n4))) n b3 s2 n3 a5))))))) (C3 ((List.drop a.toNat b)) ((List.take a.toNat b)) 0 n b3 s2 n3 a3)))/\∀d j f k b5 s3 n5 q,C3 d j f k b5 s3 n5 q->(BId (d≠([]:B8)) (∃(C4:B8->Bool->B8->Int->Bool->B8->Int->St->Prop),(((0<=(0:Int)/\(0:Int)<(d.length:Int))/\BId (((List.getD d (Int.toNat (0:Int)) 0).toNat:Int)≠(101:Int)) (((0<=(0:Int)/\(0:Int)<(d.length:Int))/\BId (((List.getD d (Int.toNat (0:Int)) 0).toNat:Int)≠(69:Int)) (K false [] 0 3 q) (C4 d k j f b5 s3 n5 q))) (C4 d k j f b5 s3 n5 q)))/\∀c g i e b6 s4 n6 a4,C4 c g i e b6 s4 n6 a4->(((0<=(1:Int)/\(1:Int)<=(c.length:Int))/\CallT PR A6 [(.str (List.drop (Int.toNat (1:Int)) c)),.str Fc] [.one .bool] a4 (fun (b7:Bool) z=>∃(C5:B8->Bool->B8->Int->Bool->Bool->B8->Int->St->Prop),(BIf b7 (((0<=(1:Int)/\(1:Int)<=(((List.drop (Int.toNat (1:Int)) c)).length:Int))/\C5 ((List.drop (Int.toNat (1:Int)) (List.drop (Int.toNat (1:Int)) c))) g i e b7 b6 s4 n6 z)) (CallT PR A6 [(.str (List.drop (Int.toNat (1:Int)) c)),.str TL] [.one .bool] z (fun (b8:Bool) x=>BIf b8 (((0<=(1:Int)/\(1:Int)<=(((List.drop (Int.toNat (1:Int)) c)).length:Int))/\C5 ((List.drop (Int.toNat (1:Int)) (List.drop (Int.toNat (1:Int)) c))) g i e b7 b6 s4 n6 x)) (C5 ((List.drop (Int.toNat (1:Int)) c)) g i e b7 b6 s4 n6 x))))/\∀o u t w p b9 s5 n7 r,C5 o u t w p b9 s5 n7 r->(BId (o=([]:B8)) (K false [] 0 3 r) (CallT PR Dw [.str o] [.one (.int .i64)] r (fun (n8:Int) y=>BId (n8≠(o.length:Int)) (K false [] 0 3 y) (CallT PR DM [.str o,.str Lg] [.one .str] y (fun (s6:B8) a8=>CallT PR ET [.int .i64 w,.bool p,.str s6] [.one (.int .i64)] a8 (fun (n9:Int) a9=>CallT PR CZ [.bool u,.str t,.int .i64 n9] [.agg [.bool,.str,.int .i64],.one (.int .i64)] a9 (fun (c4:Bool) (s7:B8) (b0 c3:Int) a6=>K c4 s7 b0 c3 a6))))))))))) (CallT PR CZ [.bool k,.str j,.int .i64 f] [.agg [.bool,.str,.int .i64],.one (.int .i64)] q (fun (c1:Bool) (s8:B8) (c2 c0:Int) a7=>K c1 s8 c2 c0 a7)))))))))):CallT PR CA [.str s] [.agg [.bool,.str,.int .i64],.one (.int .i64)] st K:=
 Ag (cfg:=⟨[2],[],[]⟩) (h:=(.seq .none (.seq .none (.cut ⟨[(0,.str),(4,.bool)],[(2,0,0)],[(0,3)],[(0,0,.bool),(0,1,.str),(0,2,.int .i64)]⟩ .none (.seq .none (.cut ⟨[(0,.str),(4,.bool),(5,.int .i64)],[(2,0,0)],[(0,3)],[(0,0,.bool),(0,1,.str),(0,2,.int .i64)]⟩ .none (.seq .none (.seq .none (.seq .none (.cut ⟨[(0,.str),(6,.str),(7,.int .i64),(4,.bool)],[(2,0,0)],[(0,3)],[(0,0,.bool),(0,1,.str),(0,2,.int .i64)]⟩ .none (.seq (.seq .none (.cond (.cut ⟨[(0,.str),(4,.bool),(6,.str),(7,.int .i64)],[(2,0,0)],[(0,3)],[(0,0,.bool),(0,1,.str),(0,2,.int .i64)]⟩ .none (.seq .none (.seq .none (.cut ⟨[(0,.str),(4,.bool),(6,.str),(7,.int .i64),(8,.bool)],[(2,0,0)],[(0,3)],[(0,0,.bool),(0,1,.str),(0,2,.int .i64)]⟩ .none .none)))) .none)) .none))))))))))) mixed (fun _ _=>Tryz.call96 _ _) Tryz.func96 (by kernel_rfl) (by kernel_rfl) h
theorem RW (d_0:Bool) (d_1:B8) (d_2:Int) (st:St) (K:V13 (St->Prop)) (h:K 2 false d_0 d_1 d_2 0 0 0 0 [] .nilSlice .nilSlice .nilSlice st):CallT PR FQ [(.agg [.bool d_0,.str d_1,.int .i64 d_2])] [sV] st K:=
 Ag (cfg:=⟨[1,2],[],[]⟩) (h:= .none) mixed (fun _ _=>Tryz.call97 _ _) Tryz.func97 (by kernel_rfl) (by kernel_rfl) h
theorem NB (s:B8) (st:St) (K:Int->Int->Int->Int->Int->St->Prop) (h:CallT PR Db [(.box st.nb 0),(.box (st.push (.cells [.str s,.bool false]) (some 220)).nb 0)] [.one (.int .i64)] ((st.push (.cells [.str s,.bool false]) (some 220)).push (.cells [.int .i64 0,.int .i64 0,.int .i64 0,.int .i64 0,.int .i64 0,.int .i64 0,.int .i64 0,.int .u8 0,.int .i64 0,.int .i64 0]) (some 222)) (fun (n1:Int) a=>Ae (Ad a [] (.t (.box st.nb 1)) 0) (fun (x1:TV)=>Af .bool x1 (fun (b1:Bool)=>BIf b1 (K 0 0 0 0 3 a) (Ae (Ad a [] (.t (.box st.nb 0)) 0) (fun (x2:TV)=>Af .str x2 (fun (s1:B8)=>BId (s1≠([]:B8)) (K 0 0 0 0 3 a) (BId (n1≠2) (Ae (Ad a [] (.t (.box (st.push (.cells [.str s,.bool false]) (some 220)).nb 0)) 0) (fun (x3:TV)=>Af (.int .i64) x3 (fun (n2:Int)=>Ae (Ad a [] (.t (.box (st.push (.cells [.str s,.bool false]) (some 220)).nb 1)) 0) (fun (x4:TV)=>Af (.int .i64) x4 (fun (n3:Int)=>Ae (Ad a [] (.t (.box (st.push (.cells [.str s,.bool false]) (some 220)).nb 2)) 0) (fun (x5:TV)=>Af (.int .i64) x5 (fun (n4:Int)=>CallT PR FA [.int .i64 n2,.int .i64 n3,.int .i64 n4] [.one (.int .i64),.one (.int .i64)] a (fun (n5 n6:Int) b=>BId (n6≠0) (K 0 0 0 0 2 b) (Ae (Ad b [] (.t (.box (st.push (.cells [.str s,.bool false]) (some 220)).nb 3)) 0) (fun (x6:TV)=>Af (.int .i64) x6 (fun (n7:Int)=>BId ((23:Int)<n7) (K 0 0 0 0 2 b) (Ae (Ad b [] (.t (.box (st.push (.cells [.str s,.bool false]) (some 220)).nb 4)) 0) (fun (x7:TV)=>Af (.int .i64) x7 (fun (n8:Int)=>BId ((59:Int)<n8) (K 0 0 0 0 2 b) (Ae (Ad b [] (.t (.box (st.push (.cells [.str s,.bool false]) (some 220)).nb 5)) 0) (fun (x8:TV)=>Af (.int .i64) x8 (fun (n9:Int)=>BId ((59:Int)<n9) (K 0 0 0 0 2 b) (Ae (Ad b [] (.t (.box (st.push (.cells [.str s,.bool false]) (some 220)).nb 8)) 0) (fun (x9:TV)=>Af (.int .i64) x9 (fun (q:Int)=>BId ((23:Int)<q) (K 0 0 0 0 2 b) (Ae (Ad b [] (.t (.box (st.push (.cells [.str s,.bool false]) (some 220)).nb 9)) 0) (fun (r:TV)=>Af (.int .i64) r (fun (b5:Int)=>BId ((59:Int)<b5) (K 0 0 0 0 2 b) (Ae (Ad b [] (.t (.box (st.push (.cells [.str s,.bool false]) (some 220)).nb 3)) 0) (fun (a1:TV)=>Af (.int .i64) a1 (fun (m:Int)=>Ae (Ad b [] (.t (.box (st.push (.cells [.str s,.bool false]) (some 220)).nb 4)) 0) (fun (x:TV)=>Af (.int .i64) x (fun (e:Int)=>Ae (Ad b [] (.t (.box (st.push (.cells [.str s,.bool false]) (some 220)).nb 5)) 0) (fun (a0:TV)=>Af (.int .i64) a0 (fun (l:Int)=>Ae (Ad b [] (.t (.box (st.push (.cells [.str s,.bool false]) (some 220)).nb 6)) 0) (fun (u:TV)=>Af (.int .i64) u (fun (d:Int)=>Ae (Ad b [] (.t (.box (st.push (.cells [.str s,.bool false]) (some 220)).nb 8)) 0) (fun (a6:TV)=>Af (.int .i64) a6 (fun (j:Int)=>Ae (Ad b [] (.t (.box (st.push (.cells [.str s,.bool false]) (some 220)).nb 9)) 0) (fun (b7:TV)=>Af (.int .i64) b7 (fun (o:Int)=>Ae (Ad b [] (.t (.box (st.push (.cells [.str s,.bool false]) (some 220)).nb 7)) 0) (fun (a2:TV)=>Af (.int .u8) a2 (fun (a8:Int)=>BId (a8=45) (K n1 n5 ((i64.wrap ((i64.wrap ((i64.wrap ((i64.wrap ((i64.wrap ((i64.wrap (m*(60:Int)))+e))*(60:Int)))+l))*(1000000000:Int)))+d))) ((i64.wrap (0-(i64.wrap ((i64.wrap (j*(60:Int)))+o))))) 0 b) (K n1 n5 ((i64.wrap ((i64.wrap ((i64.wrap ((i64.wrap ((i64.wrap ((i64.wrap (m*(60:Int)))+e))*(60:Int)))+l))*(1000000000:Int)))+d))) ((i64.wrap ((i64.wrap (j*(60:Int)))+o))) 0 b))))))))))))))))))))))))))))))))))))))) (Ae (Ad a [] (.t (.box (st.push (.cells [.str s,.bool false]) (some 220)).nb 3)) 0) (fun (a7:TV)=>Af (.int .i64) a7 (fun (a3:Int)=>BId ((23:Int)<a3) (K 0 0 0 0 2 a) (Ae (Ad a [] (.t (.box (st.push (.cells [.str s,.bool false]) (some 220)).nb 4)) 0) (fun (b8:TV)=>Af (.int .i64) b8 (fun (b3:Int)=>BId ((59:Int)<b3) (K 0 0 0 0 2 a) (Ae (Ad a [] (.t (.box (st.push (.cells [.str s,.bool false]) (some 220)).nb 5)) 0) (fun (v:TV)=>Af (.int .i64) v (fun (w:Int)=>BId ((59:Int)<w) (K 0 0 0 0 2 a) (Ae (Ad a [] (.t (.box (st.push (.cells [.str s,.bool false]) (some 220)).nb 8)) 0) (fun (b6:TV)=>Af (.int .i64) b6 (fun (a5:Int)=>BId ((23:Int)<a5) (K 0 0 0 0 2 a) (Ae (Ad a [] (.t (.box (st.push (.cells [.str s,.bool false]) (some 220)).nb 9)) 0) (fun (y:TV)=>Af (.int .i64) y (fun (b9:Int)=>BId ((59:Int)<b9) (K 0 0 0 0 2 a) (Ae (Ad a [] (.t (.box (st.push (.cells [.str s,.bool false]) (some 220)).nb 3)) 0) (fun (b2:TV)=>Af (.int .i64) b2 (fun (k:Int)=>Ae (Ad a [] (.t (.box (st.push (.cells [.str s,.bool false]) (some 220)).nb 4)) 0) (fun (a4:TV)=>Af (.int .i64) a4 (fun (i:Int)=>Ae (Ad a [] (.t (.box (st.push (.cells [.str s,.bool false]) (some 220)).nb 5)) 0) (fun (b0:TV)=>Af (.int .i64) b0 (fun (f:Int)=>Ae (Ad a [] (.t (.box (st.push (.cells [.str s,.bool false]) (some 220)).nb 6)) 0) (fun (b4:TV)=>Af (.int .i64) b4 (fun (n:Int)=>Ae (Ad a [] (.t (.box (st.push (.cells [.str s,.bool false]) (some 220)).nb 8)) 0) (fun (c0:TV)=>Af (.int .i64) c0 (fun (g:Int)=>Ae (Ad a [] (.t (.box (st.push (.cells [.str s,.bool false]) (some 220)).nb 9)) 0) (fun (p:TV)=>Af (.int .i64) p (fun (c:Int)=>Ae (Ad a [] (.t (.box (st.push (.cells [.str s,.bool false]) (some 220)).nb 7)) 0) (fun (z:TV)=>Af (.int .u8) z (fun (a9:Int)=>BId (a9=45) (K n1 0 ((i64.wrap ((i64.wrap ((i64.wrap ((i64.wrap ((i64.wrap ((i64.wrap (k*(60:Int)))+i))*(60:Int)))+f))*(1000000000:Int)))+n))) ((i64.wrap (0-(i64.wrap ((i64.wrap (g*(60:Int)))+c))))) 0 a) (K n1 0 ((i64.wrap ((i64.wrap ((i64.wrap ((i64.wrap ((i64.wrap ((i64.wrap (k*(60:Int)))+i))*(60:Int)))+f))*(1000000000:Int)))+n))) ((i64.wrap ((i64.wrap (g*(60:Int)))+c))) 0 a))))))))))))))))))))))))))))))))))))))):CallT PR CY [.str s] [.agg [.int .i64,.int .i64,.int .i64,.int .i64],.one (.int .i64)] st K:=
 Ag (cfg:=⟨[2,7],[],[]⟩) (h:= .none) mixed (fun _ _=>Tryz.call98 _ _) Tryz.func98 (by kernel_rfl) (by kernel_rfl) h
theorem Qg (t_0:Int) (t_1:Int) (t_2:Int) (t_3:Int) (st:St) (K:V13 (St->Prop)) (h:K 3 false false [] 0 t_0 t_1 t_2 t_3 [] .nilSlice .nilSlice .nilSlice st):CallT PR E5 [(.agg [.int .i64 t_0,.int .i64 t_1,.int .i64 t_2,.int .i64 t_3])] [sV] st K:=
 Ag (cfg:=⟨[1,2],[],[]⟩) (h:= .none) mixed (fun _ _=>Tryz.call99 _ _) Tryz.func99 (by kernel_rfl) (by kernel_rfl) h
theorem R3 (v_0:Int) (v_1:Bool) (v_2:Bool) (v_3:B8) (v_4:Int) (v_5:Int) (v_6:Int) (v_7:Int) (v_8:Int) (v_9:B8) (v_10:TV) (v_11:TV) (v_12:TV) (d_0:Int) (d_1:Int) (d_2:Bool) (d_3:Bool) (st:St) (K:B8->Int->St->Prop) (h:CallT PR B6 [(.agg [.int .u8 d_0,.int .u8 d_1,.bool d_2,.bool d_3])] [.one .bool] st (fun (b1:Bool) c=>BIf (!b1) (K [] 1 c) (CallT PR Ev [(.agg (cV v_0 v_1 v_2 v_3 v_4 v_5 v_6 v_7 v_8 v_9 v_10 v_11 v_12))] [.one (.int .i64)] c (fun (n1:Int) b=>BId (n1≠0) (K [] n1 b) (CallT PR Gg [(.agg (cV v_0 v_1 v_2 v_3 v_4 v_5 v_6 v_7 v_8 v_9 v_10 v_11 v_12)),(.agg [.int .u8 d_0,.int .u8 d_1,.bool d_2,.bool d_3])] [.one .bool] b (fun (b2:Bool) a=>BIf (!b2) (K [] 27 a) (CallT PR Im [(.agg (cV v_0 v_1 v_2 v_3 v_4 v_5 v_6 v_7 v_8 v_9 v_10 v_11 v_12)),(.agg [.int .u8 d_0,.int .u8 d_1,.bool d_2,.bool d_3])] [.one .str,.one (.int .i64)] a (fun (s1:B8) (n2:Int) d=>K s1 n2 d)))))))):CallT PR Il [(.agg (cV v_0 v_1 v_2 v_3 v_4 v_5 v_6 v_7 v_8 v_9 v_10 v_11 v_12)),(.agg [.int .u8 d_0,.int .u8 d_1,.bool d_2,.bool d_3])] [.one .str,.one (.int .i64)] st K:=
 Ag (cfg:=⟨[2,3],[],[]⟩) (h:= .none) mixed (fun _ _=>Tryz.call114 _ _) Tryz.func114 (by kernel_rfl) (by kernel_rfl) h
theorem Qc (a_0:Int) (a_1:Bool) (a_2:Bool) (a_3:B8) (a_4:Int) (a_5:Int) (a_6:Int) (a_7:Int) (a_8:Int) (a_9:B8) (a_10:TV) (a_11:TV) (a_12:TV) (b_0:Int) (b_1:Bool) (b_2:Bool) (b_3:B8) (b_4:Int) (b_5:Int) (b_6:Int) (b_7:Int) (b_8:Int) (b_9:B8) (b_10:TV) (b_11:TV) (b_12:TV) (exact:Bool) (left:Int) (st:St) (K:Bool->St->Prop) (h:BId (a_0≠b_0) (K false ((st.push (.cells [.bool exact]) (some 4)).push (.cells [.int .i64 left]) (some 3))) (BIf (!(a_1==b_1)) (K false ((st.push (.cells [.bool exact]) (some 4)).push (.cells [.int .i64 left]) (some 3))) (BIf (!((a_2==b_2)&&(decide (a_3=b_3)&&(decide (a_4=b_4)&&true)))) (K false ((st.push (.cells [.bool exact]) (some 4)).push (.cells [.int .i64 left]) (some 3))) (BIf (!(decide (a_5=b_5)&&(decide (a_6=b_6)&&(decide (a_7=b_7)&&(decide (a_8=b_8)&&true))))) (K false ((st.push (.cells [.bool exact]) (some 4)).push (.cells [.int .i64 left]) (some 3))) (BId (a_9≠b_9) (K false ((st.push (.cells [.bool exact]) (some 4)).push (.cells [.int .i64 left]) (some 3))) (CallT PR BU [a_10,b_10] [.one .bool] ((st.push (.cells [.bool exact]) (some 4)).push (.cells [.int .i64 left]) (some 3)) (fun (b1:Bool) a=>BIf (!b1) (K false a) (Ae (Ad a [] (.t (.box (st.push (.cells [.bool exact]) (some 4)).nb 0)) 0) (fun (x1:TV)=>Af (.int .i64) x1 (fun (n1:Int)=>BId (n1<1) (K false a) (Ae (Ad a [] (.t (.box st.nb 0)) 0) (fun (x2:TV)=>Af .bool x2 (fun (b2:Bool)=>BIf (!b2) (CallT PR CW [(.agg (cV a_0 a_1 a_2 a_3 a_4 a_5 a_6 a_7 a_8 a_9 a_10 a_11 a_12))] [.one .tv] a (fun (v1:TV) i=>CallT PR CW [(.agg (cV b_0 b_1 b_2 b_3 b_4 b_5 b_6 b_7 b_8 b_9 b_10 b_11 b_12))] [.one .tv] i (fun (v2:TV) b=>stB (b.push (.cells [.nilFunc]) (some 69)) (.box b.nb 0) [(.func Cg [(.box st.nb 0),(.box (st.push (.cells [.bool exact]) (some 4)).nb 0)])] (fun d=>Ae (Ad d [] (.t (.box b.nb 0)) 0) (fun (v3:TV)=>CallT PR Av [a_11,b_11,v3] [.one .bool] d (fun (b3:Bool) c=>BIf b3 (CallT PR Aw [v1,v2,(.func D3 [(.box b.nb 0)])] [.one .bool] c (fun (b4:Bool) j=>K b4 j)) (K false c))))))) (stB (a.push (.cells [.nilFunc]) (some 69)) (.box a.nb 0) [(.func Cg [(.box st.nb 0),(.box (st.push (.cells [.bool exact]) (some 4)).nb 0)])] (fun e=>Ae (Ad e [] (.t (.box a.nb 0)) 0) (fun (v4:TV)=>CallT PR Av [a_11,b_11,v4] [.one .bool] e (fun (b5:Bool) f=>BIf b5 (CallT PR Aw [a_12,b_12,(.func D3 [(.box a.nb 0)])] [.one .bool] f (fun (b6:Bool) g=>K b6 g)) (K false f)))))))))))))))))):CallT PR EZ [(.agg (cV a_0 a_1 a_2 a_3 a_4 a_5 a_6 a_7 a_8 a_9 a_10 a_11 a_12)),(.agg (cV b_0 b_1 b_2 b_3 b_4 b_5 b_6 b_7 b_8 b_9 b_10 b_11 b_12)),.bool exact,.int .i64 left] [.one .bool] st K:=
 Ag (cfg:=⟨[4,5],[],[]⟩) (h:= .none) mixed (fun _ _=>Tryz.call117 _ _) Tryz.func117 (by kernel_rfl) (by kernel_rfl) h
theorem Bx (b:Nat) (st:St) (K:B8->St->Prop) (h:Ae (Ad st [] (.t (.box b 1)) 0) (fun (v1:TV)=>Ae (Mo v1) (fun (v2:TV)=>Ae (Ad st [] (.t (.box b 1)) 0) (fun (v3:TV)=>need (isSl v3) (usK 5 v2 (lenS v3:Int) st (fun (s1:B8) a=>K s1 a)))))):CallT PR A0 [(.box b 0)] [.one .str] st K:=
 Ag (cfg:=⟨[],[],[]⟩) (h:= .none) mixed (fun _ _=>Tryz.call123 _ _) Tryz.func123 (by kernel_rfl) (by kernel_rfl) h
theorem Og (v_0:Int) (d:Bool) (e:Bool) (v_3:B8) (v_4:Int) (v_5:Int) (v_6:Int) (v_7:Int) (v_8:Int) (v_9:B8) (v_10:TV) (v_11:TV) (v_12:TV) (depth:Int) (n:Nat) (st:St) (K:Int->St->Prop) (h:Ae (Ad st [] (.t (.box n 0)) 0) (fun (x1:TV)=>Af (.int .i64) x1 (fun (n1:Int)=>stB st (.box n 0) [(.int .i64 (i64.wrap (n1+(1:Int))))] (fun q=>∃(C1:Int->TV->V13 (St->Prop)),(BId ((48:Int)<depth) (K 9 q) (Ae (Ad q [] (.t (.box n 0)) 0) (fun (x2:TV)=>Af (.int .i64) x2 (fun (n2:Int)=>BId ((65536:Int)<n2) (K 10 q) (∃(C2:Bool->Int->TV->V13 (St->Prop)),(BId (v_0<0) (C2 true depth ((.box n 0)) v_0 d e v_3 v_4 v_5 v_6 v_7 v_8 v_9 v_10 v_11 v_12 q) (BId ((8:Int)<=v_0) (C2 true depth ((.box n 0)) v_0 d e v_3 v_4 v_5 v_6 v_7 v_8 v_9 v_10 v_11 v_12 q) (CallT PR Gc [(.agg (cV v_0 d e v_3 v_4 v_5 v_6 v_7 v_8 v_9 v_10 v_11 v_12))] [.one .bool] q (fun (b1:Bool) g9=>C2 b1 depth ((.box n 0)) v_0 d e v_3 v_4 v_5 v_6 v_7 v_8 v_9 v_10 v_11 v_12 g9))))/\∀f8 a m n3 b2 b3 s1 n4 n5 n6 n7 n8 s2 v1 v2 v3 u,C2 f8 a m n3 b2 b3 s1 n4 n5 n6 n7 n8 s2 v1 v2 v3 u->(BIf f8 (K 6 u) (∃(C3:Bool->Int->TV->V13 (St->Prop)),(BId (n3=2) (CallT PR DI [(.agg [.bool b3,.str s1,.int .i64 n4])] [.one .bool] u (fun (b4:Bool) c5=>BIf (!b4) (C3 true a m n3 b2 b3 s1 n4 n5 n6 n7 n8 s2 v1 v2 v3 c5) (BId (n3=3) (CallT PR CX [(.agg [.int .i64 n5,.int .i64 n6,.int .i64 n7,.int .i64 n8])] [.one .bool] c5 (fun (b5:Bool) g7=>C3 ((!b5)) a m n3 b2 b3 s1 n4 n5 n6 n7 n8 s2 v1 v2 v3 g7)) (C3 false a m n3 b2 b3 s1 n4 n5 n6 n7 n8 s2 v1 v2 v3 c5)))) (BId (n3=3) (CallT PR CX [(.agg [.int .i64 n5,.int .i64 n6,.int .i64 n7,.int .i64 n8])] [.one .bool] u (fun (b6:Bool) g8=>C3 ((!b6)) a m n3 b2 b3 s1 n4 n5 n6 n7 n8 s2 v1 v2 v3 g8)) (C3 false a m n3 b2 b3 s1 n4 n5 n6 n7 n8 s2 v1 v2 v3 u)))/\∀d7 f b0 n9 b7 b8 s3 c6 c3 c2 c4 c1 s4 v4 v5 v6 o,C3 d7 f b0 n9 b7 b8 s3 c6 c3 c2 c4 c1 s4 v4 v5 v6 o->(BIf d7 (K 2 o) (BId (n9=4) (CallT PR Ew [.str s4] [.one .bool] o (fun (b9:Bool) a9=>BIf (!b9) (K 5 a9) (BId ((65536:Int)<(s4.length:Int)) (K 10 a9) (need (isSl v4) (BId ((65536:Int)<(lenS v4:Int)) (K 10 a9) (C1 f b0 n9 b7 b8 s3 c6 c3 c2 c4 c1 s4 v4 v5 v6 a9)))))) (BId ((65536:Int)<(s4.length:Int)) (K 10 o) (need (isSl v4) (BId ((65536:Int)<(lenS v4:Int)) (K 10 o) (C1 f b0 n9 b7 b8 s3 c6 c3 c2 c4 c1 s4 v4 v5 v6 o)))))))))))))/\∀r g0 e2 e0 d6 s5 e8 d9 e7 c9 f2 s6 v7 v8 v9 d2,C1 r g0 e2 e0 d6 s5 e8 d9 e7 c9 f2 s6 v7 v8 v9 d2->(CallT PR G2 [v9] [.one (.int .i64)] d2 (fun (c8:Int) c0=>BId (c8≠0) (K c8 c0) (need (isSl v8) (∃(I1:Int->Int->TV->TV->Int->V13 (St->Prop)) (M1:Int->Int->TV->TV->Int->V13 (St->Nat)),(I1 0 r g0 v8 ((lenS v8:Int)) e2 e0 d6 s5 e8 d9 e7 c9 f2 s6 v7 v8 v9 c0)/\∀g b p d w a2 a8 a1 s7 a3 a7 a6 z a4 s8 a5 a0 k j,I1 g b p d w a2 a8 a1 s7 a3 a7 a6 z a4 s8 a5 a0 k j->(BId (g<w) (((0<=g/\g<(lenZ 13 d:Int))/\Ae ((Ah j [] (.t (ixT 13 d g.toNat)) 0 13).map TV.agg) (fun (x3:TV)=>AM [.int .i64,.bool,.bool,.str,.int .i64,.int .i64,.int .i64,.int .i64,.int .i64,.str,.tv,.tv,.tv] x3 (fun (d0:Int) (f3 f9:Bool) (s9:B8) (e1 e9 f1 g4 e3:Int) (g1:B8) (g2 e4 f7:TV)=>need (List.all (cV d0 f3 f9 s9 e1 e9 f1 g4 e3 g1 g2 e4 f7) As) (CallT PR Dt [(.agg (cV d0 f3 f9 s9 e1 e9 f1 g4 e3 g1 g2 e4 f7)),(.int .i64 (i64.wrap (b+(1:Int)))),p] [.one (.int .i64)] j (fun (g6:Int) x=>BId (g6≠0) (K g6 x) ((I1 ((i64.wrap (g+(1:Int)))) b p d w a2 a8 a1 s7 a3 a7 a6 z a4 s8 a5 a0 k x/\M1 ((i64.wrap (g+(1:Int)))) b p d w a2 a8 a1 s7 a3 a7 a6 z a4 s8 a5 a0 k x<M1 g b p d w a2 a8 a1 s7 a3 a7 a6 z a4 s8 a5 a0 k j)))))))) (need (isSl k) (∃(I2:Int->Int->TV->TV->Int->St->Prop) (M2:Int->Int->TV->TV->Int->St->Nat),(I2 0 b p k ((lenS k:Int)) j)/\∀i c v e s l,I2 i c v e s l->(BId (i<s) (((0<=i/\i<(lenZ 14 e:Int))/\Ae ((Ah l [] (.t (ixT 14 e i.toNat)) 0 14).map TV.agg) (fun (x4:TV)=>AM [.str,.int .i64,.bool,.bool,.str,.int .i64,.int .i64,.int .i64,.int .i64,.int .i64,.str,.tv,.tv,.tv] x4 (fun (h0:B8) (e5:Int) (g5 g3:Bool) (f6:B8) (d8 f5 d4 e6 d5:Int) (d3:B8) (c7 d1 f0:TV)=>need (List.all [.str h0,.int .i64 e5,.bool g5,.bool g3,.str f6,.int .i64 d8,.int .i64 f5,.int .i64 d4,.int .i64 e6,.int .i64 d5,.str d3,c7,d1,f0] As) (CallT PR Dt [(.agg (cV e5 g5 g3 f6 d8 f5 d4 e6 d5 d3 c7 d1 f0)),(.int .i64 (i64.wrap (c+(1:Int)))),v] [.one (.int .i64)] l (fun (f4:Int) y=>BId (f4≠0) (K f4 y) ((I2 ((i64.wrap (i+(1:Int)))) c v e s y/\M2 ((i64.wrap (i+(1:Int)))) c v e s y<M2 i c v e s l)))))))) (K 0 l))))))))))))):CallT PR Dt [(.agg (cV v_0 d e v_3 v_4 v_5 v_6 v_7 v_8 v_9 v_10 v_11 v_12)),.int .i64 depth,(.box n 0)] [.one (.int .i64)] st K:=
 Ag (cfg:=⟨[3,9,12],[],[]⟩) (h:=(.seq .none (.seq .none (.cut ⟨[(1,.int .i64),(2,.tv)],[(3,0,0)],[(0,13)],[(0,0,.int .i64),(0,1,.bool),(0,2,.bool),(0,3,.str),(0,4,.int .i64),(0,5,.int .i64),(0,6,.int .i64),(0,7,.int .i64),(0,8,.int .i64),(0,9,.str),(0,10,.tv),(0,11,.tv),(0,12,.tv)]⟩ (.block (.seq .none (.cond .none (.seq .none (.cond .none (.cut ⟨[(27,.bool),(1,.int .i64),(2,.tv)],[(3,0,0)],[(0,13)],[(0,0,.int .i64),(0,1,.bool),(0,2,.bool),(0,3,.str),(0,4,.int .i64),(0,5,.int .i64),(0,6,.int .i64),(0,7,.int .i64),(0,8,.int .i64),(0,9,.str),(0,10,.tv),(0,11,.tv),(0,12,.tv)]⟩ .none (.cond .none (.cut ⟨[(40,.bool),(1,.int .i64),(2,.tv)],[(3,0,0)],[(0,13)],[(0,0,.int .i64),(0,1,.bool),(0,2,.bool),(0,3,.str),(0,4,.int .i64),(0,5,.int .i64),(0,6,.int .i64),(0,7,.int .i64),(0,8,.int .i64),(0,9,.str),(0,10,.tv),(0,11,.tv),(0,12,.tv)]⟩ .none .none)))))))) (.seq .none (.seq (.seq .none (.block (.loop ⟨[(91,.int .i64),(1,.int .i64),(2,.tv),(89,.tv),(90,.int .i64)],[(3,0,0)],[(0,13)],[(0,0,.int .i64),(0,1,.bool),(0,2,.bool),(0,3,.str),(0,4,.int .i64),(0,5,.int .i64),(0,6,.int .i64),(0,7,.int .i64),(0,8,.int .i64),(0,9,.str),(0,10,.tv),(0,11,.tv),(0,12,.tv)]⟩ .none))) (.seq (.seq .none (.block (.loop ⟨[(107,.int .i64),(1,.int .i64),(2,.tv),(105,.tv),(106,.int .i64)],[],[],[]⟩ .none))) .none))))))) mixed (fun _ _=>Tryz.call124 _ _) Tryz.func124 (by kernel_rfl) (by kernel_rfl) h
theorem Qf (v_0:Int) (b:Bool) (v_2:Bool) (v_3:B8) (v_4:Int) (v_5:Int) (v_6:Int) (v_7:Int) (v_8:Int) (v_9:B8) (v_10:TV) (v_11:TV) (v_12:TV) (left:Int) (st:St) (K:Int->St->Prop) (h:BId (left<=1) (K 1 st) (CallT PR E0 [(.agg (cV v_0 b v_2 v_3 v_4 v_5 v_6 v_7 v_8 v_9 v_10 v_11 v_12))] [.one .tv] st (fun (v1:TV) i=>need (isSl v1) (∃(I1:Int->Int->Int->TV->Int->St->Prop) (M1:Int->Int->Int->TV->Int->St->Nat),(I1 1 0 left v1 ((lenS v1:Int)) i)/\∀e c a b d f,I1 e c a b d f->(BId (c<d) (((0<=c/\c<(lenZ 13 b:Int))/\Ae ((Ah f [] (.t (ixT 13 b c.toNat)) 0 13).map TV.agg) (fun (x1:TV)=>AM [.int .i64,.bool,.bool,.str,.int .i64,.int .i64,.int .i64,.int .i64,.int .i64,.str,.tv,.tv,.tv] x1 (fun (n1:Int) (b1 b2:Bool) (s1:B8) (n2 n3 n4 n5 n6:Int) (s2:B8) (v2 v3 v4:TV)=>need (List.all (cV n1 b1 b2 s1 n2 n3 n4 n5 n6 s2 v2 v3 v4) As) (CallT PR E3 [(.agg (cV n1 b1 b2 s1 n2 n3 n4 n5 n6 s2 v2 v3 v4)),(.int .i64 (i64.wrap (a-(1:Int))))] [.one (.int .i64)] f (fun (n7:Int) g=>(I1 ((max e (i64.wrap ((1:Int)+n7)))) ((i64.wrap (c+(1:Int)))) a b d g/\M1 ((max e (i64.wrap ((1:Int)+n7)))) ((i64.wrap (c+(1:Int)))) a b d g<M1 e c a b d f))))))) (K e f)))))):CallT PR E3 [(.agg (cV v_0 b v_2 v_3 v_4 v_5 v_6 v_7 v_8 v_9 v_10 v_11 v_12)),.int .i64 left] [.one (.int .i64)] st K:=
 Ag (cfg:=⟨[2,7],[],[]⟩) (h:=(.seq .none (.seq .none (.seq .none (.seq (.seq .none (.block (.loop ⟨[(5,.int .i64),(14,.int .i64),(1,.int .i64),(12,.tv),(13,.int .i64)],[],[],[]⟩ .none))) .none))))) mixed (fun _ _=>Tryz.call125 _ _) Tryz.func125 (by kernel_rfl) (by kernel_rfl) h
theorem Qb (v_0:Int) (b:Bool) (v_2:Bool) (v_3:B8) (v_4:Int) (v_5:Int) (v_6:Int) (v_7:Int) (v_8:Int) (v_9:B8) (v_10:TV) (v_11:TV) (v_12:TV) (left:Int) (st:St) (K:Int->St->Prop) (h:BId (left<1) (K 1 st) (CallT PR E0 [(.agg (cV v_0 b v_2 v_3 v_4 v_5 v_6 v_7 v_8 v_9 v_10 v_11 v_12))] [.one .tv] st (fun (v1:TV) i=>need (isSl v1) (∃(I1:Int->Int->Int->TV->Int->St->Prop) (M1:Int->Int->Int->TV->Int->St->Nat),(I1 1 0 left v1 ((lenS v1:Int)) i)/\∀e c a b d f,I1 e c a b d f->(BId (c<d) (((0<=c/\c<(lenZ 13 b:Int))/\Ae ((Ah f [] (.t (ixT 13 b c.toNat)) 0 13).map TV.agg) (fun (x1:TV)=>AM [.int .i64,.bool,.bool,.str,.int .i64,.int .i64,.int .i64,.int .i64,.int .i64,.str,.tv,.tv,.tv] x1 (fun (n1:Int) (b1 b2:Bool) (s1:B8) (n2 n3 n4 n5 n6:Int) (s2:B8) (v2 v3 v4:TV)=>need (List.all (cV n1 b1 b2 s1 n2 n3 n4 n5 n6 s2 v2 v3 v4) As) (CallT PR EY [(.agg (cV n1 b1 b2 s1 n2 n3 n4 n5 n6 s2 v2 v3 v4)),(.int .i64 (i64.wrap (a-(1:Int))))] [.one (.int .i64)] f (fun (n7:Int) g=>(I1 ((i64.wrap (e+n7))) ((i64.wrap (c+(1:Int)))) a b d g/\M1 ((i64.wrap (e+n7))) ((i64.wrap (c+(1:Int)))) a b d g<M1 e c a b d f))))))) (K e f)))))):CallT PR EY [(.agg (cV v_0 b v_2 v_3 v_4 v_5 v_6 v_7 v_8 v_9 v_10 v_11 v_12)),.int .i64 left] [.one (.int .i64)] st K:=
 Ag (cfg:=⟨[2,7],[],[]⟩) (h:=(.seq .none (.seq .none (.seq .none (.seq (.seq .none (.block (.loop ⟨[(5,.int .i64),(14,.int .i64),(1,.int .i64),(12,.tv),(13,.int .i64)],[],[],[]⟩ .none))) .none))))) mixed (fun _ _=>Tryz.call126 _ _) Tryz.func126 (by kernel_rfl) (by kernel_rfl) h
theorem Ql (s:B8) (atx:Int) (st:St) (K:Int->Int->St->Prop) (h:BId (atx<0) (K 0 0 st) (BId ((s.length:Int)<=atx) (K 0 0 st) (((0<=atx/\atx<(s.length:Int))/\CallT PR Jr [(.int .u8 ((List.getD s atx.toNat 0).toNat:Int))] [.one (.int .i64),.one (.int .i64)] st (fun (n1 n2:Int) g=>BId (n1=0) (K 0 0 g) (BId ((i64.wrap ((s.length:Int)-atx))<n1) (K 0 0 g) (∃(I1:Int->Int->B8->Int->Int->St->Prop) (M1:Int->Int->B8->Int->Int->St->Nat),(I1 n2 1 s atx n1 g)/\∀d b c a e f,I1 d b c a e f->(BId (b<e) (((0<=(i64.wrap (a+b))/\(i64.wrap (a+b))<(c.length:Int))/\BId ((C0 .and .u8 ((List.getD c (Int.toNat (i64.wrap (a+b))) 0).toNat:Int) (192:Int))≠(128:Int)) (K 0 0 f) ((I1 ((C0 .or .i64 (i64.wrap (d*2^(min (Int.toNat (6:Int)) (IntKind.bits .i64)))) (i64.wrap (C0 .and .u8 ((List.getD c (Int.toNat (i64.wrap (a+b))) 0).toNat:Int) (63:Int))))) ((i64.wrap (b+(1:Int)))) c a e f/\M1 ((C0 .or .i64 (i64.wrap (d*2^(min (Int.toNat (6:Int)) (IntKind.bits .i64)))) (i64.wrap (C0 .and .u8 ((List.getD c (Int.toNat (i64.wrap (a+b))) 0).toNat:Int) (63:Int))))) ((i64.wrap (b+(1:Int)))) c a e f<M1 d b c a e f)))) (CallT PR G5 [.int .i64 d] [.one .bool] f (fun (b1:Bool) i=>BIf (!b1) (K 0 0 i) (CallT PR Ij [.int .i64 d] [.one (.int .i64)] i (fun (n3:Int) j=>BId (n3≠e) (K 0 0 j) (K d e j))))))))))))):CallT PR E7 [.str s,.int .i64 atx] [.one (.int .i64),.one (.int .i64)] st K:=
 Ag (cfg:=⟨[],[],[]⟩) (h:=(.seq .none (.seq .none (.seq .none (.seq .none (.seq (.seq .none (.block (.loop ⟨[(4,.int .i64),(7,.int .i64),(0,.str),(1,.int .i64),(6,.int .i64)],[],[],[]⟩ .none))) .none)))))) mixed (fun _ _=>Tryz.call133 _ _) Tryz.func133 (by kernel_rfl) (by kernel_rfl) h
theorem ID (d_0:Bool) (d_1:B8) (d_2:Int) (st:St) (K:B8->St->Prop) (h:∃(C1:Bool->B8->Int->St->Prop),(BId (d_1=([]:B8)) (K Lg st) (CallT PR DI [(.agg [.bool d_0,.str d_1,.int .i64 d_2])] [.one .bool] st (fun (b1:Bool) s=>BIf (!b1) (K Lg s) (C1 d_0 d_1 d_2 s))))/\∀b2 s1 n1 o,C1 b2 s1 n1 o->(∃(C2:B8->Bool->B8->Int->St->Prop),(BIf b2 (C2 Fc b2 s1 n1 o) (C2 [] b2 s1 n1 o))/\∀p b3 s2 n2 n,C2 p b3 s2 n2 n->(∃(C3:B8->Int->Int->Bool->B8->Int->St->Prop),(∃(C4:Bool->B8->Int->Int->Bool->B8->Int->St->Prop),(BId ((0:Int)<=n2) (C4 ((decide ((i64.wrap ((s2.length:Int)+n2))<=(21:Int)))) p ((s2.length:Int)) ((i64.wrap ((s2.length:Int)+n2))) b3 s2 n2 n) (C4 false p ((s2.length:Int)) ((i64.wrap ((s2.length:Int)+n2))) b3 s2 n2 n))/\∀t c j e b4 s3 n3 f,C4 t c j e b4 s3 n3 f->(BIf t ((c.length+s3.length<=9223372036854775807/\CallT PR Ex [.str Lg,.int .i64 n3] [.one .str] f (fun (s4:B8) z=>(((c++s3)).length+s4.length<=9223372036854775807/\K (((c++s3)++s4)) z)))) (∃(C5:Bool->B8->Int->Int->Bool->B8->Int->St->Prop),(BId (n3<0) (BId ((1:Int)<=e) (C5 ((decide (e<=21))) c j e b4 s3 n3 f) (C5 false c j e b4 s3 n3 f)) (C5 false c j e b4 s3 n3 f))/\∀v b q a b5 s5 n4 i,C5 v b q a b5 s5 n4 i->(BIf v (((0<=a/\a<=(s5.length:Int))/\(b.length+((List.take a.toNat s5)).length<=9223372036854775807/\(((b++(List.take a.toNat s5))).length+J9.length<=9223372036854775807/\((0<=a/\a<=(s5.length:Int))/\((((b++(List.take a.toNat s5))++J9)).length+((List.drop a.toNat s5)).length<=9223372036854775807/\K ((((b++(List.take a.toNat s5))++J9)++(List.drop a.toNat s5))) i)))))) (BId ((-5:Int)<=a) (BId (a<=0) ((b.length+Xo.length<=9223372036854775807/\CallT PR Ex [.str Lg,(.int .i64 (i64.wrap (0-a)))] [.one .str] i (fun (s6:B8) y=>(((b++Xo)).length+s6.length<=9223372036854775807/\((((b++Xo)++s6)).length+s5.length<=9223372036854775807/\K ((((b++Xo)++s6)++s5)) y))))) (C3 b q a b5 s5 n4 i)) (C3 b q a b5 s5 n4 i))))))/\∀g u m b6 s7 n5 r,C3 g u m b6 s7 n5 r->(((0<=(1:Int)/\(1:Int)<=(s7.length:Int))/\(g.length+((List.take (Int.toNat (1:Int)) s7)).length<=9223372036854775807/\∃(C6:B8->Int->St->Prop),(BId ((1:Int)<u) (((0<=(1:Int)/\(1:Int)<=(s7.length:Int))/\(J9.length+((List.drop (Int.toNat (1:Int)) s7)).length<=9223372036854775807/\(((g++(List.take (Int.toNat (1:Int)) s7))).length+((J9++(List.drop (Int.toNat (1:Int)) s7))).length<=9223372036854775807/\C6 (((g++(List.take (Int.toNat (1:Int)) s7))++(J9++(List.drop (Int.toNat (1:Int)) s7)))) m r)))) (C6 ((g++(List.take (Int.toNat (1:Int)) s7))) m r))/\∀d k l,C6 d k l->(BId (k<1) ((d.length+ZY.length<=9223372036854775807/\CallT PR DH [(.int .i64 (i64.wrap ((1:Int)-k)))] [.one .str] l (fun (s8:B8) x=>(((d++ZY)).length+s8.length<=9223372036854775807/\K (((d++ZY)++s8)) x)))) ((d.length+ZZ.length<=9223372036854775807/\CallT PR DH [(.int .i64 (i64.wrap (k-(1:Int))))] [.one .str] l (fun (s9:B8) w=>(((d++ZZ)).length+s9.length<=9223372036854775807/\K (((d++ZZ)++s9)) w))))))))))):CallT PR D5 [(.agg [.bool d_0,.str d_1,.int .i64 d_2])] [.one .str] st K:=
 Ag (cfg:=⟨[1],[],[]⟩) (h:=(.seq .none (.cut ⟨[],[(1,0,0)],[(0,3)],[(0,0,.bool),(0,1,.str),(0,2,.int .i64)]⟩ .none (.seq .none (.cut ⟨[(3,.str)],[(1,0,0)],[(0,3)],[(0,0,.bool),(0,1,.str),(0,2,.int .i64)]⟩ .none (.seq .none (.seq .none (.cut ⟨[(3,.str),(4,.int .i64),(5,.int .i64)],[(1,0,0)],[(0,3)],[(0,0,.bool),(0,1,.str),(0,2,.int .i64)]⟩ (.block (.cut ⟨[(23,.bool),(3,.str),(4,.int .i64),(5,.int .i64)],[(1,0,0)],[(0,3)],[(0,0,.bool),(0,1,.str),(0,2,.int .i64)]⟩ .none (.cond .none (.cut ⟨[(39,.bool),(3,.str),(4,.int .i64),(5,.int .i64)],[(1,0,0)],[(0,3)],[(0,0,.bool),(0,1,.str),(0,2,.int .i64)]⟩ .none .none)))) (.seq .none (.cut ⟨[(3,.str),(5,.int .i64)],[],[],[]⟩ .none .none)))))))))) mixed (fun _ _=>Tryz.call143 _ _) Tryz.func143 (by kernel_rfl) (by kernel_rfl) h
theorem Oj (t_0:Int) (t_1:Int) (t_2:Int) (t_3:Int) (st:St) (K:B8->St->Prop) (h:CallT PR CX [(.agg [.int .i64 t_0,.int .i64 t_1,.int .i64 t_2,.int .i64 t_3])] [.one .bool] st (fun (b1:Bool) a=>BIf (!b1) (K [] a) (BId (t_0=1) (CallT PR BD [.int .i64 t_1] [.one .str] a (fun (s1:B8) g=>K s1 g)) (BId (t_0=2) (CallT PR Br [.int .i64 t_2] [.one .str] a (fun (s2:B8) b=>K s2 b)) (BId (t_0=3) (CallT PR BD [.int .i64 t_1] [.one .str] a (fun (s3:B8) d=>(s3.length+OH.length<=9223372036854775807/\CallT PR Br [.int .i64 t_2] [.one .str] d (fun (s4:B8) c=>(((s3++OH)).length+s4.length<=9223372036854775807/\K (((s3++OH)++s4)) c))))) (CallT PR BD [.int .i64 t_1] [.one .str] a (fun (s5:B8) i=>(s5.length+OH.length<=9223372036854775807/\CallT PR Br [.int .i64 t_2] [.one .str] i (fun (s6:B8) e=>(((s5++OH)).length+s6.length<=9223372036854775807/\CallT PR Dv [.int .i64 t_3] [.one .str] e (fun (s7:B8) f=>((((s5++OH)++s6)).length+s7.length<=9223372036854775807/\K ((((s5++OH)++s6)++s7)) f)))))))))))):CallT PR Ey [(.agg [.int .i64 t_0,.int .i64 t_1,.int .i64 t_2,.int .i64 t_3])] [.one .str] st K:=
 Ag (cfg:=⟨[1],[],[]⟩) (h:= .none) mixed (fun _ _=>Tryz.call144 _ _) Tryz.func144 (by kernel_rfl) (by kernel_rfl) h
theorem IW (s:B8) (prefixx:B8) (st:St) (K:Bool->St->Prop) (h:CallT PR DY [.str s,.str prefixx] [.one .bool] st (fun (b1:Bool) a=>K b1 a)):CallT PR A6 [.str s,.str prefixx] [.one .bool] st K:=
 Ag (cfg:=⟨[],[],[]⟩) (h:= .none) mixed (fun _ _=>Tryz.call156 _ _) Tryz.func156 (by kernel_rfl) (by kernel_rfl) h
theorem Ot (s:B8) (st:St) (K:Int->St->Prop) (h:∃(I1:Int->B8->St->Prop) (M1:Int->B8->St->Nat),(I1 0 s st)/\∀a b c,I1 a b c->(BId (a<(b.length:Int)) (((0<=a/\a<(b.length:Int))/\BId ((48:Int)<=((List.getD b a.toNat 0).toNat:Int)) (((0<=a/\a<(b.length:Int))/\BId (((List.getD b a.toNat 0).toNat:Int)<=(57:Int)) ((I1 ((i64.wrap (a+(1:Int)))) b c/\M1 ((i64.wrap (a+(1:Int)))) b c<M1 a b c)) (K a c))) (K a c))) (K a c))):CallT PR Dw [.str s] [.one (.int .i64)] st K:=
 Ag (cfg:=⟨[],[],[]⟩) (h:=(.seq .none (.seq .none (.seq (.block (.loop ⟨[(3,.int .i64),(0,.str)],[],[],[]⟩ .none)) .none)))) mixed (fun _ _=>Tryz.call157 _ _) Tryz.func157 (by kernel_rfl) (by kernel_rfl) h
theorem L6 (exp:Int) (less:Bool) (byx:B8) (st:St) (K:Int->St->Prop) (h:BId ((byx.length:Int)<=(12:Int)) (CallT PR Fv [.str byx] [.one (.int .i64),.one (.int .i64)] st (fun (n1 n2:Int) a=>BIf less (K ((i64.wrap (exp-n1))) a) (K ((i64.wrap (exp+n1))) a))) (BIf less (K ((i64.wrap (exp-(1099511627776:Int)))) st) (K ((i64.wrap (exp+(1099511627776:Int)))) st))):CallT PR ET [.int .i64 exp,.bool less,.str byx] [.one (.int .i64)] st K:=
 Ag (cfg:=⟨[],[],[]⟩) (h:= .none) mixed (fun _ _=>Tryz.call158 _ _) Tryz.func158 (by kernel_rfl) (by kernel_rfl) h
theorem NJ (neg:Bool) (s:B8) (exp:Int) (st:St) (K:Bool->B8->Int->Int->St->Prop) (h:∃(I1:Int->Bool->B8->Int->Int->Bool->B8->Int->St->Prop) (M1:Int->Bool->B8->Int->Int->Bool->B8->Int->St->Nat),(I1 0 neg s exp ((s.length:Int)) false [] 0 st)/\∀a d c b f b1 s1 n1 e,I1 a d c b f b1 s1 n1 e->(BId (a<f) (((0<=a/\a<(c.length:Int))/\BId (((List.getD c a.toNat 0).toNat:Int)<(48:Int)) (K false [] 0 3 e) (((0<=a/\a<(c.length:Int))/\BId ((57:Int)<((List.getD c a.toNat 0).toNat:Int)) (K false [] 0 3 e) ((I1 ((i64.wrap (a+(1:Int)))) d c b f b1 s1 n1 e/\M1 ((i64.wrap (a+(1:Int)))) d c b f b1 s1 n1 e<M1 a d c b f b1 s1 n1 e)))))) (CallT PR DM [.str c,.str Lg] [.one .str] e (fun (s2:B8) i=>CallT PR Fz [.bool d,.str s2,.int .i64 b] [.agg [.bool,.str,.int .i64],.one (.int .i64)] i (fun (b2:Bool) (s3:B8) (n2 n3:Int) g=>K b2 s3 n2 n3 g))))):CallT PR CZ [.bool neg,.str s,.int .i64 exp] [.agg [.bool,.str,.int .i64],.one (.int .i64)] st K:=
 Ag (cfg:=⟨[6],[],[]⟩) (h:=(.seq .none (.seq (.seq .none (.block (.loop ⟨[(11,.int .i64),(0,.bool),(1,.str),(2,.int .i64),(10,.int .i64)],[(6,0,0)],[(0,3)],[(0,0,.bool),(0,1,.str),(0,2,.int .i64)]⟩ .none))) .none))) mixed (fun _ _=>Tryz.call160 _ _) Tryz.func160 (by kernel_rfl) (by kernel_rfl) h
theorem II (r:Nat) (f:Nat) (st:St) (K:Int->St->Prop) (h:Ae (Ad st [] (.t (.box r 0)) 0) (fun (x1:TV)=>Af .str x1 (fun (s1:B8)=>BId ((2:Int)<(s1.length:Int)) (Ae (Ad st [] (.t (.box r 0)) 0) (fun (x2:TV)=>Af .str x2 (fun (s2:B8)=>((0<=(2:Int)/\(2:Int)<(s2.length:Int))/\BId (((List.getD s2 (Int.toNat (2:Int)) 0).toNat:Int)=(58:Int)) (CallT PR Bp [(.box r 0),(.box f 0)] [] st (fun (j:St)=>K 2 j)) (CallT PR Cb [(.box r 0),(.box f 0)] [] st (fun (c:St)=>Ae (Ad c [] (.t (.box r 0)) 0) (fun (x3:TV)=>Af .str x3 (fun (s3:B8)=>BId (s3=([]:B8)) (K 1 c) (CallT PR AE [(.box r 0),.str str25] [.one (.int .u8)] c (fun (n1:Int) g=>CallT PR Bp [(.box r 0),(.box f 0)] [] g (fun (a:St)=>Ae (Ad a [] (.t (.box r 0)) 0) (fun (x4:TV)=>Af .str x4 (fun (s4:B8)=>BId (s4=([]:B8)) (K 3 a) (CallT PR BP [(.box r 0),(.box f 0)] [] a (fun (i:St)=>K 4 i))))))))))))))) (CallT PR Cb [(.box r 0),(.box f 0)] [] st (fun (d:St)=>Ae (Ad d [] (.t (.box r 0)) 0) (fun (x5:TV)=>Af .str x5 (fun (s5:B8)=>BId (s5=([]:B8)) (K 1 d) (CallT PR AE [(.box r 0),.str str25] [.one (.int .u8)] d (fun (n2:Int) k=>CallT PR Bp [(.box r 0),(.box f 0)] [] k (fun (b:St)=>Ae (Ad b [] (.t (.box r 0)) 0) (fun (x6:TV)=>Af .str x6 (fun (s6:B8)=>BId (s6=([]:B8)) (K 3 b) (CallT PR BP [(.box r 0),(.box f 0)] [] b (fun (e:St)=>K 4 e)))))))))))))):CallT PR Db [(.box r 0),(.box f 0)] [.one (.int .i64)] st K:=
 Ag (cfg:=⟨[],[],[]⟩) (h:= .none) mixed (fun _ _=>Tryz.call161 _ _) Tryz.func161 (by kernel_rfl) (by kernel_rfl) h
theorem NK (year:Int) (month:Int) (day:Int) (st:St) (K:Int->Int->St->Prop) (h:BId (day<1) (K 0 2 st) (CallT PR AY [.int .i64 year,.int .i64 month] [.one (.int .i64)] st (fun (n1:Int) g=>BId (n1<day) (K 0 2 g) (CallT PR BQ [.int .i64 year] [.one (.int .i64)] g (fun (n2:Int) i=>∃(I1:Int->Int->Int->Int->St->Prop) (M1:Int->Int->Int->Int->St->Nat),(I1 ((i64.wrap ((i64.wrap (n2+day))-(1:Int)))) 1 year month i)/\∀d c b a e,I1 d c b a e->(BId (c<a) (CallT PR AY [.int .i64 b,.int .i64 c] [.one (.int .i64)] e (fun (n3:Int) f=>(I1 ((i64.wrap (d+n3))) ((i64.wrap (c+(1:Int)))) b a f/\M1 ((i64.wrap (d+n3))) ((i64.wrap (c+(1:Int)))) b a f<M1 d c b a e))) (K d 0 e))))))):CallT PR FA [.int .i64 year,.int .i64 month,.int .i64 day] [.one (.int .i64),.one (.int .i64)] st K:=
 Ag (cfg:=⟨[],[],[]⟩) (h:=(.seq .none (.seq .none (.seq .none (.seq (.seq .none (.block (.loop ⟨[(8,.int .i64),(9,.int .i64),(0,.int .i64),(1,.int .i64)],[],[],[]⟩ .none))) .none))))) mixed (fun _ _=>Tryz.call162 _ _) Tryz.func162 (by kernel_rfl) (by kernel_rfl) h
theorem RY (s:B8) (st:St) (K:Bool->St->Prop) (h:CallT PR KL [.str s] [.one (.int .i64),.one (.int .i64)] st (fun (n1 n2:Int) a=>K ((decide (n2=0))) a)):CallT PR Ew [.str s] [.one .bool] st K:=
 Ag (cfg:=⟨[],[],[]⟩) (h:= .none) mixed (fun _ _=>Tryz.call179 _ _) Tryz.func179 (by kernel_rfl) (by kernel_rfl) h
theorem Om (v_0:Int) (b:Bool) (w:Bool) (s:B8) (q:Int) (n:Int) (u:Int) (l:Int) (r:Int) (x:B8) (v_10:TV) (v_11:TV) (v_12:TV) (d_0:Int) (d_1:Int) (d_2:Bool) (d_3:Bool) (st:St) (K:Bool->St->Prop) (h:BId (v_0≠6) (K false st) (need (isSl v_11) (∃(I1:Int->TV->Int->V13 (Int->Int->Bool->Bool->St->Prop)) (M1:Int->TV->Int->V13 (Int->Int->Bool->Bool->St->Nat)),(I1 0 v_11 ((lenS v_11:Int)) v_0 b w s q n u l r x v_10 v_11 v_12 d_0 d_1 d_2 d_3 st)/\∀c b d n1 b1 b2 s1 n2 n3 n4 n5 n6 s2 v1 v2 v3 n7 n8 b3 b4 a,I1 c b d n1 b1 b2 s1 n2 n3 n4 n5 n6 s2 v1 v2 v3 n7 n8 b3 b4 a->(BId (c<d) (((0<=c/\c<(lenZ 13 b:Int))/\Ae ((Ah a [] (.t (ixT 13 b c.toNat)) 0 13).map TV.agg) (fun (x1:TV)=>AM [.int .i64,.bool,.bool,.str,.int .i64,.int .i64,.int .i64,.int .i64,.int .i64,.str,.tv,.tv,.tv] x1 (fun (n9:Int) (b5 b6:Bool) (s3:B8) (p3 m1 k6 m6 k4:Int) (s4:B8) (v4 v5 v6:TV)=>need (List.all (cV n9 b5 b6 s3 p3 m1 k6 m6 k4 s4 v4 v5 v6) As) (((0<=(0:Int)/\(0:Int)<(lenZ 13 v2:Int))/\Ae ((Ah a [] (.t (ixT 13 v2 (Int.toNat (0:Int)))) 0 13).map TV.agg) (fun (x2:TV)=>AM [.int .i64,.bool,.bool,.str,.int .i64,.int .i64,.int .i64,.int .i64,.int .i64,.str,.tv,.tv,.tv] x2 (fun (i8:Int) (b7 b8:Bool) (s5:B8) (j0 i6 i9 i5 j1:Int) (s6:B8) (v7 v8 v9:TV)=>need (List.all (cV i8 b7 b8 s5 j0 i6 i9 i5 j1 s6 v7 v8 v9) As) (BIf (!b3) (BId (n9≠6) (K false a) (need (isSl v5) (BId ((lenS v5:Int)=(0:Int)) (K false a) (need (isSl v5) (need (isSl v8) (BId ((lenS v5:Int)≠(lenS v8:Int)) (K false a) (BIf b3 (BId (n9≠7) (K false a) (need (isSl v6) (BId ((lenS v6:Int)=(0:Int)) (K false a) (need (isSl v6) (need (isSl v9) (BId ((lenS v6:Int)≠(lenS v9:Int)) (K false a) (BIf b3 (CallT PR BV [(.agg (cV i8 b7 b8 s5 j0 i6 i9 i5 j1 s6 v7 v8 v9))] [.one .tv] a (fun (p9:TV) p7=>need (isSl v6) (∃(I2:Int->TV->TV->Int->Int->TV->Int->V13 (Int->Int->Bool->Bool->St->Prop)) (M2:Int->TV->TV->Int->Int->TV->Int->V13 (Int->Int->Bool->Bool->St->Nat)),(I2 0 p9 b d c v6 ((lenS v6:Int)) n1 b1 b2 s1 n2 n3 n4 n5 n6 s2 v1 v2 v3 n7 n8 b3 b4 p7)/\∀a3 g w c0 d7 s i7 c1 b9 e9 s7 f3 g1 h8 h6 c2 s8 c8 h4 h5 g2 c3 e5 i1 m,I2 a3 g w c0 d7 s i7 c1 b9 e9 s7 f3 g1 h8 h6 c2 s8 c8 h4 h5 g2 c3 e5 i1 m->(BId (a3<i7) (((0<=a3/\a3<(lenZ 14 s:Int))/\Ae ((Ah m [] (.t (ixT 14 s a3.toNat)) 0 14).map TV.agg) (fun (x3:TV)=>AM [.str,.int .i64,.bool,.bool,.str,.int .i64,.int .i64,.int .i64,.int .i64,.int .i64,.str,.tv,.tv,.tv] x3 (fun (s9:B8) (m5:Int) (l6 o7:Bool) (q0:B8) (o3 o6 q2 m9 q6:Int) (q1:B8) (n0 p6 j5:TV)=>need (List.all [.str s9,.int .i64 m5,.bool l6,.bool o7,.str q0,.int .i64 o3,.int .i64 o6,.int .i64 q2,.int .i64 m9,.int .i64 q6,.str q1,n0,p6,j5] As) (Ae (Es m g) (fun (es1:List (B8×TV))=>Af (.int .i64) (F7 (.int .i64 0) (BR s9 es1)) (fun (r2:Int)=>BIf (!(BR s9 es1).isSome) (K false m) ((I2 ((i64.wrap (a3+(1:Int)))) g w c0 d7 s i7 c1 b9 e9 s7 f3 g1 h8 h6 c2 s8 c8 h4 h5 g2 c3 e5 i1 m/\M2 ((i64.wrap (a3+(1:Int)))) g w c0 d7 s i7 c1 b9 e9 s7 f3 g1 h8 h6 c2 s8 c8 h4 h5 g2 c3 e5 i1 m<M2 a3 g w c0 d7 s i7 c1 b9 e9 s7 f3 g1 h8 h6 c2 s8 c8 h4 h5 g2 c3 e5 i1 m))))))))) ((I1 ((i64.wrap (d7+(1:Int)))) w c0 c1 b9 e9 s7 f3 g1 h8 h6 c2 s8 c8 h4 h5 g2 c3 e5 i1 m/\M1 ((i64.wrap (d7+(1:Int)))) w c0 c1 b9 e9 s7 f3 g1 h8 h6 c2 s8 c8 h4 h5 g2 c3 e5 i1 m<M1 c b d n1 b1 b2 s1 n2 n3 n4 n5 n6 s2 v1 v2 v3 n7 n8 b3 b4 a)))))) ((I1 ((i64.wrap (c+(1:Int)))) b d n1 b1 b2 s1 n2 n3 n4 n5 n6 s2 v1 v2 v3 n7 n8 b3 b4 a/\M1 ((i64.wrap (c+(1:Int)))) b d n1 b1 b2 s1 n2 n3 n4 n5 n6 s2 v1 v2 v3 n7 n8 b3 b4 a<M1 c b d n1 b1 b2 s1 n2 n3 n4 n5 n6 s2 v1 v2 v3 n7 n8 b3 b4 a))))))))) (BIf b3 (CallT PR BV [(.agg (cV i8 b7 b8 s5 j0 i6 i9 i5 j1 s6 v7 v8 v9))] [.one .tv] a (fun (k5:TV) o1=>need (isSl v6) (∃(I3:Int->TV->TV->Int->Int->TV->Int->V13 (Int->Int->Bool->Bool->St->Prop)) (M3:Int->TV->TV->Int->Int->TV->Int->V13 (Int->Int->Bool->Bool->St->Nat)),(I3 0 k5 b d c v6 ((lenS v6:Int)) n1 b1 b2 s1 n2 n3 n4 n5 n6 s2 v1 v2 v3 n7 n8 b3 b4 o1)/\∀a2 e q d6 a8 n a5 e8 g9 i2 g7 g5 d9 f5 e2 g4 d8 f7 g6 d2 f1 a9 h7 h9 v,I3 a2 e q d6 a8 n a5 e8 g9 i2 g7 g5 d9 f5 e2 g4 d8 f7 g6 d2 f1 a9 h7 h9 v->(BId (a2<a5) (((0<=a2/\a2<(lenZ 14 n:Int))/\Ae ((Ah v [] (.t (ixT 14 n a2.toNat)) 0 14).map TV.agg) (fun (x4:TV)=>AM [.str,.int .i64,.bool,.bool,.str,.int .i64,.int .i64,.int .i64,.int .i64,.int .i64,.str,.tv,.tv,.tv] x4 (fun (j3:B8) (m2:Int) (o8 o2:Bool) (l1:B8) (l7 l5 k0 l3 k3:Int) (m0:B8) (o0 j9 o4:TV)=>need (List.all [.str j3,.int .i64 m2,.bool o8,.bool o2,.str l1,.int .i64 l7,.int .i64 l5,.int .i64 k0,.int .i64 l3,.int .i64 k3,.str m0,o0,j9,o4] As) (Ae (Es v e) (fun (es2:List (B8×TV))=>Af (.int .i64) (F7 (.int .i64 0) (BR j3 es2)) (fun (r1:Int)=>BIf (!(BR j3 es2).isSome) (K false v) ((I3 ((i64.wrap (a2+(1:Int)))) e q d6 a8 n a5 e8 g9 i2 g7 g5 d9 f5 e2 g4 d8 f7 g6 d2 f1 a9 h7 h9 v/\M3 ((i64.wrap (a2+(1:Int)))) e q d6 a8 n a5 e8 g9 i2 g7 g5 d9 f5 e2 g4 d8 f7 g6 d2 f1 a9 h7 h9 v<M3 a2 e q d6 a8 n a5 e8 g9 i2 g7 g5 d9 f5 e2 g4 d8 f7 g6 d2 f1 a9 h7 h9 v))))))))) ((I1 ((i64.wrap (a8+(1:Int)))) q d6 e8 g9 i2 g7 g5 d9 f5 e2 g4 d8 f7 g6 d2 f1 a9 h7 h9 v/\M1 ((i64.wrap (a8+(1:Int)))) q d6 e8 g9 i2 g7 g5 d9 f5 e2 g4 d8 f7 g6 d2 f1 a9 h7 h9 v<M1 c b d n1 b1 b2 s1 n2 n3 n4 n5 n6 s2 v1 v2 v3 n7 n8 b3 b4 a)))))) ((I1 ((i64.wrap (c+(1:Int)))) b d n1 b1 b2 s1 n2 n3 n4 n5 n6 s2 v1 v2 v3 n7 n8 b3 b4 a/\M1 ((i64.wrap (c+(1:Int)))) b d n1 b1 b2 s1 n2 n3 n4 n5 n6 s2 v1 v2 v3 n7 n8 b3 b4 a<M1 c b d n1 b1 b2 s1 n2 n3 n4 n5 n6 s2 v1 v2 v3 n7 n8 b3 b4 a)))))))))) (BIf b3 (BId (n9≠7) (K false a) (need (isSl v6) (BId ((lenS v6:Int)=(0:Int)) (K false a) (need (isSl v6) (need (isSl v9) (BId ((lenS v6:Int)≠(lenS v9:Int)) (K false a) (BIf b3 (CallT PR BV [(.agg (cV i8 b7 b8 s5 j0 i6 i9 i5 j1 s6 v7 v8 v9))] [.one .tv] a (fun (m3:TV) p1=>need (isSl v6) (∃(I4:Int->TV->TV->Int->Int->TV->Int->V13 (Int->Int->Bool->Bool->St->Prop)) (M4:Int->TV->TV->Int->Int->TV->Int->V13 (Int->Int->Bool->Bool->St->Nat)),(I4 0 m3 b d c v6 ((lenS v6:Int)) n1 b1 b2 s1 n2 n3 n4 n5 n6 s2 v1 v2 v3 n7 n8 b3 b4 p1)/\∀j f u z a0 l a6 c9 d1 e6 c4 f2 a7 e1 e3 f8 f6 h0 g8 c5 d0 e7 i0 f4 o,I4 j f u z a0 l a6 c9 d1 e6 c4 f2 a7 e1 e3 f8 f6 h0 g8 c5 d0 e7 i0 f4 o->(BId (j<a6) (((0<=j/\j<(lenZ 14 l:Int))/\Ae ((Ah o [] (.t (ixT 14 l j.toNat)) 0 14).map TV.agg) (fun (x5:TV)=>AM [.str,.int .i64,.bool,.bool,.str,.int .i64,.int .i64,.int .i64,.int .i64,.int .i64,.str,.tv,.tv,.tv] x5 (fun (j2:B8) (l2:Int) (m8 p0:Bool) (p8:B8) (l0 k2 j7 q8 j8:Int) (l9:B8) (l4 k7 q7:TV)=>need (List.all [.str j2,.int .i64 l2,.bool m8,.bool p0,.str p8,.int .i64 l0,.int .i64 k2,.int .i64 j7,.int .i64 q8,.int .i64 j8,.str l9,l4,k7,q7] As) (Ae (Es o f) (fun (es3:List (B8×TV))=>Af (.int .i64) (F7 (.int .i64 0) (BR j2 es3)) (fun (q9:Int)=>BIf (!(BR j2 es3).isSome) (K false o) ((I4 ((i64.wrap (j+(1:Int)))) f u z a0 l a6 c9 d1 e6 c4 f2 a7 e1 e3 f8 f6 h0 g8 c5 d0 e7 i0 f4 o/\M4 ((i64.wrap (j+(1:Int)))) f u z a0 l a6 c9 d1 e6 c4 f2 a7 e1 e3 f8 f6 h0 g8 c5 d0 e7 i0 f4 o<M4 j f u z a0 l a6 c9 d1 e6 c4 f2 a7 e1 e3 f8 f6 h0 g8 c5 d0 e7 i0 f4 o))))))))) ((I1 ((i64.wrap (a0+(1:Int)))) u z c9 d1 e6 c4 f2 a7 e1 e3 f8 f6 h0 g8 c5 d0 e7 i0 f4 o/\M1 ((i64.wrap (a0+(1:Int)))) u z c9 d1 e6 c4 f2 a7 e1 e3 f8 f6 h0 g8 c5 d0 e7 i0 f4 o<M1 c b d n1 b1 b2 s1 n2 n3 n4 n5 n6 s2 v1 v2 v3 n7 n8 b3 b4 a)))))) ((I1 ((i64.wrap (c+(1:Int)))) b d n1 b1 b2 s1 n2 n3 n4 n5 n6 s2 v1 v2 v3 n7 n8 b3 b4 a/\M1 ((i64.wrap (c+(1:Int)))) b d n1 b1 b2 s1 n2 n3 n4 n5 n6 s2 v1 v2 v3 n7 n8 b3 b4 a<M1 c b d n1 b1 b2 s1 n2 n3 n4 n5 n6 s2 v1 v2 v3 n7 n8 b3 b4 a))))))))) (BIf b3 (CallT PR BV [(.agg (cV i8 b7 b8 s5 j0 i6 i9 i5 j1 s6 v7 v8 v9))] [.one .tv] a (fun (p5:TV) q5=>need (isSl v6) (∃(I5:Int->TV->TV->Int->Int->TV->Int->V13 (Int->Int->Bool->Bool->St->Prop)) (M5:Int->TV->TV->Int->Int->TV->Int->V13 (Int->Int->Bool->Bool->St->Nat)),(I5 0 p5 b d c v6 ((lenS v6:Int)) n1 b1 b2 s1 n2 n3 n4 n5 n6 s2 v1 v2 v3 n7 n8 b3 b4 q5)/\∀k i r a1 y x a4 f0 g0 c6 h2 f9 i3 e4 h1 h3 i4 b0 c7 e0 d5 g3 d4 d3 p,I5 k i r a1 y x a4 f0 g0 c6 h2 f9 i3 e4 h1 h3 i4 b0 c7 e0 d5 g3 d4 d3 p->(BId (k<a4) (((0<=k/\k<(lenZ 14 x:Int))/\Ae ((Ah p [] (.t (ixT 14 x k.toNat)) 0 14).map TV.agg) (fun (x6:TV)=>AM [.str,.int .i64,.bool,.bool,.str,.int .i64,.int .i64,.int .i64,.int .i64,.int .i64,.str,.tv,.tv,.tv] x6 (fun (j4:B8) (m4:Int) (o5 k8:Bool) (k1:B8) (k9 p4 o9 q3 j6:Int) (q4:B8) (l8 m7 p2:TV)=>need (List.all [.str j4,.int .i64 m4,.bool o5,.bool k8,.str k1,.int .i64 k9,.int .i64 p4,.int .i64 o9,.int .i64 q3,.int .i64 j6,.str q4,l8,m7,p2] As) (Ae (Es p i) (fun (es4:List (B8×TV))=>Af (.int .i64) (F7 (.int .i64 0) (BR j4 es4)) (fun (r0:Int)=>BIf (!(BR j4 es4).isSome) (K false p) ((I5 ((i64.wrap (k+(1:Int)))) i r a1 y x a4 f0 g0 c6 h2 f9 i3 e4 h1 h3 i4 b0 c7 e0 d5 g3 d4 d3 p/\M5 ((i64.wrap (k+(1:Int)))) i r a1 y x a4 f0 g0 c6 h2 f9 i3 e4 h1 h3 i4 b0 c7 e0 d5 g3 d4 d3 p<M5 k i r a1 y x a4 f0 g0 c6 h2 f9 i3 e4 h1 h3 i4 b0 c7 e0 d5 g3 d4 d3 p))))))))) ((I1 ((i64.wrap (y+(1:Int)))) r a1 f0 g0 c6 h2 f9 i3 e4 h1 h3 i4 b0 c7 e0 d5 g3 d4 d3 p/\M1 ((i64.wrap (y+(1:Int)))) r a1 f0 g0 c6 h2 f9 i3 e4 h1 h3 i4 b0 c7 e0 d5 g3 d4 d3 p<M1 c b d n1 b1 b2 s1 n2 n3 n4 n5 n6 s2 v1 v2 v3 n7 n8 b3 b4 a)))))) ((I1 ((i64.wrap (c+(1:Int)))) b d n1 b1 b2 s1 n2 n3 n4 n5 n6 s2 v1 v2 v3 n7 n8 b3 b4 a/\M1 ((i64.wrap (c+(1:Int)))) b d n1 b1 b2 s1 n2 n3 n4 n5 n6 s2 v1 v2 v3 n7 n8 b3 b4 a<M1 c b d n1 b1 b2 s1 n2 n3 n4 n5 n6 s2 v1 v2 v3 n7 n8 b3 b4 a))))))))))))) (K true a))))):CallT PR Gg [(.agg (cV v_0 b w s q n u l r x v_10 v_11 v_12)),(.agg [.int .u8 d_0,.int .u8 d_1,.bool d_2,.bool d_3])] [.one .bool] st K:=
 Ag (cfg:=⟨[2,3,6,7,10],[],[]⟩) (h:=(.seq .none (.seq .none (.seq (.seq .none (.block (.loop ⟨[(19,.int .i64),(17,.tv),(18,.int .i64)],[(2,0,0),(3,1,0)],[(0,13),(1,4)],[(0,0,.int .i64),(0,1,.bool),(0,2,.bool),(0,3,.str),(0,4,.int .i64),(0,5,.int .i64),(0,6,.int .i64),(0,7,.int .i64),(0,8,.int .i64),(0,9,.str),(0,10,.tv),(0,11,.tv),(0,12,.tv),(1,0,.int .u8),(1,1,.int .u8),(1,2,.bool),(1,3,.bool)]⟩ (.seq .none (.seq .none (.seq (.block (.seq .none (.seq .none (.seq .none (.seq .none (.cond (.seq .none (.seq .none (.block (.loop ⟨[(81,.int .i64),(8,.tv),(17,.tv),(18,.int .i64),(19,.int .i64),(79,.tv),(80,.int .i64)],[(2,0,0),(3,1,0)],[(0,13),(1,4)],[(0,0,.int .i64),(0,1,.bool),(0,2,.bool),(0,3,.str),(0,4,.int .i64),(0,5,.int .i64),(0,6,.int .i64),(0,7,.int .i64),(0,8,.int .i64),(0,9,.str),(0,10,.tv),(0,11,.tv),(0,12,.tv),(1,0,.int .u8),(1,1,.int .u8),(1,2,.bool),(1,3,.bool)]⟩ .none)))) .none)))))) .none)))))) .none)))) mixed (fun _ _=>Tryz.call182 _ _) Tryz.func182 (by kernel_rfl) (by kernel_rfl) h
theorem R5 (v_0:Int) (m:Bool) (p:Bool) (e:B8) (d:Int) (v_5:Int) (v_6:Int) (v_7:Int) (v_8:Int) (v_9:B8) (v_10:TV) (v_11:TV) (v_12:TV) (d_0:Int) (d_1:Int) (d_2:Bool) (d_3:Bool) (st:St) (K:B8->Int->St->Prop) (h:need (isSl v_11) (BId ((lenS v_11:Int)=(0:Int)) (K [] 0 st) (((0<=(0:Int)/\(0:Int)<(lenZ 13 v_11:Int))/\Ae ((Ah (st.push (.cells [.nilPtr,.nilSlice]) (some 188)) [] (.t (ixT 13 v_11 (Int.toNat (0:Int)))) 0 13).map TV.agg) (fun (x1:TV)=>AM [.int .i64,.bool,.bool,.str,.int .i64,.int .i64,.int .i64,.int .i64,.int .i64,.str,.tv,.tv,.tv] x1 (fun (n1:Int) (b1 b2:Bool) (s1:B8) (n2 n3 n4 n5 n6:Int) (s2:B8) (v1 v2 v3:TV)=>CallT PR BV [(.agg (cV n1 b1 b2 s1 n2 n3 n4 n5 n6 s2 v1 v2 v3))] [.one .tv] (st.push (.cells [.nilPtr,.nilSlice]) (some 188)) (fun (v4:TV) c7=>∃(C1:TV->TV->V13 (Int->Int->Bool->Bool->St->Prop)),(BIf d_2 (((0<=(0:Int)/\(0:Int)<(lenZ 13 v_11:Int))/\need (isPtr (ixT 13 v_11 (Int.toNat (0:Int)))) (Ae (Ad c7 [] (.t (Ao (ixT 13 v_11 (Int.toNat (0:Int))) 12)) 0) (fun (v5:TV)=>need (isSl v5) (∃(I1:TV->Int->TV->TV->TV->Int->V13 (Int->Int->Bool->Bool->St->Prop)) (M1:TV->Int->TV->TV->TV->Int->V13 (Int->Int->Bool->Bool->St->Nat)),(I1 .nilSlice 0 ((.box st.nb 0)) v4 v5 ((lenS v5:Int)) v_0 m p e d v_5 v_6 v_7 v_8 v_9 v_10 v_11 v_12 d_0 d_1 d_2 d_3 c7)/\∀q r x b m a0 n7 b3 b4 s3 n8 n9 a4 a3 a2 s4 v6 v7 v8 z y b5 b6 a5,I1 q r x b m a0 n7 b3 b4 s3 n8 n9 a4 a3 a2 s4 v6 v7 v8 z y b5 b6 a5->(BId (r<a0) (((0<=r/\r<(lenZ 14 m:Int))/\Ae ((Ah a5 [] (.t (ixT 14 m r.toNat)) 0 14).map TV.agg) (fun (x3:TV)=>AM [.str,.int .i64,.bool,.bool,.str,.int .i64,.int .i64,.int .i64,.int .i64,.int .i64,.str,.tv,.tv,.tv] x3 (fun (s5:B8) (h9:Int) (b7 b8:Bool) (s6:B8) (i2 h7 i1 h1 i3:Int) (s7:B8) (v9 i7 h4:TV)=>need (List.all [.str s5,.int .i64 h9,.bool b7,.bool b8,.str s6,.int .i64 i2,.int .i64 h7,.int .i64 i1,.int .i64 h1,.int .i64 i3,.str s7,v9,i7,h4] As) (BF 9 1 16 q 1 [.str s5] a5 (fun (g2:TV) e3=>(I1 g2 ((i64.wrap (r+(1:Int)))) x b m a0 n7 b3 b4 s3 n8 n9 a4 a3 a2 s4 v6 v7 v8 z y b5 b6 e3/\M1 g2 ((i64.wrap (r+(1:Int)))) x b m a0 n7 b3 b4 s3 n8 n9 a4 a3 a2 s4 v6 v7 v8 z y b5 b6 e3<M1 q r x b m a0 n7 b3 b4 s3 n8 n9 a4 a3 a2 s4 v6 v7 v8 z y b5 b6 a5))))))) (CallT PR Hc [q,(.agg [.int .u8 z,.int .u8 y,.bool b5,.bool b6])] [.one .str,.one (.int .i64)] a5 (fun (s8:B8) (e2:Int) f4=>BId (e2≠0) (K [] e2 f4) (CallT PR Ax [x,.str s8] [.one (.int .i64),.one .tv] f4 (fun (j6:Int) (j9:TV) i4=>C1 x b n7 b3 b4 s3 n8 n9 a4 a3 a2 s4 v6 v7 v8 z y b5 b6 i4)))))))))) (C1 ((.box st.nb 0)) v4 v_0 m p e d v_5 v_6 v_7 v_8 v_9 v_10 v_11 v_12 d_0 d_1 d_2 d_3 c7))/\∀e4 s i5 b9 h8 s9 j0 i9 h0 i6 h2 i8 i0 a8 g9 f1 f5 e9 g4 f7,C1 e4 s i5 b9 h8 s9 j0 i9 h0 i6 h2 i8 i0 a8 g9 f1 f5 e9 g4 f7->(need (isSl a8) (∃(I2:Int->TV->TV->TV->Int->Int->Int->Bool->Bool->St->Prop) (M2:Int->TV->TV->TV->Int->Int->Int->Bool->Bool->St->Nat),(I2 0 e4 s a8 ((lenS a8:Int)) f1 f5 e9 g4 f7)/\∀w a7 c p a6 d4 e0 c3 d5 a1,I2 w a7 c p a6 d4 e0 c3 d5 a1->(BId (w<a6) (((0<=w/\w<(lenZ 13 p:Int))/\Ae ((Ah a1 [] (.t (ixT 13 p w.toNat)) 0 13).map TV.agg) (fun (x4:TV)=>AM [.int .i64,.bool,.bool,.str,.int .i64,.int .i64,.int .i64,.int .i64,.int .i64,.str,.tv,.tv,.tv] x4 (fun (f2:Int) (g1 g5:Bool) (g3:B8) (g6 f3 f0 f8 e8:Int) (g0:B8) (e7 f6 f9:TV)=>need (List.all (cV f2 g1 g5 g3 g6 f3 f0 f8 e8 g0 e7 f6 f9) As) (CallT PR G8 [(.agg (cV f2 g1 g5 g3 g6 f3 f0 f8 e8 g0 e7 f6 f9)),c] [.one .tv] a1 (fun (c0:TV) j1=>need (isSl c0) (∃(I3:Int->TV->TV->TV->Int->Int->TV->Int->Int->Int->Bool->Bool->St->Prop) (M3:Int->TV->TV->TV->Int->Int->TV->Int->Int->Int->Bool->Bool->St->Nat),(I3 0 a7 c p a6 w c0 ((lenS c0:Int)) d4 e0 c3 d5 j1)/\∀g f a e o n d u i j k l v,I3 g f a e o n d u i j k l v->(BId (g<u) (((0<=g/\g<(lenZ 13 d:Int))/\Ae ((Ah v [] (.t (ixT 13 d g.toNat)) 0 13).map TV.agg) (fun (x5:TV)=>AM [.int .i64,.bool,.bool,.str,.int .i64,.int .i64,.int .i64,.int .i64,.int .i64,.str,.tv,.tv,.tv] x5 (fun (d7:Int) (d6 d1:Bool) (c1:B8) (c8 a9 c6 c4 c2:Int) (c5:B8) (d0 b0 d3:TV)=>need (List.all (cV d7 d6 d1 c1 c8 a9 c6 c4 c2 c5 d0 b0 d3) As) (BId ((0:Int)<g) (CallT PR AK [f,.int .u8 i] [.one .tv] v (fun (j4:TV) g7=>CallT PR DG [(.agg (cV d7 d6 d1 c1 c8 a9 c6 c4 c2 c5 d0 b0 d3)),(.agg [.int .u8 i,.int .u8 j,.bool k,.bool l])] [.one .str,.one (.int .i64)] g7 (fun (h5:B8) (e5:Int) c9=>BId (e5≠0) (K [] e5 c9) (CallT PR Ax [f,.str h5] [.one (.int .i64),.one .tv] c9 (fun (j3:Int) (j8:TV) d2=>(I3 ((i64.wrap (g+(1:Int)))) f a e o n d u i j k l d2/\M3 ((i64.wrap (g+(1:Int)))) f a e o n d u i j k l d2<M3 g f a e o n d u i j k l v)))))) (CallT PR DG [(.agg (cV d7 d6 d1 c1 c8 a9 c6 c4 c2 c5 d0 b0 d3)),(.agg [.int .u8 i,.int .u8 j,.bool k,.bool l])] [.one .str,.one (.int .i64)] v (fun (h6:B8) (e6:Int) e1=>BId (e6≠0) (K [] e6 e1) (CallT PR Ax [f,.str h6] [.one (.int .i64),.one .tv] e1 (fun (j5:Int) (j7:TV) d8=>(I3 ((i64.wrap (g+(1:Int)))) f a e o n d u i j k l d8/\M3 ((i64.wrap (g+(1:Int)))) f a e o n d u i j k l d8<M3 g f a e o n d u i j k l v)))))))))) (CallT PR AK [f,.int .u8 10] [.one .tv] v (fun (j2:TV) d9=>(I2 ((i64.wrap (n+(1:Int)))) f a e o i j k l d9/\M2 ((i64.wrap (n+(1:Int)))) f a e o i j k l d9<M2 w a7 c p a6 d4 e0 c3 d5 a1))))))))))) (CallT PR A0 [a7] [.one .str] a1 (fun (h3:B8) g8=>K h3 0 g8)))))))))))):CallT PR Im [(.agg (cV v_0 m p e d v_5 v_6 v_7 v_8 v_9 v_10 v_11 v_12)),(.agg [.int .u8 d_0,.int .u8 d_1,.bool d_2,.bool d_3])] [.one .str,.one (.int .i64)] st K:=
 Ag (cfg:=⟨[2,3,10,14,16],[],[]⟩) (h:=(.seq .none (.seq .none (.seq .none (.seq .none (.cut ⟨[(6,.tv),(7,.tv)],[(2,0,0),(3,1,0)],[(0,13),(1,4)],[(0,0,.int .i64),(0,1,.bool),(0,2,.bool),(0,3,.str),(0,4,.int .i64),(0,5,.int .i64),(0,6,.int .i64),(0,7,.int .i64),(0,8,.int .i64),(0,9,.str),(0,10,.tv),(0,11,.tv),(0,12,.tv),(1,0,.int .u8),(1,1,.int .u8),(1,2,.bool),(1,3,.bool)]⟩ (.seq .none (.cond (.seq .none (.seq (.seq .none (.block (.loop ⟨[(8,.tv),(36,.int .i64),(6,.tv),(7,.tv),(34,.tv),(35,.int .i64)],[(2,0,0),(3,1,0)],[(0,13),(1,4)],[(0,0,.int .i64),(0,1,.bool),(0,2,.bool),(0,3,.str),(0,4,.int .i64),(0,5,.int .i64),(0,6,.int .i64),(0,7,.int .i64),(0,8,.int .i64),(0,9,.str),(0,10,.tv),(0,11,.tv),(0,12,.tv),(1,0,.int .u8),(1,1,.int .u8),(1,2,.bool),(1,3,.bool)]⟩ .none))) .none)) .none)) (.seq (.seq .none (.block (.loop ⟨[(60,.int .i64),(6,.tv),(7,.tv),(58,.tv),(59,.int .i64)],[(3,1,0)],[(1,4)],[(1,0,.int .u8),(1,1,.int .u8),(1,2,.bool),(1,3,.bool)]⟩ (.seq .none (.seq .none (.seq (.block (.seq .none (.seq (.seq .none (.block (.loop ⟨[(68,.int .i64),(6,.tv),(7,.tv),(58,.tv),(59,.int .i64),(60,.int .i64),(66,.tv),(67,.int .i64)],[(3,1,0)],[(1,4)],[(1,0,.int .u8),(1,1,.int .u8),(1,2,.bool),(1,3,.bool)]⟩ .none))) .none))) .none)))))) .none))))))) mixed (fun _ _=>Tryz.call183 _ _) Tryz.func183 (by kernel_rfl) (by kernel_rfl) h
theorem Fs (s:TV) (sq:TV) (st:St) (K:Bool->St->Prop) (h:need (isSl s) (need (isSl sq) (BId ((lenS s:Int)≠(lenS sq:Int)) (K false st) (need (isSl s) (∃(I1:Int->TV->TV->Int->St->Prop) (M1:Int->TV->TV->Int->St->Nat),(I1 0 s sq ((lenS s:Int)) st)/\∀a c d e b,I1 a c d e b->(BId (a<e) (((0<=a/\a<(lenZ 1 c:Int))/\Ae (Ad b [] (.t (ixT 1 c a.toNat)) 0) (fun (x1:TV)=>Af (.int .u8) x1 (fun (n1:Int)=>((0<=a/\a<(lenZ 1 d:Int))/\Ae (Ad b [] (.t (ixT 1 d a.toNat)) 0) (fun (x2:TV)=>Af (.int .u8) x2 (fun (n2:Int)=>BId (n1≠n2) (K false b) ((I1 ((i64.wrap (a+(1:Int)))) c d e b/\M1 ((i64.wrap (a+(1:Int)))) c d e b<M1 a c d e b))))))))) (K true b))))))):CallT PR BU [s,sq] [.one .bool] st K:=
 Ag (cfg:=⟨[],[],[]⟩) (h:=(.seq .none (.seq .none (.seq (.seq .none (.block (.loop ⟨[(13,.int .i64),(0,.tv),(1,.tv),(12,.int .i64)],[],[],[]⟩ .none))) .none)))) mixed (fun _ _=>Tryz.call185 _ _) Tryz.func185 (by kernel_rfl) (by kernel_rfl) h
theorem Nx (v_0:Int) (v_1:Bool) (v_2:Bool) (v_3:B8) (v_4:Int) (v_5:Int) (v_6:Int) (v_7:Int) (v_8:Int) (v_9:B8) (v_10:TV) (v_11:TV) (v_12:TV) (st:St) (K:TV->St->Prop) (h:CallT PR BI [v_12] [.one .tv] st (fun (v1:TV) a=>CallT PR AC [v1,(.func Df [])] [] a (fun (b:St)=>K v1 b))):CallT PR CW [(.agg (cV v_0 v_1 v_2 v_3 v_4 v_5 v_6 v_7 v_8 v_9 v_10 v_11 v_12))] [.one .tv] st K:=
 Ag (cfg:=⟨[1],[],[]⟩) (h:= .none) mixed (fun _ _=>Tryz.call186 _ _) Tryz.func186 (by kernel_rfl) (by kernel_rfl) h
theorem Nz (x_0:Int) (x_1:Bool) (x_2:Bool) (x_3:B8) (x_4:Int) (x_5:Int) (x_6:Int) (x_7:Int) (x_8:Int) (x_9:B8) (x_10:TV) (x_11:TV) (x_12:TV) (y_0:Int) (y_1:Bool) (y_2:Bool) (y_3:B8) (y_4:Int) (y_5:Int) (y_6:Int) (y_7:Int) (y_8:Int) (y_9:B8) (y_10:TV) (y_11:TV) (y_12:TV) (free0:TV) (free1:TV) (st:St) (K:Bool->St->Prop) (h:Ae (Ad st [] (.t free0) 0) (fun (x1:TV)=>Af .bool x1 (fun (b1:Bool)=>Ae (Ad st [] (.t free1) 0) (fun (x2:TV)=>Af (.int .i64) x2 (fun (n1:Int)=>CallT PR EZ [(.agg (cV x_0 x_1 x_2 x_3 x_4 x_5 x_6 x_7 x_8 x_9 x_10 x_11 x_12)),(.agg (cV y_0 y_1 y_2 y_3 y_4 y_5 y_6 y_7 y_8 y_9 y_10 y_11 y_12)),.bool b1,(.int .i64 (i64.wrap (n1-(1:Int))))] [.one .bool] st (fun (b2:Bool) a=>K b2 a)))))):CallT PR Cg [(.agg (cV x_0 x_1 x_2 x_3 x_4 x_5 x_6 x_7 x_8 x_9 x_10 x_11 x_12)),(.agg (cV y_0 y_1 y_2 y_3 y_4 y_5 y_6 y_7 y_8 y_9 y_10 y_11 y_12)),free0,free1] [.one .bool] st K:=
 Ag (cfg:=⟨[4,5],[],[]⟩) (h:= .none) mixed (fun _ _=>Tryz.call187 _ _) Tryz.func187 (by kernel_rfl) (by kernel_rfl) h
theorem Bj (s:TV) (sq:TV) (eq:TV) (st:St) (K:Bool->St->Prop) (h:need (isSl s) (need (isSl sq) (BId ((lenS s:Int)≠(lenS sq:Int)) (K false st) (need (isSl s) (∃(I1:Int->TV->TV->TV->Int->St->Prop) (M1:Int->TV->TV->TV->Int->St->Nat),(I1 0 sq eq s ((lenS s:Int)) st)/\∀a d b c f e,I1 a d b c f e->(BId (a<f) (((0<=a/\a<(lenZ 13 c:Int))/\Ae ((Ah e [] (.t (ixT 13 c a.toNat)) 0 13).map TV.agg) (fun (x1:TV)=>AM [.int .i64,.bool,.bool,.str,.int .i64,.int .i64,.int .i64,.int .i64,.int .i64,.str,.tv,.tv,.tv] x1 (fun (n1:Int) (b1 b2:Bool) (s1:B8) (n2 n3 n4 n5 n6:Int) (s2:B8) (v1 v2 v3:TV)=>need (List.all (cV n1 b1 b2 s1 n2 n3 n4 n5 n6 s2 v1 v2 v3) As) (((0<=a/\a<(lenZ 13 d:Int))/\Ae ((Ah e [] (.t (ixT 13 d a.toNat)) 0 13).map TV.agg) (fun (x2:TV)=>AM [.int .i64,.bool,.bool,.str,.int .i64,.int .i64,.int .i64,.int .i64,.int .i64,.str,.tv,.tv,.tv] x2 (fun (n7:Int) (b3 b4:Bool) (s3:B8) (n8 n9 k j i:Int) (s4:B8) (v4 v5 v6:TV)=>need (List.all (cV n7 b3 b4 s3 n8 n9 k j i s4 v4 v5 v6) As) (GJ PR b [(.agg (cV n1 b1 b2 s1 n2 n3 n4 n5 n6 s2 v1 v2 v3)),(.agg (cV n7 b3 b4 s3 n8 n9 k j i s4 v4 v5 v6))] [.one .bool] e (fun (b5:Bool) g=>BIf (!b5) (K false g) ((I1 ((i64.wrap (a+(1:Int)))) d b c f g/\M1 ((i64.wrap (a+(1:Int)))) d b c f g<M1 a d b c f e)))))))))))) (K true e))))))):CallT PR Av [s,sq,eq] [.one .bool] st K:=
 Ag (cfg:=⟨[8,9],[],[]⟩) (h:=(.seq .none (.seq .none (.seq (.seq .none (.block (.loop ⟨[(17,.int .i64),(1,.tv),(2,.tv),(15,.tv),(16,.int .i64)],[],[],[]⟩ .none))) .none)))) mixed (fun _ _=>Tryz.call188 _ _) Tryz.func188 (by kernel_rfl) (by kernel_rfl) h
theorem Bk (s:TV) (sq:TV) (eq:TV) (st:St) (K:Bool->St->Prop) (h:need (isSl s) (need (isSl sq) (BId ((lenS s:Int)≠(lenS sq:Int)) (K false st) (need (isSl s) (∃(I1:Int->TV->TV->TV->Int->St->Prop) (M1:Int->TV->TV->TV->Int->St->Nat),(I1 0 sq eq s ((lenS s:Int)) st)/\∀a d b c f e,I1 a d b c f e->(BId (a<f) (((0<=a/\a<(lenZ 14 c:Int))/\Ae ((Ah e [] (.t (ixT 14 c a.toNat)) 0 14).map TV.agg) (fun (x1:TV)=>AM [.str,.int .i64,.bool,.bool,.str,.int .i64,.int .i64,.int .i64,.int .i64,.int .i64,.str,.tv,.tv,.tv] x1 (fun (s1:B8) (n1:Int) (b1 b2:Bool) (s2:B8) (n2 n3 n4 n5 n6:Int) (s3:B8) (v1 v2 v3:TV)=>need (List.all [.str s1,.int .i64 n1,.bool b1,.bool b2,.str s2,.int .i64 n2,.int .i64 n3,.int .i64 n4,.int .i64 n5,.int .i64 n6,.str s3,v1,v2,v3] As) (((0<=a/\a<(lenZ 14 d:Int))/\Ae ((Ah e [] (.t (ixT 14 d a.toNat)) 0 14).map TV.agg) (fun (x2:TV)=>AM [.str,.int .i64,.bool,.bool,.str,.int .i64,.int .i64,.int .i64,.int .i64,.int .i64,.str,.tv,.tv,.tv] x2 (fun (s4:B8) (n7:Int) (b3 b4:Bool) (s5:B8) (n8 n9 k j i:Int) (s6:B8) (v4 v5 v6:TV)=>need (List.all [.str s4,.int .i64 n7,.bool b3,.bool b4,.str s5,.int .i64 n8,.int .i64 n9,.int .i64 k,.int .i64 j,.int .i64 i,.str s6,v4,v5,v6] As) (GJ PR b [(.agg [.str s1,.int .i64 n1,.bool b1,.bool b2,.str s2,.int .i64 n2,.int .i64 n3,.int .i64 n4,.int .i64 n5,.int .i64 n6,.str s3,v1,v2,v3]),(.agg [.str s4,.int .i64 n7,.bool b3,.bool b4,.str s5,.int .i64 n8,.int .i64 n9,.int .i64 k,.int .i64 j,.int .i64 i,.str s6,v4,v5,v6])] [.one .bool] e (fun (b5:Bool) g=>BIf (!b5) (K false g) ((I1 ((i64.wrap (a+(1:Int)))) d b c f g/\M1 ((i64.wrap (a+(1:Int)))) d b c f g<M1 a d b c f e)))))))))))) (K true e))))))):CallT PR Aw [s,sq,eq] [.one .bool] st K:=
 Ag (cfg:=⟨[8,9],[],[]⟩) (h:=(.seq .none (.seq .none (.seq (.seq .none (.block (.loop ⟨[(17,.int .i64),(1,.tv),(2,.tv),(15,.tv),(16,.int .i64)],[],[],[]⟩ .none))) .none)))) mixed (fun _ _=>Tryz.call189 _ _) Tryz.func189 (by kernel_rfl) (by kernel_rfl) h
theorem Ny (x_0:B8) (x_1:Int) (x_2:Bool) (x_3:Bool) (x_4:B8) (x_5:Int) (x_6:Int) (x_7:Int) (x_8:Int) (x_9:Int) (x_10:B8) (x_11:TV) (x_12:TV) (x_13:TV) (y_0:B8) (y_1:Int) (y_2:Bool) (y_3:Bool) (y_4:B8) (y_5:Int) (y_6:Int) (y_7:Int) (y_8:Int) (y_9:Int) (y_10:B8) (y_11:TV) (y_12:TV) (y_13:TV) (free0:TV) (st:St) (K:Bool->St->Prop) (h:BId (x_0=y_0) (Ae (Ad st [] (.t free0) 0) (fun (v1:TV)=>GJ PR v1 [(.agg (cV x_1 x_2 x_3 x_4 x_5 x_6 x_7 x_8 x_9 x_10 x_11 x_12 x_13)),(.agg (cV y_1 y_2 y_3 y_4 y_5 y_6 y_7 y_8 y_9 y_10 y_11 y_12 y_13))] [.one .bool] st (fun (b1:Bool) a=>K b1 a))) (K false st)):CallT PR D3 [(.agg [.str x_0,.int .i64 x_1,.bool x_2,.bool x_3,.str x_4,.int .i64 x_5,.int .i64 x_6,.int .i64 x_7,.int .i64 x_8,.int .i64 x_9,.str x_10,x_11,x_12,x_13]),(.agg [.str y_0,.int .i64 y_1,.bool y_2,.bool y_3,.str y_4,.int .i64 y_5,.int .i64 y_6,.int .i64 y_7,.int .i64 y_8,.int .i64 y_9,.str y_10,y_11,y_12,y_13]),free0] [.one .bool] st K:=
 Ag (cfg:=⟨[3,4],[],[]⟩) (h:= .none) mixed (fun _ _=>Tryz.call190 _ _) Tryz.func190 (by kernel_rfl) (by kernel_rfl) h
theorem Cu (b:Nat) (s:B8) (st:St) (K:Int->TV->St->Prop) (h:CallT PR A2 [(.box b 0)] [] st (fun (a:St)=>Ae (Ad a [] (.t (.box b 1)) 0) (fun (v1:TV)=>Ae (EW a 1 (.str s)) (fun (q1:Nat×List TV)=>need (List.all q1.2 As) (BF 5 1 1 v1 q1.1 q1.2 a (fun (v2:TV) d=>need (List.all [v2] As) (stB d (.box b 1) [v2] (fun c=>K ((s.length:Int)) .nilIface c)))))))):CallT PR Ax [(.box b 0),.str s] [.one (.int .i64),.one .tv] st K:=
 Ag (cfg:=⟨[],[],[]⟩) (h:= .none) mixed (fun _ _=>Tryz.call196 _ _) Tryz.func196 (by kernel_rfl) (by kernel_rfl) h
theorem Of (v_0:Int) (v_1:Bool) (v_2:Bool) (v_3:B8) (v_4:Int) (v_5:Int) (v_6:Int) (v_7:Int) (v_8:Int) (v_9:B8) (v_10:TV) (v_11:TV) (v_12:TV) (st:St) (K:Bool->St->Prop) (h:BId (v_0≠1) (BIf v_1 (K true st) (BId (v_0≠2) (BIf (!((v_2==false)&&(decide (v_3=([]:B8))&&(decide (v_4=(0:Int))&&true)))) (K true st) (BId (v_0≠3) (BIf (!(decide (v_5=(0:Int))&&(decide (v_6=(0:Int))&&(decide (v_7=(0:Int))&&(decide (v_8=(0:Int))&&true))))) (K true st) (BId (v_0≠4) (BId (v_9≠([]:B8)) (K true st) (BId (v_0≠5) (need (isSl v_10) (BId ((0:Int)<(lenS v_10:Int)) (K true st) (BId (v_0≠6) (need (isSl v_11) (BId ((0:Int)<(lenS v_11:Int)) (K true st) (BId (v_0≠7) (need (isSl v_12) (K ((decide ((0:Int)<(lenS v_12:Int)))) st)) (K false st)))) (BId (v_0≠7) (need (isSl v_12) (K ((decide ((0:Int)<(lenS v_12:Int)))) st)) (K false st))))) (BId (v_0≠6) (need (isSl v_11) (BId ((0:Int)<(lenS v_11:Int)) (K true st) (BId (v_0≠7) (need (isSl v_12) (K ((decide ((0:Int)<(lenS v_12:Int)))) st)) (K false st)))) (BId (v_0≠7) (need (isSl v_12) (K ((decide ((0:Int)<(lenS v_12:Int)))) st)) (K false st))))) (BId (v_0≠5) (need (isSl v_10) (BId ((0:Int)<(lenS v_10:Int)) (K true st) (BId (v_0≠6) (need (isSl v_11) (BId ((0:Int)<(lenS v_11:Int)) (K true st) (BId (v_0≠7) (need (isSl v_12) (K ((decide ((0:Int)<(lenS v_12:Int)))) st)) (K false st)))) (BId (v_0≠7) (need (isSl v_12) (K ((decide ((0:Int)<(lenS v_12:Int)))) st)) (K false st))))) (BId (v_0≠6) (need (isSl v_11) (BId ((0:Int)<(lenS v_11:Int)) (K true st) (BId (v_0≠7) (need (isSl v_12) (K ((decide ((0:Int)<(lenS v_12:Int)))) st)) (K false st)))) (BId (v_0≠7) (need (isSl v_12) (K ((decide ((0:Int)<(lenS v_12:Int)))) st)) (K false st)))))) (BId (v_0≠4) (BId (v_9≠([]:B8)) (K true st) (BId (v_0≠5) (need (isSl v_10) (BId ((0:Int)<(lenS v_10:Int)) (K true st) (BId (v_0≠6) (need (isSl v_11) (BId ((0:Int)<(lenS v_11:Int)) (K true st) (BId (v_0≠7) (need (isSl v_12) (K ((decide ((0:Int)<(lenS v_12:Int)))) st)) (K false st)))) (BId (v_0≠7) (need (isSl v_12) (K ((decide ((0:Int)<(lenS v_12:Int)))) st)) (K false st))))) (BId (v_0≠6) (need (isSl v_11) (BId ((0:Int)<(lenS v_11:Int)) (K true st) (BId (v_0≠7) (need (isSl v_12) (K ((decide ((0:Int)<(lenS v_12:Int)))) st)) (K false st)))) (BId (v_0≠7) (need (isSl v_12) (K ((decide ((0:Int)<(lenS v_12:Int)))) st)) (K false st))))) (BId (v_0≠5) (need (isSl v_10) (BId ((0:Int)<(lenS v_10:Int)) (K true st) (BId (v_0≠6) (need (isSl v_11) (BId ((0:Int)<(lenS v_11:Int)) (K true st) (BId (v_0≠7) (need (isSl v_12) (K ((decide ((0:Int)<(lenS v_12:Int)))) st)) (K false st)))) (BId (v_0≠7) (need (isSl v_12) (K ((decide ((0:Int)<(lenS v_12:Int)))) st)) (K false st))))) (BId (v_0≠6) (need (isSl v_11) (BId ((0:Int)<(lenS v_11:Int)) (K true st) (BId (v_0≠7) (need (isSl v_12) (K ((decide ((0:Int)<(lenS v_12:Int)))) st)) (K false st)))) (BId (v_0≠7) (need (isSl v_12) (K ((decide ((0:Int)<(lenS v_12:Int)))) st)) (K false st))))))) (BId (v_0≠3) (BIf (!(decide (v_5=(0:Int))&&(decide (v_6=(0:Int))&&(decide (v_7=(0:Int))&&(decide (v_8=(0:Int))&&true))))) (K true st) (BId (v_0≠4) (BId (v_9≠([]:B8)) (K true st) (BId (v_0≠5) (need (isSl v_10) (BId ((0:Int)<(lenS v_10:Int)) (K true st) (BId (v_0≠6) (need (isSl v_11) (BId ((0:Int)<(lenS v_11:Int)) (K true st) (BId (v_0≠7) (need (isSl v_12) (K ((decide ((0:Int)<(lenS v_12:Int)))) st)) (K false st)))) (BId (v_0≠7) (need (isSl v_12) (K ((decide ((0:Int)<(lenS v_12:Int)))) st)) (K false st))))) (BId (v_0≠6) (need (isSl v_11) (BId ((0:Int)<(lenS v_11:Int)) (K true st) (BId (v_0≠7) (need (isSl v_12) (K ((decide ((0:Int)<(lenS v_12:Int)))) st)) (K false st)))) (BId (v_0≠7) (need (isSl v_12) (K ((decide ((0:Int)<(lenS v_12:Int)))) st)) (K false st))))) (BId (v_0≠5) (need (isSl v_10) (BId ((0:Int)<(lenS v_10:Int)) (K true st) (BId (v_0≠6) (need (isSl v_11) (BId ((0:Int)<(lenS v_11:Int)) (K true st) (BId (v_0≠7) (need (isSl v_12) (K ((decide ((0:Int)<(lenS v_12:Int)))) st)) (K false st)))) (BId (v_0≠7) (need (isSl v_12) (K ((decide ((0:Int)<(lenS v_12:Int)))) st)) (K false st))))) (BId (v_0≠6) (need (isSl v_11) (BId ((0:Int)<(lenS v_11:Int)) (K true st) (BId (v_0≠7) (need (isSl v_12) (K ((decide ((0:Int)<(lenS v_12:Int)))) st)) (K false st)))) (BId (v_0≠7) (need (isSl v_12) (K ((decide ((0:Int)<(lenS v_12:Int)))) st)) (K false st)))))) (BId (v_0≠4) (BId (v_9≠([]:B8)) (K true st) (BId (v_0≠5) (need (isSl v_10) (BId ((0:Int)<(lenS v_10:Int)) (K true st) (BId (v_0≠6) (need (isSl v_11) (BId ((0:Int)<(lenS v_11:Int)) (K true st) (BId (v_0≠7) (need (isSl v_12) (K ((decide ((0:Int)<(lenS v_12:Int)))) st)) (K false st)))) (BId (v_0≠7) (need (isSl v_12) (K ((decide ((0:Int)<(lenS v_12:Int)))) st)) (K false st))))) (BId (v_0≠6) (need (isSl v_11) (BId ((0:Int)<(lenS v_11:Int)) (K true st) (BId (v_0≠7) (need (isSl v_12) (K ((decide ((0:Int)<(lenS v_12:Int)))) st)) (K false st)))) (BId (v_0≠7) (need (isSl v_12) (K ((decide ((0:Int)<(lenS v_12:Int)))) st)) (K false st))))) (BId (v_0≠5) (need (isSl v_10) (BId ((0:Int)<(lenS v_10:Int)) (K true st) (BId (v_0≠6) (need (isSl v_11) (BId ((0:Int)<(lenS v_11:Int)) (K true st) (BId (v_0≠7) (need (isSl v_12) (K ((decide ((0:Int)<(lenS v_12:Int)))) st)) (K false st)))) (BId (v_0≠7) (need (isSl v_12) (K ((decide ((0:Int)<(lenS v_12:Int)))) st)) (K false st))))) (BId (v_0≠6) (need (isSl v_11) (BId ((0:Int)<(lenS v_11:Int)) (K true st) (BId (v_0≠7) (need (isSl v_12) (K ((decide ((0:Int)<(lenS v_12:Int)))) st)) (K false st)))) (BId (v_0≠7) (need (isSl v_12) (K ((decide ((0:Int)<(lenS v_12:Int)))) st)) (K false st)))))))) (BId (v_0≠2) (BIf (!((v_2==false)&&(decide (v_3=([]:B8))&&(decide (v_4=(0:Int))&&true)))) (K true st) (BId (v_0≠3) (BIf (!(decide (v_5=(0:Int))&&(decide (v_6=(0:Int))&&(decide (v_7=(0:Int))&&(decide (v_8=(0:Int))&&true))))) (K true st) (BId (v_0≠4) (BId (v_9≠([]:B8)) (K true st) (BId (v_0≠5) (need (isSl v_10) (BId ((0:Int)<(lenS v_10:Int)) (K true st) (BId (v_0≠6) (need (isSl v_11) (BId ((0:Int)<(lenS v_11:Int)) (K true st) (BId (v_0≠7) (need (isSl v_12) (K ((decide ((0:Int)<(lenS v_12:Int)))) st)) (K false st)))) (BId (v_0≠7) (need (isSl v_12) (K ((decide ((0:Int)<(lenS v_12:Int)))) st)) (K false st))))) (BId (v_0≠6) (need (isSl v_11) (BId ((0:Int)<(lenS v_11:Int)) (K true st) (BId (v_0≠7) (need (isSl v_12) (K ((decide ((0:Int)<(lenS v_12:Int)))) st)) (K false st)))) (BId (v_0≠7) (need (isSl v_12) (K ((decide ((0:Int)<(lenS v_12:Int)))) st)) (K false st))))) (BId (v_0≠5) (need (isSl v_10) (BId ((0:Int)<(lenS v_10:Int)) (K true st) (BId (v_0≠6) (need (isSl v_11) (BId ((0:Int)<(lenS v_11:Int)) (K true st) (BId (v_0≠7) (need (isSl v_12) (K ((decide ((0:Int)<(lenS v_12:Int)))) st)) (K false st)))) (BId (v_0≠7) (need (isSl v_12) (K ((decide ((0:Int)<(lenS v_12:Int)))) st)) (K false st))))) (BId (v_0≠6) (need (isSl v_11) (BId ((0:Int)<(lenS v_11:Int)) (K true st) (BId (v_0≠7) (need (isSl v_12) (K ((decide ((0:Int)<(lenS v_12:Int)))) st)) (K false st)))) (BId (v_0≠7) (need (isSl v_12) (K ((decide ((0:Int)<(lenS v_12:Int)))) st)) (K false st)))))) (BId (v_0≠4) (BId (v_9≠([]:B8)) (K true st) (BId (v_0≠5) (need (isSl v_10) (BId ((0:Int)<(lenS v_10:Int)) (K true st) (BId (v_0≠6) (need (isSl v_11) (BId ((0:Int)<(lenS v_11:Int)) (K true st) (BId (v_0≠7) (need (isSl v_12) (K ((decide ((0:Int)<(lenS v_12:Int)))) st)) (K false st)))) (BId (v_0≠7) (need (isSl v_12) (K ((decide ((0:Int)<(lenS v_12:Int)))) st)) (K false st))))) (BId (v_0≠6) (need (isSl v_11) (BId ((0:Int)<(lenS v_11:Int)) (K true st) (BId (v_0≠7) (need (isSl v_12) (K ((decide ((0:Int)<(lenS v_12:Int)))) st)) (K false st)))) (BId (v_0≠7) (need (isSl v_12) (K ((decide ((0:Int)<(lenS v_12:Int)))) st)) (K false st))))) (BId (v_0≠5) (need (isSl v_10) (BId ((0:Int)<(lenS v_10:Int)) (K true st) (BId (v_0≠6) (need (isSl v_11) (BId ((0:Int)<(lenS v_11:Int)) (K true st) (BId (v_0≠7) (need (isSl v_12) (K ((decide ((0:Int)<(lenS v_12:Int)))) st)) (K false st)))) (BId (v_0≠7) (need (isSl v_12) (K ((decide ((0:Int)<(lenS v_12:Int)))) st)) (K false st))))) (BId (v_0≠6) (need (isSl v_11) (BId ((0:Int)<(lenS v_11:Int)) (K true st) (BId (v_0≠7) (need (isSl v_12) (K ((decide ((0:Int)<(lenS v_12:Int)))) st)) (K false st)))) (BId (v_0≠7) (need (isSl v_12) (K ((decide ((0:Int)<(lenS v_12:Int)))) st)) (K false st))))))) (BId (v_0≠3) (BIf (!(decide (v_5=(0:Int))&&(decide (v_6=(0:Int))&&(decide (v_7=(0:Int))&&(decide (v_8=(0:Int))&&true))))) (K true st) (BId (v_0≠4) (BId (v_9≠([]:B8)) (K true st) (BId (v_0≠5) (need (isSl v_10) (BId ((0:Int)<(lenS v_10:Int)) (K true st) (BId (v_0≠6) (need (isSl v_11) (BId ((0:Int)<(lenS v_11:Int)) (K true st) (BId (v_0≠7) (need (isSl v_12) (K ((decide ((0:Int)<(lenS v_12:Int)))) st)) (K false st)))) (BId (v_0≠7) (need (isSl v_12) (K ((decide ((0:Int)<(lenS v_12:Int)))) st)) (K false st))))) (BId (v_0≠6) (need (isSl v_11) (BId ((0:Int)<(lenS v_11:Int)) (K true st) (BId (v_0≠7) (need (isSl v_12) (K ((decide ((0:Int)<(lenS v_12:Int)))) st)) (K false st)))) (BId (v_0≠7) (need (isSl v_12) (K ((decide ((0:Int)<(lenS v_12:Int)))) st)) (K false st))))) (BId (v_0≠5) (need (isSl v_10) (BId ((0:Int)<(lenS v_10:Int)) (K true st) (BId (v_0≠6) (need (isSl v_11) (BId ((0:Int)<(lenS v_11:Int)) (K true st) (BId (v_0≠7) (need (isSl v_12) (K ((decide ((0:Int)<(lenS v_12:Int)))) st)) (K false st)))) (BId (v_0≠7) (need (isSl v_12) (K ((decide ((0:Int)<(lenS v_12:Int)))) st)) (K false st))))) (BId (v_0≠6) (need (isSl v_11) (BId ((0:Int)<(lenS v_11:Int)) (K true st) (BId (v_0≠7) (need (isSl v_12) (K ((decide ((0:Int)<(lenS v_12:Int)))) st)) (K false st)))) (BId (v_0≠7) (need (isSl v_12) (K ((decide ((0:Int)<(lenS v_12:Int)))) st)) (K false st)))))) (BId (v_0≠4) (BId (v_9≠([]:B8)) (K true st) (BId (v_0≠5) (need (isSl v_10) (BId ((0:Int)<(lenS v_10:Int)) (K true st) (BId (v_0≠6) (need (isSl v_11) (BId ((0:Int)<(lenS v_11:Int)) (K true st) (BId (v_0≠7) (need (isSl v_12) (K ((decide ((0:Int)<(lenS v_12:Int)))) st)) (K false st)))) (BId (v_0≠7) (need (isSl v_12) (K ((decide ((0:Int)<(lenS v_12:Int)))) st)) (K false st))))) (BId (v_0≠6) (need (isSl v_11) (BId ((0:Int)<(lenS v_11:Int)) (K true st) (BId (v_0≠7) (need (isSl v_12) (K ((decide ((0:Int)<(lenS v_12:Int)))) st)) (K false st)))) (BId (v_0≠7) (need (isSl v_12) (K ((decide ((0:Int)<(lenS v_12:Int)))) st)) (K false st))))) (BId (v_0≠5) (need (isSl v_10) (BId ((0:Int)<(lenS v_10:Int)) (K true st) (BId (v_0≠6) (need (isSl v_11) (BId ((0:Int)<(lenS v_11:Int)) (K true st) (BId (v_0≠7) (need (isSl v_12) (K ((decide ((0:Int)<(lenS v_12:Int)))) st)) (K false st)))) (BId (v_0≠7) (need (isSl v_12) (K ((decide ((0:Int)<(lenS v_12:Int)))) st)) (K false st))))) (BId (v_0≠6) (need (isSl v_11) (BId ((0:Int)<(lenS v_11:Int)) (K true st) (BId (v_0≠7) (need (isSl v_12) (K ((decide ((0:Int)<(lenS v_12:Int)))) st)) (K false st)))) (BId (v_0≠7) (need (isSl v_12) (K ((decide ((0:Int)<(lenS v_12:Int)))) st)) (K false st)))))))):CallT PR Gc [(.agg (cV v_0 v_1 v_2 v_3 v_4 v_5 v_6 v_7 v_8 v_9 v_10 v_11 v_12))] [.one .bool] st K:=
 Ag (cfg:=⟨[1],[],[]⟩) (h:= .none) mixed (fun _ _=>Tryz.call197 _ _) Tryz.func197 (by kernel_rfl) (by kernel_rfl) h
theorem L7 (d_0:Bool) (d_1:B8) (d_2:Int) (st:St) (K:Bool->St->Prop) (h:BId (d_1=([]:B8)) (K (((d_0==false)&&(decide (d_1=([]:B8))&&(decide (d_2=(0:Int))&&true)))) st) (CallT PR D4 [.str d_1] [.one .bool] st (fun (b1:Bool) a=>BIf b1 (BId ((d_1.length:Int)<=(120:Int)) (CallT PR Fu [.str d_1] [.one (.int .i64)] a (fun (n1:Int) b=>BId (n1=0) (BId ((-400:Int)<=d_2) (K ((decide (d_2<=400))) b) (K false b)) (K false b))) (K false a)) (K false a)))):CallT PR DI [(.agg [.bool d_0,.str d_1,.int .i64 d_2])] [.one .bool] st K:=
 Ag (cfg:=⟨[1],[],[]⟩) (h:= .none) mixed (fun _ _=>Tryz.call198 _ _) Tryz.func198 (by kernel_rfl) (by kernel_rfl) h
theorem NA (t_0:Int) (t_1:Int) (t_2:Int) (t_3:Int) (st:St) (K:Bool->St->Prop) (h:BId (t_0<1) (K false st) (BId ((4:Int)<t_0) (K false st) (BId (t_1<0) (K false st) (BId ((3652058:Int)<t_1) (K false st) (BId (t_2<0) (K false st) (BId ((86399999999999:Int)<t_2) (K false st) (BId (t_3<(-1439:Int)) (K false st) (BId ((1439:Int)<t_3) (K false st) (BId (t_0=2) (BId (t_1=0) (K ((decide (t_3=0))) st) (K false st)) (BId (t_0=1) (BId (t_2=0) (K ((decide (t_3=0))) st) (K false st)) (BId (t_0=3) (K ((decide (t_3=0))) st) (K true st)))))))))))):CallT PR CX [(.agg [.int .i64 t_0,.int .i64 t_1,.int .i64 t_2,.int .i64 t_3])] [.one .bool] st K:=
 Ag (cfg:=⟨[1],[],[]⟩) (h:= .none) mixed (fun _ _=>Tryz.call199 _ _) Tryz.func199 (by kernel_rfl) (by kernel_rfl) h
theorem Qe (l:TV) (st:St) (K:Int->St->Prop) (h:need (isSl l) (∃(I1:Int->TV->TV->Int->St->Prop) (M1:Int->TV->TV->Int->St->Nat),(I1 0 ((.map st.nb)) l ((lenS l:Int)) (st.push (.map []) none))/\∀b a c e d,I1 b a c e d->(BId (b<e) (((0<=b/\b<(lenZ 14 c:Int))/\Ae ((Ah d [] (.t (ixT 14 c b.toNat)) 0 14).map TV.agg) (fun (x1:TV)=>AM [.str,.int .i64,.bool,.bool,.str,.int .i64,.int .i64,.int .i64,.int .i64,.int .i64,.str,.tv,.tv,.tv] x1 (fun (s1:B8) (n1:Int) (b1 b2:Bool) (s2:B8) (n2 n3 n4 n5 n6:Int) (s3:B8) (v1 v2 v3:TV)=>need (List.all [.str s1,.int .i64 n1,.bool b1,.bool b2,.str s2,.int .i64 n2,.int .i64 n3,.int .i64 n4,.int .i64 n5,.int .i64 n6,.str s3,v1,v2,v3] As) (CallT PR Ii [.str s1] [.one (.int .i64)] d (fun (n7:Int) f=>BId (n7≠0) (K n7 f) (Ae (Es f a) (fun (es1:List (B8×TV))=>Af .bool (F7 (.bool false) (BR s1 es1)) (fun (b3:Bool)=>BIf b3 (K 8 f) (muK a s1 (.bool true) f (fun g=>(I1 ((i64.wrap (b+(1:Int)))) a c e g/\M1 ((i64.wrap (b+(1:Int)))) a c e g<M1 b a c e d)))))))))))) (K 0 d)))):CallT PR G2 [l] [.one (.int .i64)] st K:=
 Ag (cfg:=⟨[5],[],[]⟩) (h:=(.seq .none (.seq .none (.seq (.seq .none (.block (.loop ⟨[(10,.int .i64),(3,.tv),(8,.tv),(9,.int .i64)],[],[],[]⟩ .none))) .none)))) mixed (fun _ _=>Tryz.call200 _ _) Tryz.func200 (by kernel_rfl) (by kernel_rfl) h
theorem Qd (v_0:Int) (a:Bool) (v_2:Bool) (v_3:B8) (v_4:Int) (v_5:Int) (v_6:Int) (v_7:Int) (v_8:Int) (v_9:B8) (v_10:TV) (v_11:TV) (v_12:TV) (st:St) (K:TV->St->Prop) (h:CallT PR A7 [v_11] [.one .tv] st (fun (v1:TV) g=>need (isSl v_12) (∃(I1:TV->Int->TV->Int->St->Prop) (M1:TV->Int->TV->Int->St->Nat),(I1 v1 0 v_12 ((lenS v_12:Int)) g)/\∀e b a c d,I1 e b a c d->(BId (b<c) (((0<=b/\b<(lenZ 14 a:Int))/\Ae ((Ah d [] (.t (ixT 14 a b.toNat)) 0 14).map TV.agg) (fun (x1:TV)=>AM [.str,.int .i64,.bool,.bool,.str,.int .i64,.int .i64,.int .i64,.int .i64,.int .i64,.str,.tv,.tv,.tv] x1 (fun (s1:B8) (n1:Int) (b1 b2:Bool) (s2:B8) (n2 n3 n4 n5 n6:Int) (s3:B8) (v2 v3 v4:TV)=>need (List.all [.str s1,.int .i64 n1,.bool b1,.bool b2,.str s2,.int .i64 n2,.int .i64 n3,.int .i64 n4,.int .i64 n5,.int .i64 n6,.str s3,v2,v3,v4] As) (need (List.all (cV n1 b1 b2 s2 n2 n3 n4 n5 n6 s3 v2 v3 v4) As) (BF 63 13 168 e 1 (cV n1 b1 b2 s2 n2 n3 n4 n5 n6 s3 v2 v3 v4) d (fun (v5:TV) f=>(I1 v5 ((i64.wrap (b+(1:Int)))) a c f/\M1 v5 ((i64.wrap (b+(1:Int)))) a c f<M1 e b a c d)))))))) (K e d))))):CallT PR E0 [(.agg (cV v_0 a v_2 v_3 v_4 v_5 v_6 v_7 v_8 v_9 v_10 v_11 v_12))] [.one .tv] st K:=
 Ag (cfg:=⟨[1,5],[],[]⟩) (h:=(.seq .none (.seq .none (.seq (.seq .none (.block (.loop ⟨[(3,.tv),(12,.int .i64),(10,.tv),(11,.int .i64)],[],[],[]⟩ .none))) .none)))) mixed (fun _ _=>Tryz.call201 _ _) Tryz.func201 (by kernel_rfl) (by kernel_rfl) h
theorem Tv (b:Int) (st:St) (K:Int->Int->St->Prop) (h:BId (b<128) (K 1 ((i64.wrap b)) st) (BId ((192:Int)<=b) (BId (b<224) (K 2 ((i64.wrap (C0 .and .u8 b (31:Int)))) st) (BId ((224:Int)<=b) (BId (b<240) (K 3 ((i64.wrap (C0 .and .u8 b (15:Int)))) st) (BId ((240:Int)<=b) (BId (b<248) (K 4 ((i64.wrap (C0 .and .u8 b (7:Int)))) st) (K 0 0 st)) (K 0 0 st))) (BId ((240:Int)<=b) (BId (b<248) (K 4 ((i64.wrap (C0 .and .u8 b (7:Int)))) st) (K 0 0 st)) (K 0 0 st)))) (BId ((224:Int)<=b) (BId (b<240) (K 3 ((i64.wrap (C0 .and .u8 b (15:Int)))) st) (BId ((240:Int)<=b) (BId (b<248) (K 4 ((i64.wrap (C0 .and .u8 b (7:Int)))) st) (K 0 0 st)) (K 0 0 st))) (BId ((240:Int)<=b) (BId (b<248) (K 4 ((i64.wrap (C0 .and .u8 b (7:Int)))) st) (K 0 0 st)) (K 0 0 st))))):CallT PR Jr [.int .u8 b] [.one (.int .i64),.one (.int .i64)] st K:=
 Ag (cfg:=⟨[],[],[]⟩) (h:= .none) mixed (fun _ _=>Tryz.call210 _ _) Tryz.func210 (by kernel_rfl) (by kernel_rfl) h
theorem Qk (r:Int) (st:St) (K:Bool->St->Prop) (h:BId ((0:Int)<=r) (BId (r<=1114111) (BId (r<55296) (K true st) (K ((decide ((57343:Int)<r))) st)) (K false st)) (K false st)):CallT PR G5 [.int .i64 r] [.one .bool] st K:=
 Ag (cfg:=⟨[],[],[]⟩) (h:= .none) mixed (fun _ _=>Tryz.call211 _ _) Tryz.func211 (by kernel_rfl) (by kernel_rfl) h
theorem RX (r:Int) (st:St) (K:Int->St->Prop) (h:BId (r<128) (K 1 st) (BId (r<2048) (K 2 st) (BId (r<65536) (K 3 st) (K 4 st)))):CallT PR Ij [.int .i64 r] [.one (.int .i64)] st K:=
 Ag (cfg:=⟨[],[],[]⟩) (h:= .none) mixed (fun _ _=>Tryz.call212 _ _) Tryz.func212 (by kernel_rfl) (by kernel_rfl) h
theorem L5 (n:Int) (st:St) (K:B8->St->Prop) (h:BId (n=0) (K Lg st) (CallT PR EB [.int .i64 n] [.one .str] st (fun (s1:B8) a=>K s1 a))):CallT PR DH [.int .i64 n] [.one .str] st K:=
 Ag (cfg:=⟨[],[],[]⟩) (h:= .none) mixed (fun _ _=>Tryz.call222 _ _) Tryz.func222 (by kernel_rfl) (by kernel_rfl) h
theorem Ks (n:Int) (st:St) (K:B8->St->Prop) (h:CallT PR EV [.int .i64 n] [.one (.int .i64),.one (.int .i64),.one (.int .i64),.one (.int .i64)] st (fun (n1 n2 n3 n4:Int) d=>CallT PR AP [.int .i64 n1,.int .i64 4] [.one .str] d (fun (s1:B8) b=>(s1.length+Fc.length<=9223372036854775807/\CallT PR AP [.int .i64 n2,.int .i64 2] [.one .str] b (fun (s2:B8) a=>(((s1++Fc)).length+s2.length<=9223372036854775807/\((((s1++Fc)++s2)).length+Fc.length<=9223372036854775807/\CallT PR AP [.int .i64 n3,.int .i64 2] [.one .str] a (fun (s3:B8) c=>(((((s1++Fc)++s2)++Fc)).length+s3.length<=9223372036854775807/\K (((((s1++Fc)++s2)++Fc)++s3)) c))))))))):CallT PR BD [.int .i64 n] [.one .str] st K:=
 Ag (cfg:=⟨[],[],[]⟩) (h:= .none) mixed (fun _ _=>Tryz.call223 _ _) Tryz.func223 (by kernel_rfl) (by kernel_rfl) h
theorem J2 (nano:Int) (st:St) (K:B8->St->Prop) (h:CallT PR AP [(.int .i64 (i64.wrap (Int.tdiv (i64.wrap (Int.tdiv nano (1000000000:Int))) (3600:Int)))),.int .i64 2] [.one .str] st (fun (s1:B8) f=>(s1.length+DL.length<=9223372036854775807/\CallT PR AP [(.int .i64 (Int.tmod (i64.wrap (Int.tdiv (i64.wrap (Int.tdiv nano (1000000000:Int))) (60:Int))) (60:Int))),.int .i64 2] [.one .str] f (fun (s2:B8) g=>(((s1++DL)).length+s2.length<=9223372036854775807/\((((s1++DL)++s2)).length+DL.length<=9223372036854775807/\CallT PR AP [(.int .i64 (Int.tmod (i64.wrap (Int.tdiv nano (1000000000:Int))) (60:Int))),.int .i64 2] [.one .str] g (fun (s3:B8) d=>(((((s1++DL)++s2)++DL)).length+s3.length<=9223372036854775807/\BId ((Int.tmod nano (1000000000:Int))=(0:Int)) (K (((((s1++DL)++s2)++DL)++s3)) d) (CallT PR AP [(.int .i64 (Int.tmod nano (1000000000:Int))),.int .i64 9] [.one .str] d (fun (s4:B8) e=>∃(I1:B8->B8->St->Prop) (M1:B8->B8->St->Nat),(I1 s4 (((((s1++DL)++s2)++DL)++s3)) e)/\∀a b c,I1 a b c->(((0<=(i64.wrap ((a.length:Int)-(1:Int)))/\(i64.wrap ((a.length:Int)-(1:Int)))<(a.length:Int))/\BId (((List.getD a (Int.toNat (i64.wrap ((a.length:Int)-(1:Int)))) 0).toNat:Int)=(48:Int)) (((0<=(i64.wrap ((a.length:Int)-(1:Int)))/\(i64.wrap ((a.length:Int)-(1:Int)))<=(a.length:Int))/\(I1 ((List.take (Int.toNat (i64.wrap ((a.length:Int)-(1:Int)))) a)) b c/\M1 ((List.take (Int.toNat (i64.wrap ((a.length:Int)-(1:Int)))) a)) b c<M1 a b c))) ((b.length+J9.length<=9223372036854775807/\(((b++J9)).length+a.length<=9223372036854775807/\K (((b++J9)++a)) c))))))))))))))):CallT PR Br [.int .i64 nano] [.one .str] st K:=
 Ag (cfg:=⟨[],[],[]⟩) (h:=(.seq .none (.seq .none (.seq .none (.seq .none (.seq .none (.seq (.block (.loop ⟨[(6,.str),(5,.str)],[],[],[]⟩ .none)) .none))))))) mixed (fun _ _=>Tryz.call224 _ _) Tryz.func224 (by kernel_rfl) (by kernel_rfl) h
theorem IY (n:Int) (st:St) (K:B8->St->Prop) (h:BId (n=0) (K str24 st) (BId (n<0) (CallT PR AP [(.int .i64 (i64.wrap (Int.tdiv (i64.wrap (0-n)) (60:Int)))),.int .i64 2] [.one .str] st (fun (s1:B8) d=>(Fc.length+s1.length<=9223372036854775807/\(((Fc++s1)).length+DL.length<=9223372036854775807/\CallT PR AP [(.int .i64 (Int.tmod (i64.wrap (0-n)) (60:Int))),.int .i64 2] [.one .str] d (fun (s2:B8) b=>((((Fc++s1)++DL)).length+s2.length<=9223372036854775807/\K ((((Fc++s1)++DL)++s2)) b)))))) (CallT PR AP [(.int .i64 (i64.wrap (Int.tdiv n (60:Int)))),.int .i64 2] [.one .str] st (fun (s3:B8) a=>(TL.length+s3.length<=9223372036854775807/\(((TL++s3)).length+DL.length<=9223372036854775807/\CallT PR AP [(.int .i64 (Int.tmod n (60:Int))),.int .i64 2] [.one .str] a (fun (s4:B8) c=>((((TL++s3)++DL)).length+s4.length<=9223372036854775807/\K ((((TL++s3)++DL)++s4)) c)))))))):CallT PR Dv [.int .i64 n] [.one .str] st K:=
 Ag (cfg:=⟨[],[],[]⟩) (h:= .none) mixed (fun _ _=>Tryz.call225 _ _) Tryz.func225 (by kernel_rfl) (by kernel_rfl) h
theorem GV (s:B8) (prefixx:B8) (st:St) (K:Bool->St->Prop) (h:BId ((prefixx.length:Int)<=(s.length:Int)) (((0<=(prefixx.length:Int)/\(prefixx.length:Int)<=(s.length:Int))/\K ((decide ((List.take (Int.toNat (prefixx.length:Int)) s)=prefixx))) st)) (K false st)):CallT PR DY [.str s,.str prefixx] [.one .bool] st K:=
 Ag (cfg:=⟨[],[],[]⟩) (h:= .none) mixed (fun _ _=>Tryz.call235 _ _) Tryz.func235 (by kernel_rfl) (by kernel_rfl) h
theorem NF (s:B8) (st:St) (K:Int->Int->St->Prop) (h:CallT PR D4 [.str s] [.one .bool] st (fun (b1:Bool) f=>BIf (!b1) (K 0 3 f) (∃(I1:Int->Int->B8->Int->St->Prop) (M1:Int->Int->B8->Int->St->Nat),(I1 0 0 s ((s.length:Int)) f)/\∀c a b e d,I1 c a b e d->(BId (a<e) (((0<=a/\a<(b.length:Int))/\BId ((i64.wrap (Int.tdiv (i64.wrap ((9223372036854775807:Int)-(i64.wrap (u8.wrap (((List.getD b a.toNat 0).toNat:Int)-(48:Int)))))) (10:Int)))<c) (K 0 2 d) ((I1 ((i64.wrap ((i64.wrap (c*(10:Int)))+(i64.wrap (u8.wrap (((List.getD b a.toNat 0).toNat:Int)-(48:Int))))))) ((i64.wrap (a+(1:Int)))) b e d/\M1 ((i64.wrap ((i64.wrap (c*(10:Int)))+(i64.wrap (u8.wrap (((List.getD b a.toNat 0).toNat:Int)-(48:Int))))))) ((i64.wrap (a+(1:Int)))) b e d<M1 c a b e d)))) (K c 0 d))))):CallT PR Fv [.str s] [.one (.int .i64),.one (.int .i64)] st K:=
 Ag (cfg:=⟨[],[],[]⟩) (h:=(.seq .none (.seq .none (.seq .none (.seq (.seq .none (.block (.loop ⟨[(4,.int .i64),(12,.int .i64),(0,.str),(11,.int .i64)],[],[],[]⟩ .none))) .none))))) mixed (fun _ _=>Tryz.call236 _ _) Tryz.func236 (by kernel_rfl) (by kernel_rfl) h
theorem NI (neg:Bool) (s:B8) (exp:Int) (st:St) (K:Bool->B8->Int->Int->St->Prop) (h:BId (s=([]:B8)) (K false [] 0 0 st) (CallT PR Du [.str s,.str Lg] [.one .str] st (fun (s1:B8) a=>((0<=(i64.wrap ((s.length:Int)-(i64.wrap ((s.length:Int)-(s1.length:Int)))))/\(i64.wrap ((s.length:Int)-(i64.wrap ((s.length:Int)-(s1.length:Int)))))<=(s.length:Int))/\BId ((i64.wrap ((400:Int)-(i64.wrap ((s.length:Int)-(s1.length:Int)))))<exp) (K false [] 0 2 a) (BId (exp<(i64.wrap ((-400:Int)-(i64.wrap ((s.length:Int)-(s1.length:Int)))))) (K false [] 0 2 a) (BId ((120:Int)<(((List.take (Int.toNat (i64.wrap ((s.length:Int)-(i64.wrap ((s.length:Int)-(s1.length:Int)))))) s)).length:Int)) (K false [] 0 2 a) (K neg ((List.take (Int.toNat (i64.wrap ((s.length:Int)-(i64.wrap ((s.length:Int)-(s1.length:Int)))))) s)) ((i64.wrap (exp+(i64.wrap ((s.length:Int)-(s1.length:Int)))))) 0 a))))))):CallT PR Fz [.bool neg,.str s,.int .i64 exp] [.agg [.bool,.str,.int .i64],.one (.int .i64)] st K:=
 Ag (cfg:=⟨[6],[],[]⟩) (h:= .none) mixed (fun _ _=>Tryz.call241 _ _) Tryz.func241 (by kernel_rfl) (by kernel_rfl) h
end Go.TVF
