/- What the laws below rest on: a framework for Go programs, and contracts of the functions that they reach. -/
import Derived.Test.YtpfhcnpnngjpnaaGreatDoorGbB
import Derived.Deep.Slices
import Derived.WideShapes
import Derived.ChangeArms
import Derived.OpenShut
import Derived.Test.YtpfhcnpnngjpnaaGreatDoorProg
import Derived.KernelRfl
set_option maxRecDepth 20000
set_option linter.unusedVariables false
set_option linter.unusedSimpArgs false
section
namespace Go.TVF
open Go.IntKind(i64 u8)
open Go.RowKit (Below)
theorem Rh {P:Program} {Q:Exit->Act->World->Prop} {a:Act} {w:World} {c:Code} (I:Nat->Act->World->Prop) (h₀:∃m,I m a w)
  (round:∀m a w,I m a w->c.wp P (Exit.then (fun a' w'=>∃m',m'<m/\I m' a' w') Q) a w):(Code.loop c).wp P Q a w:=by
 intro b k cs
 have key:∀m a w,I m a w->∃e a' w',Q e a' w'/\Arrives P (lone (b.at a (.code c:: .inLoop c::k)) cs w) b k cs e a' w':=by
  intro m
  induction m using Nat.strongRecOn with
  | _ m ih=>
   intro a w hI
   obtain⟨e,a₁,w₁,hq,harr⟩:=round m a w hI b (.inLoop c::k) cs
   cases e with
   | normal=>
    obtain⟨m',hlt,hI₁⟩:=hq
    obtain⟨e₂,a₂,w₂,hq₂,harr₂⟩:=ih m' hlt a₁ w₁ hI₁
    exact⟨e₂,a₂,w₂,hq₂,.of_steps (Steps.trans harr (.one step_inLoop)) harr₂⟩
   | exit id=>exact⟨_,a₁,w₁,hq,.pass (x:= .inLoop c) rfl (fun _ _=> .inl (by simp)) harr⟩
   | goto l=>exact⟨_,a₁,w₁,hq,.pass (x:= .inLoop c) rfl (fun _ _=> .inl (by simp)) harr⟩
   | ret=>exact⟨_,a₁,w₁,hq,.pass (x:= .inLoop c) rfl (fun _ _=> .inl (by simp)) harr⟩
   | panic ch=>exact⟨_,a₁,w₁,hq,.pass (x:= .inLoop c) rfl (fun _ _=> .inl (by simp)) harr⟩
   | outgrown=>exact⟨_,a₁,w₁,hq,.pass (x:= .inLoop c) rfl (fun _ _=> .inl (by simp)) harr⟩
 obtain⟨m,hm⟩:=h₀
 obtain⟨e,a',w',hq,harr⟩:=key m a w hm
 exact⟨e,a',w',hq,.of_steps (.one step_loop) harr⟩
theorem OQ:∀{cs:List CTy} {vs:List TV} {I:Fun cs (St->Prop)} {M:Fun cs (St->Nat)} {B:List TV->Nat->St->Prop} {st:St},AllC cs I M B->Kq cs vs I (fun p=>p st)->∃m,B vs m st
 | [],[],I,M,B,st,h,hd=>⟨_,h st hd⟩
 | [],_::_,I,M,B,st,h,hd=>hd.elim
 | _::_,[],I,M,B,st,h,hd=>hd.elim
 | c::cs,v::vs,I,M,B,st,h,hd=>by
  obtain⟨y,rfl,hd2⟩:=DS hd
  exact OQ (B:=fun l=>B (enc c y::l)) (h y) hd2
theorem Qb:∀{cs:List CTy} {vs:List TV} {I:Fun cs (St->Prop)} {M:Fun cs (St->Nat)} {B:List TV->Nat->St->Prop} {st:St} {m:Nat},AllC cs I M B->Sw cs vs I M (fun p q=>p st/\q st<m)->∃m',m'<m/\B vs m' st
 | [],[],I,M,B,st,m,h,hd=>⟨_,hd.2,h st hd.1⟩
 | [],_::_,I,M,B,st,m,h,hd=>hd.elim
 | _::_,[],I,M,B,st,m,h,hd=>hd.elim
 | c::cs,v::vs,I,M,B,st,m,h,hd=>by
  obtain⟨y,rfl,hd2⟩:=DS hd
  exact Qb (B:=fun l=>B (enc c y::l)) (h y) hd2
theorem MX:∀{cs:List CTy} {vs:List TV} {I:Fun cs (St->Prop)} {B:List TV->St->Prop} {st:St},XZ cs I B->Kq cs vs I (fun p=>p st)->B vs st
 | [],[],I,B,st,h,hd=>h st hd
 | [],_::_,I,B,st,h,hd=>hd.elim
 | _::_,[],I,B,st,h,hd=>hd.elim
 | c::cs,v::vs,I,B,st,h,hd=>by
  obtain⟨y,rfl,hd2⟩:=DS hd
  exact MX (B:=fun l=>B (enc c y::l)) (h y) hd2
def QPost (g:Ghost) (w:World) (a0:Act) (Q:Exit->Fr->St->Prop) (e:Exit) (a:Act) (w':World):Prop:=Kt g w a0 (Q e) a w'
section
variable {P:Program} {cfg:Cfg} {ns nl:Nat}
theorem V6 (hm:P.follows .mixedOrders=true):∀(c:Code) (h:JG) (Q:Exit->Fr->St->Prop) (fr:Fr) (st:St) (g:Ghost) (w:World) (a:Act),cwp cfg P ns nl c h Q fr st->Sim g st fr.loc w->Gf g w fr a.tmps->a.tmps.size=ns->
  c.wp P (QPost g w a Q) a w:=by
 intro c
 induction c with
 | skip=>intro h Q fr st g w a hc s hf hn;exact wp_skip ⟨fr,st,g,hc,s,hf,Ext.refl _ _,rfl,rfl⟩
 | region id ops draw=>
  intro h Q fr st g w a hc s hf hn
  cases draw with
  | false=>exact wp_region_list (MG ops.toList fr st g w a hc s hf fun a' w' hp=>hp)
  | true=>exact QQ hm hc s hf fun a' w' hp=>hp
 | seq x y ihx ihy=>
  intro h Q fr st g w a hc s hf hn
  have key:∀(hx hy:JG),cwp cfg P ns nl x hx (Rz (cwp cfg P ns nl y hy Q) Q) fr st->(Code.seq x y).wp P (QPost g w a Q) a w:=by
   intro hx hy hcx
   refine wp_seq (wp_mono (ihx hx _ fr st g w a hcx s hf hn) fun e a' w' hq=>?_)
   obtain⟨fr',st',g',h1,h2,h3,h4,h5⟩:=hq
   cases e with
   | normal=>
    refine wp_mono (ihy hy Q fr' st' g' w' a' h1 h2 h3 (h5.2.trans hn)) fun e a'' w'' hq2=>?_
    exact hq2.ext h4 h5
   | _=>exact⟨fr',st',g',h1,h2,h3,h4,h5⟩
  cases h with
  | cut k hx hy=>
   obtain⟨R,h1,h2⟩:=hc
   refine wp_seq (wp_mono (ihx hx _ fr st g w a h1 s hf hn) fun e a' w' hq=>?_)
   obtain⟨fr',st',g',q1,q2,q3,q4,q5⟩:=hq
   cases e with
   | normal=>
    have q1':need (k.ok nl fr') (Kq k.tys (k.vals fr') R fun p=>p st'):=q1
    rw[Ar]at q1'
    obtain⟨w1,w2⟩:=Fa.weak (ns:=ns) q1'.1 q2 q3 (q5.2.trans hn)
    have hb:=MX h2 q1'.2
    exact wp_mono (ihy hy Q _ st' g' w' a' hb w1 w2 (q5.2.trans hn)) fun e a'' w'' hq2=>hq2.ext q4 q5
   | _=>exact⟨fr',st',g',q1,q2,q3,q4,q5⟩
  | none=>exact key _ _ hc
  | seq p q=>exact key _ _ hc
  | cond p q=>exact key _ _ hc
  | block p=>exact key _ _ hc
  | loop k p=>exact key _ _ hc
 | cond c x y ihx ihy=>
  intro h Q fr st g w a hc s hf hn
  simp only[cwp]at hc
  split at hc
  ·rename_i b hb
   have hr:=Qx hf c
   rw[hb]at hr
   have hr':Rel g w (.bool b) (a.eval c):=hr
   have hev:a.eval c= .bool b:=by generalize a.eval c=q at hr';cases hr';rfl
   cases b with
   | true=>exact wp_cond_true hev (ihx h.l Q fr st g w a hc s hf hn)
   | false=>exact wp_cond_false hev (ihy h.r Q fr st g w a hc s hf hn)
  ·exact hc.elim
 | block id x ih=>
  intro h Q fr st g w a hc s hf hn
  refine wp_block (wp_mono (ih h.l (Ui id Q) fr st g w a hc s hf hn) fun e a' w' hq=>?_)
  obtain⟨fr',st',g',h1,h2,h3,h4,h5⟩:=hq
  cases e with
  | exit id'=>
   simp only[Ui]at h1
   by_cases hid:id'=id
   ·subst hid
    have hbe:(id'.beq id')=true:=Nat.beq_refl id'
    simp only[hbe]at h1
    simp only[Exit.inBlock,if_true]
    exact⟨fr',st',g',h1,h2,h3,h4,h5⟩
   ·have hbe:(id'.beq id)=false:=by
     cases hq:id'.beq id with
     | false=>rfl
     | true=>exact absurd (Nat.eq_of_beq_eq_true hq) hid
    simp only[hbe]at h1
    simp only[Exit.inBlock,hid,if_false]
    exact⟨fr',st',g',h1,h2,h3,h4,h5⟩
  | _=>exact⟨fr',st',g',h1,h2,h3,h4,h5⟩
 | loop x ih=>
  intro h Q fr st g w a hc s hf hn
  cases h with
  | loop k hx=>
   obtain⟨I,M,h1,h2⟩:=hc
   rw[Ar]at h1
   refine Rh (fun m a' w'=>∃vals st' g',cwp cfg P ns nl x hx (Rz (fun fr st=>need (k.ok nl fr) (Sw k.tys (k.vals fr) I M fun p q=>p st/\q st<m)) Q) (k.frame ns nl vals) st'/\
    Sim g' st' (k.frame ns nl vals).loc w'/\Gf g' w' (k.frame ns nl vals) a'.tmps/\Ext g w g' w'/\a'.defers=a.defers/\a'.tmps.size=a.tmps.size) ?_ ?_
   ·obtain⟨m,hm⟩:=OQ h2 h1.2
    obtain⟨w1,w2⟩:=Fa.weak (ns:=ns) h1.1 s hf hn
    exact⟨m,_,st,g,hm,w1,w2,Ext.refl _ _,rfl,rfl⟩
   ·rintro m a' w' ⟨vals,st',g',q1,q2,q3,q4,q5⟩
    refine wp_mono (ih hx _ _ st' g' w' a' q1 q2 q3 (q5.2.trans hn)) fun e a'' w'' hq=>?_
    obtain⟨fr2,st2,g2,r1,r2,r3,r4,r5⟩:=hq
    cases e with
    | normal=>
     have r1':need (k.ok nl fr2) (Sw k.tys (k.vals fr2) I M fun p q=>p st2/\q st2<m):=r1
     rw[Ar]at r1'
     obtain⟨m',hlt,hB⟩:=Qb h2 r1'.2
     obtain⟨w1,w2⟩:=Fa.weak (ns:=ns) r1'.1 r2 r3 (r5.2.trans (q5.2.trans hn))
     exact⟨m',hlt,_,st2,g2,hB,w1,w2,q4.trans r4,r5.1.trans q5.1,r5.2.trans q5.2⟩
    | _=>exact⟨fr2,st2,g2,r1,r2,r3,q4.trans r4,r5.1.trans q5.1,r5.2.trans q5.2⟩
  | _=>exact hc.elim
 | exit id=>intro h Q fr st g w a hc s hf hn;exact wp_exit ⟨fr,st,g,hc,s,hf,Ext.refl _ _,rfl,rfl⟩
 | ret=>intro h Q fr st g w a hc s hf hn;exact wp_ret ⟨fr,st,g,hc,s,hf,Ext.refl _ _,rfl,rfl⟩
 | _=>intro h Q fr st g w a hc s hf hn;exact hc.elim
def L6 (P:Program) (fr:Fr) (st:St):ResultVar->Option TV
 | .tmp t=>some (LZ fr t)
 | .cell a t=>match KS P t with
  | some true=>match P.cellsOf t with
   | 0=>none
   | n=>(Ai st fr.loc (fr.slots.f a) 0 n).map .agg
  | some false=>Ac st fr.loc (fr.slots.f a) 0
  | none=>none
def Jk (P:Program) (fr:Fr) (st:St):List ResultVar->Option (List TV)
 | []=>some []
 | r::rs=>match L6 P fr st r with
  | some v=>(Jk P fr st rs).map (v::·)
  | none=>none
def SZ:List TV->TV
 | [v]=>v
 | vs=> .tuple vs
def resT (P:Program) (fn:Func) (fr:Fr) (st:St):Option TV:=(Jk P fr st fn.results.toList).map SZ
def QA (P:Program) (fr:Fr) (st:St) (r:ResultVar) (k:TV->Prop):Prop:=
 match r with
 | .tmp t=>k (LZ fr t)
 | .cell a t=>match KS P t with
  | some true=>match P.cellsOf t with
   | 0=>False
   | n=>Ah ((Ai st fr.loc (fr.slots.f a) 0 n).map .agg) k
  | some false=>Ah (Ac st fr.loc (fr.slots.f a) 0) k
  | none=>False
def Lm (P:Program) (fr:Fr) (st:St):List ResultVar->(List TV->Prop)->Prop
 | [],k=>k []
 | r::rs,k=>QA P fr st r fun v=>Lm P fr st rs fun vs=>k (v::vs)
theorem O6 {P:Program} {fr:Fr} {st:St} {r:ResultVar} {k:TV->Prop} (h:QA P fr st r k):∃v,L6 P fr st r=some v/\k v:=by
 cases r with
 | tmp t=>exact⟨_,rfl,h⟩
 | cell a t=>
  unfold QA at h
  unfold L6
  simp only at h⊢
  cases ha:KS P t with
  | none=>rw[ha]at h;exact h.elim
  | some b=>
   rw[ha]at h
   cases b with
   | true=>
    simp only at h⊢
    cases hn:P.cellsOf t with
    | zero=>rw[hn]at h;exact h.elim
    | succ n=>
     rw[hn]at h
     exact DF.1 h
   | false=>exact DF.1 h
theorem Kf {P:Program} {fr:Fr} {st:St}:∀{rs:List ResultVar} {k:List TV->Prop},Lm P fr st rs k->∃vs,Jk P fr st rs=some vs/\k vs
 | [],k,h=>⟨[],rfl,h⟩
 | r::rs,k,h=>by
  obtain⟨v,h1,h2⟩:=O6 h
  obtain⟨vs,h3,h4⟩:=Kf h2
  exact⟨v::vs,by simp[Jk,h1,h3],h4⟩
def retQ (P:Program) (fn:Func) (R:TV->St->Prop):Exit->Fr->St->Prop
 | .normal,fr,st=>Lm P fr st fn.results.toList fun vs=>R (SZ vs) st
 | .ret,fr,st=>Lm P fr st fn.results.toList fun vs=>R (SZ vs) st
 | _,_,_=>False
def HT (cfg:Cfg) (fn:Func) (args:List TV):Fr:=⟨⟨fn.ntmps,fun i=>match args[i]? with | some v=> .t v | none=> .t .undef⟩,cfg.loc.map fun _=>none⟩
theorem Qz {g:Ghost} {st:St} {w:World} {fr:Fr} {tmps:Array Value} (s:Sim g st fr.loc w) (hf:Gf g w fr tmps) {r:ResultVar} {v:TV} (h:L6 P fr st r=some v):
  ∃u,(match r with | .tmp t=>pure (tmps.getD t Go.undef) | .cell a t=>do loadVar t (<-asAddr (tmps.getD a Go.undef)):Sem Value).run P w= .ok u w/\Rel g w v u:=by
 cases r with
 | tmp t=>
  simp only[L6,Option.some.injEq]at h
  subst h
  exact⟨_,rfl,(hf.2 t).tv⟩
 | cell a t=>
  simp only[L6]at h
  have hld:∀p,Bn g w fr.loc p (tmps.getD a Go.undef)->(Eb P st fr.loc t p).Is (.t v)->∃u,(do loadVar t (<-asAddr (tmps.getD a Go.undef)):Sem Value).run P w= .ok u w/\Rel g w v u:=by
   intro p hp hl
   have hl':=hl
   obtain⟨u,hu,hr⟩:=Ok (P:=P) s hp hl'
   have hsa:(Instr.loadAt t (tmps.getD a Go.undef)).run P w=(do loadVar t (<-asAddr (tmps.getD a Go.undef)):Sem Value).run P w:=by
    generalize hq:tmps.getD a Go.undef=q at hp hu
    simp only[Instr.loadAt,Sem.run_bind]
    cases q with
    | pointer o=>cases o with
     | none=>simp[Instr.loadAt,Instr.sureAddr]at hu
     | some ad=>simp[Instr.sureAddr,asAddr]
    | _=>simp[Instr.loadAt,Instr.sureAddr]at hu
   exact⟨u,by rw[<-hsa];exact hu,hr⟩
  split at h
  ·rename_i ha
   split at h
   ·cases h
   ·rename_i n hn
    refine hld _ (hf.2 a) ?_
    unfold Eb
    rw[ha]
    exact⟨v,by
     split
     ·rename_i h0;exact absurd h0 hn
     ·exact h,rfl⟩
  ·rename_i ha
   refine hld _ (hf.2 a) ?_
   unfold Eb
   rw[ha]
   exact⟨v,h,rfl⟩
  ·cases h
theorem Ll {g:Ghost} {st:St} {w:World} {fr:Fr} {tmps:Array Value} (s:Sim g st fr.loc w) (hf:Gf g w fr tmps):∀{rs:List ResultVar} {vs:List TV},Jk P fr st rs=some vs->
  ∃us:List Value,(rs.mapM (fun r=>match r with | .tmp t=>pure (tmps.getD t Go.undef) | .cell a t=>do loadVar t (<-asAddr (tmps.getD a Go.undef))):Sem (List Value)).run P w= .ok us w/\AK g w vs us
 | [],vs,h=>by simp only[Jk,Option.some.injEq]at h;subst h;exact⟨[],rfl,.nil _ _⟩
 | r::rs,vs,h=>by
  simp only[Jk]at h
  split at h
  ·rename_i v hv
   obtain⟨vs',hvs',rfl⟩:=Option.map_eq_some_iff.1 h
   obtain⟨u,hu,hr⟩:=Qz s hf hv
   obtain⟨us,hus,hrs⟩:=Ll s hf hvs'
   refine⟨u::us,?_,.cons hr hrs⟩
   rw[List.mapM_cons]
   simp only[Sem.run_bind,hu,Result.andThen_ok,hus,Sem.run_pure]
  ·cases h
theorem Te {g:Ghost} {st:St} {w:World} {fr:Fr} {tmps:Array Value} (s:Sim g st fr.loc w) (hf:Gf g w fr tmps) {fn:Func} {v:TV} (h:resT P fn fr st=some v):∃u,(results fn tmps).run P w= .ok u w/\Rel g w v u:=by
 unfold resT at h
 cases hr:Jk P fr st fn.results.toList with
 | none=>rw[hr]at h;cases h
 | some vs=>
  rw[hr]at h
  obtain⟨us,hus,hrel⟩:=Ll s hf hr
  have hrun:(fn.results.mapM (fun r=>match r with | .tmp t=>pure (tmps.getD t Go.undef) | .cell a t=>do loadVar t (<-asAddr (tmps.getD a Go.undef))):Sem (Array Value)).run P w= .ok us.toArray w:=by
   rw[<-Array.toArray_toList (xs:=fn.results),List.mapM_toArray]
   simp only[Sem.run_map,hus,Result.andThen_ok]
  refine⟨if h:us.toArray.size=1 then us.toArray[0]else .tuple us.toArray,?_,?_⟩
  ·have hres:results fn tmps=(do
     let vs<-(fn.results.mapM (fun r=>match r with | .tmp t=>pure (tmps.getD t Go.undef) | .cell a t=>do loadVar t (<-asAddr (tmps.getD a Go.undef))):Sem (Array Value))
     pure (if h:vs.size=1 then vs[0]else .tuple vs)):=rfl
   rw[hres,Sem.run_bind,hrun]
   rfl
  ·cases vs with
   | nil=>
    simp only[Option.map_some,Option.some.injEq,SZ]at h;subst h
    have:us=[]:=List.eq_nil_of_length_eq_zero hrel.1.symm
    subst this
    exact Rel.tuple [] [] rfl (fun i hi=>absurd hi (Nat.not_lt_zero _))
   | cons v1 vs1=>cases vs1 with
    | nil=>
     simp only[Option.map_some,Option.some.injEq,SZ]at h;subst h
     cases us with
     | nil=>have:=hrel.1;simp at this
     | cons u1 us1=>
      have:us1=[]:=List.eq_nil_of_length_eq_zero (by have:=hrel.1;simpa using this.symm)
      subst this
      simpa using hrel.2 0 (by simp)
    | cons v2 vs2=>
     simp only[Option.map_some,Option.some.injEq,SZ]at h;subst h
     have hl:us.toArray.size≠1:=by have:=hrel.1;simp at this⊢;omega
     rw[dif_neg hl]
     exact Rel.tuple _ us hrel.1 hrel.2
theorem Vn (hm:P.follows .mixedOrders=true) {f:FuncId} {fn:Func} {c:Code} (hcall:∀(vs:Array Value) (w:World),(callFunc f vs).run P w= .ok (.enter f vs) w) (hf:P.funcs[f]? =some fn) (hb:fn.body=some c)
  (cfg:Cfg) (h:JG) {args:List TV} {st:St} {R:TV->St->Prop} (hn:args.length<=fn.ntmps)
  (hc:cwp cfg P fn.ntmps cfg.loc.length c h (retQ P fn R) (HT cfg fn args) st):Fm P f args st R:=by
 refine Dn hcall fun g w vargs s hr=>?_
 refine calls_of_wp hf hb ?_
 have hlen:vargs.length=args.length:=hr.1.symm
 have hsize:(vargs.toArray++Array.replicate (fn.ntmps-vargs.toArray.size) Go.undef).size=fn.ntmps:=by simp;omega
 have hsim:Sim g st (HT cfg fn args).loc w:=s.weakLoc fun j x' hx'=>by
  simp only[HT,List.getElem?_map]at hx'
  cases hq:cfg.loc[j]? with
  | none=>rw[hq]at hx';cases hx'
  | some q=>rw[hq]at hx';simp at hx'
 have hfr:Gf g w (HT cfg fn args) (vargs.toArray++Array.replicate (fn.ntmps-vargs.toArray.size) Go.undef):=by
  refine⟨by rw[hsize];rfl,fun i=>?_⟩
  by_cases hia:i<args.length
  ·have h1:(HT cfg fn args).slots.f i= .t args[i]:=by simp[HT,hia]
   have h2:(vargs.toArray++Array.replicate (fn.ntmps-vargs.toArray.size) Go.undef).getD i Go.undef=vargs.getD i Go.undef:=by
    have:i<vargs.length:=by omega
    have hin:i<fn.ntmps:=by omega
    simp[Array.getD,Array.getElem_append,this,hin,List.getD_eq_getElem?_getD]
    omega
   rw[h1,h2]
   exact hr.2 i hia
  ·have h1:(HT cfg fn args).slots.f i= .t .undef:=by simp[HT,hia]
   have h2:(vargs.toArray++Array.replicate (fn.ntmps-vargs.toArray.size) Go.undef).getD i Go.undef=Go.undef:=by
    have:¬i<vargs.length:=by omega
    simp[Array.getD,Array.getElem_append,this]
   rw[h1,h2]
   exact Rel.undef
 refine wp_mono (V6 hm c h _ _ st g w {tmps:=vargs.toArray++Array.replicate (fn.ntmps-vargs.toArray.size) Go.undef,defers:=[]} hc hsim hfr hsize) fun e a' w' hq=>?_
 obtain⟨fr',st',g',h1,h2,h3,h4,h5,h6⟩:=hq
 have fin:Lm P fr' st' fn.results.toList (fun vs=>R (SZ vs) st')->a'.defers=[]/\∃v,(results fn a'.tmps).run P w'= .ok v w'/\∃v',Ending.returned v= .returned v'/\∃r st' g',R r st'/\Sim g' st' [] w'/\Rel g' w' r v'/\Ext g w g' w':=by
  intro ho
  obtain⟨vs,hvs,hR⟩:=Kf ho
  obtain⟨u,hu,hrel⟩:=Te (fn:=fn) h2 h3 (by unfold resT;rw[hvs];rfl)
  exact⟨h5,u,hu,u,rfl,_,st',g',hR,h2.dropLoc (fun j x hx=>by simp at hx),hrel,h4⟩
 cases e with
 | normal=>exact fin h1
 | ret=>exact fin h1
 | _=>exact h1.elim
def St.zero:St:={nb:=0,box:=fun _=> .dead,nt:=0,live:=fun _=>false,ty:=fun _=>none,bt:=fun _=>none}
def Ghost.start (w:World):Ghost:={base:=w.heap.size,w0:=w,nb:=0,bk:=fun _=>0,lam:=fun _=>0,nt:=0,sp:=fun _=>none,S:=fun a=>a.spot=none/\∃v,w.cell? a=some v,prot:=fun _=>False}
theorem Sim.start (w:World) (hG:∀w',Below w.heap.size w w'->GlobOK w'):Sim (Ghost.start w) St.zero [] w:=by
 have hd:∀k,¬Dom St.zero [] k:=by
  intro k d
  cases k with
  | box i=>exact absurd d (Nat.not_lt_zero _)
  | loc i=>obtain⟨x,hx⟩:=d;simp at hx
 exact⟨rfl,rfl,Below.refl _ _,Nat.le_refl _,fun k d=>absurd d (hd k),fun k k' d=>absurd d (hd k),fun k d=>absurd d (hd k),fun id h=>absurd h (Nat.not_lt_zero _),
  fun id b l h hh=>(by cases hh),fun i j b l h l' h' _ hh=>(by cases hh),fun id _=>rfl,fun a ha=>⟨ha.1,ha.2,fun k d=>absurd d (hd k),fun id l h hh=>(by cases hh)⟩,fun b hb=>hb.elim,fun id b l h hh=>(by cases hh),fun id b l h T hh=>(by cases hh),fun b T hb=>absurd hb (Nat.not_lt_zero _),hG⟩
theorem Ud {f:FuncId} {args:List TV} (hcall:∀(vs:Array Value) (w:World),(callFunc f vs).run P w= .ok (.enter f vs) w) (h:Fm P f args St.zero fun r _=>r= .bool true) (w:World) (hG:∀w',Below w.heap.size w w'->GlobOK w') (vargs:List Value) (hr:AK (Ghost.start w) w args vargs):
  Calls P f vargs.toArray w fun e w'=>e= .returned (.bool true)/\Below w.heap.size w w':=by
 have h1:=h.run (Ghost.start w) w vargs (Sim.start w hG) hr
 unfold CV at h1
 rw[hcall]at h1
 refine Calls.mono h1 ?_
 rintro e w' ⟨v,rfl,r,st',g',rfl,s',hrel,e'⟩
 have hb:=s'.below
 rw[e'.base,e'.w0]at hb
 cases hrel
 exact⟨rfl,hb⟩
end
def Uh (fn:Func):Code:=match fn.body with | some c=>c | none=> .skip
def Fw (cfg:Cfg) (P:Program) (h:JG) (fn:Func) (args:List TV) (st:St) (R:TV->St->Prop):Prop:=
 cwp cfg P fn.ntmps cfg.loc.length (Uh fn) h (retQ P fn R) (HT cfg fn args) st
def fits (fn:Func) (args:List TV):Bool:=(fn.body.isSome).and (args.length.ble fn.ntmps)
theorem Ae {P:Program} (hm:P.follows .mixedOrders=true) {f:FuncId} {fn:Func} (hcall:∀(vs:Array Value) (w:World),(callFunc f vs).run P w= .ok (.enter f vs) w) (hf:P.funcs[f]? =some fn)
  {cfg:Cfg} {h:JG} {args:List TV} {st:St} {R:TV->St->Prop} (hn:fits fn args=true) {V:Prop} (he:Fw cfg P h fn args st R=V) (hV:V):Fm P f args st R:=by
 simp only[fits,Bool.and_eq_true]at hn
 obtain⟨c,hc⟩:=Option.isSome_iff_exists.1 hn.1
 have hb:fn.body=some (Uh fn):=by rw[Uh,hc]
 rw[<-he]at hV
 exact Vn hm hcall hf hb cfg h (Nat.le_of_ble_eq_true hn.2) hV
def AU (cs:List CTy) (v:TV) (f:Fun cs Prop):Prop:=
 match v with
 | .agg l=>decL cs l f
 | _=>False
def stB (st:St) (p:TV) (xs:List TV) (k:St->Prop):Prop:=
 match p with
 | .box b off=>∃l,st.box b= .cells l/\off+xs.length<=l.length/\k (st.put b (.cells (setAll l off xs)))
 | _=>False
theorem Aa {p:Prop} [Decidable p] {x y:Prop} (h1:p->x) (h2:¬p->y):BIf (decide p) x y:=by
 by_cases h:p
 ·simp only[h,decide_true,BIf];exact h1 h
 ·simp only[h,decide_false,BIf];exact h2 h
theorem Al {b:Bool} {x y:Prop} (h1:b=true->x) (h2:b=false->y):BIf b x y:=by
 cases b
 ·exact h2 rfl
 ·exact h1 rfl
end Go.TVF
end
section
namespace Go.TVF
open Go.IntKind(i64 u8)
structure Ap (a b:St):Prop where
 nb:a.nb<=b.nb
 box:∀i,i<a.nb->b.box i=a.box i
 nt:a.nt<=b.nt
 live:∀i,i<a.nt->b.live i=a.live i
 ty:∀i,i<a.nt->b.ty i=a.ty i
 bt:∀i,i<a.nb->b.bt i=a.bt i
theorem Ap.refl (a:St):Ap a a:=⟨Nat.le_refl _,fun _ _=>rfl,Nat.le_refl _,fun _ _=>rfl,fun _ _=>rfl,fun _ _=>rfl⟩
theorem Ap.trans {a b c:St} (h:Ap a b) (k:Ap b c):Ap a c:=
 ⟨Nat.le_trans h.nb k.nb,fun i hi=>(k.box i (Nat.lt_of_lt_of_le hi h.nb)).trans (h.box i hi),Nat.le_trans h.nt k.nt,fun i hi=>(k.live i (Nat.lt_of_lt_of_le hi h.nt)).trans (h.live i hi),fun i hi=>(k.ty i (Nat.lt_of_lt_of_le hi h.nt)).trans (h.ty i hi),fun i hi=>(k.bt i (Nat.lt_of_lt_of_le hi h.nb)).trans (h.bt i hi)⟩
theorem Ap.fresh {a b:St} (h:Ap a b) (T:Option Nat):Ap a (b.fresh T):=
 h.trans ⟨Nat.le_refl _,fun _ _=>rfl,Nat.le_succ _,fun i hi=>by simp only[St.fresh];rw[if_neg (by omega)],fun i hi=>by simp only[St.fresh];rw[if_neg (by omega)],fun _ _=>rfl⟩
theorem Ap.push {a b:St} (h:Ap a b) (o:KV) (T:Option Nat):Ap a (b.push o T):=
 h.trans ⟨Nat.le_succ _,fun i hi=>by simp only[St.push];rw[if_neg (by omega)],Nat.le_refl _,fun _ _=>rfl,fun _ _=>rfl,fun i hi=>by simp only[St.push];rw[if_neg (by omega)]⟩
theorem Ap.retire {a b:St} (h:Ap a b) {id:Nat} (hid:a.nt<=id):Ap a (b.retire id):=
 ⟨h.nb,h.box,h.nt,fun i hi=>by simp only[St.retire];rw[if_neg (by omega)];exact h.live i hi,h.ty,h.bt⟩
theorem Ap.put {a b:St} (h:Ap a b) {i:Nat} (hi:a.nb<=i) (o:KV):Ap a (b.put i o):=
 ⟨h.nb,fun j hj=>by simp only[St.put];rw[if_neg (by omega)];exact h.box j hj,h.nt,h.live,h.ty,h.bt⟩
theorem DI (l:B8):(AC l).length=l.length:=by simp[AC]
theorem BN:∀l:B8,Es (AC l)=some l
 | []=>rfl
 | c::l=>by
  have:=BN l
  simp only[AC]at this
  simp[AC,Es,E9,Uk,this]
theorem Tp (l:B8):(AC l).all At=true:=by simp[AC,E9,At]
theorem Ks (a b:B8):AC a++AC b=AC (a++b):=by simp[AC]
def Rd (sz:Nat) (v:TV) (n:Nat) (xs:List TV):Prop:=
 (v= .nilSlice/\n=0/\xs=[])∨∃tip,v= .list sz tip n xs
def Own (b sz:Nat) (st:St) (v:TV) (n:Nat) (xs:List TV):Prop:=
 (v= .nilSlice/\n=0/\xs=[])∨∃tip,v= .list sz tip n xs/\(tip= .full∨∃id,tip= .own id/\b<=id/\id<st.nt/\st.live id=true)
theorem Own.rd {b sz:Nat} {st:St} {v:TV} {n:Nat} {xs:List TV} (h:Own b sz st v n xs):Rd sz v n xs:=by
 rcases h with h | ⟨tip,h,_⟩
 ·exact .inl h
 ·exact .inr ⟨tip,h⟩
theorem Own.ext {b sz:Nat} {st st':St} {v:TV} {n:Nat} {xs:List TV} (h:Own b sz st v n xs) (e:Ap st st'):Own b sz st' v n xs:=by
 rcases h with h | ⟨tip,h,ht | ⟨id,h1,h2,h3,h4⟩⟩
 ·exact .inl h
 ·exact .inr ⟨tip,h,.inl ht⟩
 ·exact .inr ⟨tip,h,.inr ⟨id,h1,h2,Nat.lt_of_lt_of_le h3 e.nt,(e.live id h3).trans h4⟩⟩
theorem Own.nil (b sz:Nat) (st:St):Own b sz st .nilSlice 0 []:= .inl ⟨rfl,rfl,rfl⟩
theorem Own.full (b sz:Nat) (st:St) (n:Nat) (xs:List TV):Own b sz st (.list sz .full n xs) n xs:= .inr ⟨_,rfl,.inl rfl⟩
theorem Own.fresh {b sz:Nat} {st:St} {T:Option Nat} (n:Nat) (xs:List TV) (hb:b<=st.nt):Own b sz (st.fresh T) (.list sz (.own st.nt) n xs) n xs:=
 .inr ⟨_,rfl,.inr ⟨st.nt,rfl,hb,Nat.lt_succ_self _,by simp[St.fresh]⟩⟩
theorem Rd.isSl {sz:Nat} {v:TV} {n:Nat} {xs:List TV} (h:Rd sz v n xs):TVF.isSl v=true:=by
 rcases h with⟨rfl,_⟩ | ⟨tip,rfl⟩<;>rfl
theorem Rd.lenS {sz:Nat} {v:TV} {n:Nat} {xs:List TV} (h:Rd sz v n xs):TVF.lenS v=n:=by
 rcases h with⟨rfl,rfl,_⟩ | ⟨tip,rfl⟩<;>rfl
theorem Rd.lenZ {sz:Nat} {v:TV} {n:Nat} {xs:List TV} (h:Rd sz v n xs):TVF.lenZ sz v=n:=by
 rcases h with⟨rfl,rfl,_⟩ | ⟨tip,rfl⟩
 ·rfl
 ·simp[TVF.lenZ]
theorem Rd.one {sz:Nat} {v:TV} {n:Nat} {xs:List TV} (h:Rd sz v n xs):At v=true:=by
 rcases h with⟨rfl,rfl,_⟩ | ⟨tip,rfl⟩<;>rfl
theorem Rd.ld {sz:Nat} {v:TV} {n:Nat} {xs:List TV} (h:Rd sz v n xs) (st:St) (i j:Nat) (hi:i*sz+j<xs.length):Ac st [] (.t (ixT sz v i)) j=some xs[i*sz+j]:=by
 rcases h with⟨rfl,rfl,rfl⟩ | ⟨tip,rfl⟩
 ·simp at hi
 ·simp[Ac,ixT,hi]
theorem Rd.ldf {sz:Nat} {v:TV} {n:Nat} {xs:List TV} (h:Rd sz v n xs) (st:St) (i f:Nat) (hi:i*sz+f<xs.length):Ac st [] (.t (Am (ixT sz v i) f)) 0=some xs[i*sz+f]:=by
 rcases h with⟨rfl,rfl,rfl⟩ | ⟨tip,rfl⟩
 ·simp at hi
 ·simp[Ac,ixT,Am,hi]
theorem src_str (st:St) (l:B8):JC st 1 (.str l)=some (l.length,AC l):=rfl
theorem Et {T b sz bytes:Nat} {st0 st:St} {v:TV} {n k:Nat} {xs ys:List TV} {K:TV->St->Prop} (e:Ap st0 st) (hb:b=st0.nt) (h:Own b sz st v n xs) (hby:(n+k)*bytes<=140737488355328) (hys:k=0->ys=[])
  (hK:∀v' st',Ap st0 st'->st'.box=st.box->Own b sz st' v' (n+k) (xs++ys)->K v' st'):BZ T sz bytes v k ys st K:=by
 subst hb
 rcases h with⟨rfl,rfl,rfl⟩ | ⟨tip,rfl,ht⟩
 ·simp only[BZ]
  cases k with
  | zero=>rw[hys rfl]at hK;exact hK _ _ e rfl (.nil _ _ _)
  | succ m=>
   simp only[Ar]
   refine⟨by simpa using hby,hK _ _ (e.fresh _) rfl ?_⟩
   simp only[List.nil_append,Nat.zero_add]
   exact Own.fresh _ _ e.nt
 ·simp only[BZ,Nat.beq_refl]
  refine⟨hby,?_⟩
  rcases ht with rfl | ⟨id,rfl,h1,h2,h3⟩
  ·cases k with
   | zero=>rw[hys rfl]at hK;simp only[List.append_nil]at hK;exact hK _ _ e rfl (Own.full _ _ _ _ _)
   | succ m=>exact hK _ _ (e.fresh _) rfl (Own.fresh _ _ e.nt)
  ·exact⟨h3,hK _ _ ((e.retire h1).fresh _) rfl (Own.fresh (st:=st.retire id) _ _ e.nt)⟩
theorem Ab {b:Bool} {k:Prop} (h:b=true) (hk:k):need b k:=Ar.2 ⟨h,hk⟩
theorem Ad {α:Type} {o:Option α} {x:α} {k:α->Prop} (h:o=some x) (hk:k x):Ah o k:=by rw[h];exact hk
theorem Af (x:Int) (h1: -9223372036854775808<=x) (h2:x<=9223372036854775807):IntKind.wrap .i64 x=x:=by
 unfold IntKind.wrap
 simp only[IntKind.signed,IntKind.bits]
 simp
 omega
theorem LG (x:Int) (h1:0<=x) (h2:x<=255):IntKind.wrap .u8 x=x:=by
 unfold IntKind.wrap
 simp only[IntKind.signed,IntKind.bits]
 simp
 omega
end Go.TVF
end
section
namespace Go.TVF
open Go.IntKind(i64 u8)
open Go.RowKit (Below)
theorem XO {r:TV} {st':St} (h:GZ [.one .bool] r (fun (b:Bool) (_:St)=>b=true) (fun p=>p st')):r= .bool true:=by
 cases r<;>simp only[GZ,Ga,Ag]at h<;>first | exact h.elim | skip
 subst h;rfl
theorem calls_law {P:Program} {f:FuncId} {args:List TV} (hcall:∀(vs:Array Value) (w:World),(callFunc f vs).run P w= .ok (.enter f vs) w) (h:CallT P f args [.one .bool] St.zero (fun r _=>r=true)) (w:World) (hG:∀w',Below w.heap.size w w'->GlobOK w') (vargs:List Value) (hr:AK (Ghost.start w) w args vargs):
  Calls P f vargs.toArray w fun e w'=>e= .returned (.bool true)/\Below w.heap.size w w':=
 Ud hcall (Fm.mono h fun r st' hd=>XO hd) w hG vargs hr
theorem rel_string (g:Ghost) (w:World) (s:ByteArray):Rel g w (.str s.data.toList) (.string s):=by
 have:=Rel.str (g:=g) (w:=w) s.data.toList
 simpa using this
def flatIs:List CTy->List TV->Prop
 | [],xs=>xs=[]
 | .int k::cs,xs=>∃n ys,xs= .int k n::ys/\(Lit.int k n).wf=true/\flatIs cs ys
 | .str::cs,xs=>∃l ys,xs= .str l::ys/\l.length<=maxLen/\flatIs cs ys
 | .bool::cs,xs=>∃b ys,xs= .bool b::ys/\flatIs cs ys
 | .tv::_,_=>False
def Uu (P:Program):CTy->TypeId->Prop
 | .int k,t=>P.underlying t=some (.int k)
 | .bool,t=>P.underlying t=some .bool
 | .str,t=>P.underlying t=some .string
 | .tv,_=>False
def FieldsTy (P:Program):List CTy->List Field->Nat->Prop
 | [],[],_=>True
 | c::cs,f::fs,o=>f.offset=o/\P.cellsOf f.type=1/\Uu P c f.type/\FieldsTy P cs fs (o+1)
 | _,_,_=>False
section
variable {H:Type} {enc:TypeId×Value->H} {P:Program} {w:World} {base:Nat} {sp:Nat->Bool} {held:Bool}
theorem PD {c:CTy} {t:TypeId} {fuel:Nat} {cs:List Value} {x:DataW H×List MemPlace} (g:Ghost) (hc:Uu P c t) (h:DataW.trod enc P w base sp held fuel t cs=some x):
  ∃v u,cs=[u]/\Rel g w v u/\flatIs [c] [v]:=by
 cases c with
 | int k=>
  obtain⟨n,rfl,_,hw⟩:=DataW.trod_int hc h
  exact⟨_,_,rfl,.int k n,n,[],rfl,hw,rfl⟩
 | bool=>
  obtain⟨b,rfl,_⟩:=DataW.trod_bool hc h
  exact⟨_,_,rfl,.bool b,b,[],rfl,rfl⟩
 | str=>
  obtain⟨s,rfl,_,hs⟩:=DataW.trod_string hc h
  exact⟨_,_,rfl,rel_string g w s,_,[],rfl,by rw[Array.length_toList];exact hs,rfl⟩
 | tv=>exact hc.elim
theorem flatIs.cons {c:CTy} {cs:List CTy} {v:TV} {xs:List TV} (h:flatIs [c] [v]) (k:flatIs cs xs):flatIs (c::cs) (v::xs):=by
 cases c with
 | int _=>
  obtain⟨n,ys,h1,h2,_⟩:=h
  simp only[List.cons.injEq]at h1
  exact⟨n,xs,by rw[h1.1],h2,k⟩
 | bool=>
  obtain⟨b,ys,h1,_⟩:=h
  simp only[List.cons.injEq]at h1
  exact⟨b,xs,by rw[h1.1],k⟩
 | str=>
  obtain⟨l,ys,h1,h2,_⟩:=h
  simp only[List.cons.injEq]at h1
  exact⟨l,xs,by rw[h1.1],h2,k⟩
 | tv=>exact h.elim
theorem MH {n:Nat} {vs:List Value} (g:Ghost):∀(cs:List CTy) (fs:List Field) (o:Nat) (xs:List (DataW H×List MemPlace)),FieldsTy P cs fs o->xs.length=fs.length->vs.length=o+cs.length->
  (∀(i:Nat) (f:Field),fs[i]? =some f->DataW.trod enc P w base sp held n f.type ((vs.drop f.offset).take (P.cellsOf f.type))=xs[i]?)->∃tv,AK g w tv (vs.drop o)/\flatIs cs tv
 | [],[],o,xs,_,_,hl,_=>⟨[],by rw[List.drop_of_length_le (by simp at hl;omega)];exact .nil _ _,rfl⟩
 | c::cs,f::fs,o,[],_,hx,_,_=>by simp at hx
 | c::cs,f::fs,o,x::xs,ht,hx,hl,hd=>by
  obtain⟨h1,h2,h3,h4⟩:=ht
  have hd0:=hd 0 f rfl
  rw[h1,h2]at hd0
  obtain⟨v,u,hu,hr,hf⟩:=PD g h3 hd0
  obtain⟨tv,hr',hf'⟩:=MH (n:=n) (vs:=vs) g cs fs (o+1) xs h4 (by simpa using hx) (by simp at hl;omega) (fun i f' hi=>by simpa using hd (i+1) f' (by simpa using hi))
  refine⟨v::tv,?_,hf.cons hf'⟩
  have hlt:o<vs.length:=by simp at hl;omega
  rw[List.drop_eq_getElem_cons hlt]
  rw[List.drop_eq_getElem_cons hlt]at hu
  simp only[List.take_succ_cons,List.take_zero,List.cons.injEq]at hu
  rw[hu.1]
  exact .cons hr hr'
 | [],f::fs,o,xs,ht,_,_,_=>ht.elim
 | c::cs,[],o,xs,ht,_,_,_=>ht.elim
theorem Uo (b off i:Nat):(⟨b,off,none⟩:Addr).add i=⟨b,off+i,none⟩:=by
 unfold Addr.add;split
 ·rename_i h;subst h;rfl
 ·rfl
def Opens (enc:TypeId×Value->H) (P:Program) (w:World) (base:Nat) (sp:Nat->Bool) (held:Bool) (cs:List CTy) (e:TypeId):Prop:=
 ∀(g:Ghost) n vs x,DataW.trod enc P w base sp held n e vs=some x->∃tv,AK g w tv vs/\flatIs cs tv
theorem opens_struct {cs:List CTy} {e:TypeId} {fs:Array Field} (ht:P.underlying e=some (.struct fs)) (hf:FieldsTy P cs fs.toList 0) (hc:P.cellsOf e=cs.length):Opens enc P w base sp held cs e:=fun g n vs x hd=>by
 obtain⟨xs,m,rfl,_,hl,hx,hi⟩:=DataW.trod_struct ht hd
 have:=MH (enc:=enc) (P:=P) (w:=w) (base:=base) (sp:=sp) (held:=held) (n:=m) (vs:=vs) g cs fs.toList 0 xs hf (by simpa using hx) (by omega) (fun i f h=>hi i f (by simpa using h))
 simpa using this
end
end Go.TVF
end
namespace Go.TVF
open Go.IntKind(i64 u8)
open Go Go.Proofs
theorem mixed:Tryz.prog.follows .mixedOrders=true:=by kernel_rfl
noncomputable def PR:Program:=Tryz.prog
abbrev V13(X:Type):=Int->Bool->Bool->B8->Int->Int->Int->Int->Int->B8->TV->TV->TV->X
abbrev sV:RTy:=.agg [.int .i64,.bool,.bool,.str,.int .i64,.int .i64,.int .i64,.int .i64,.int .i64,.str,.tv,.tv,.tv]
abbrev cV(a:Int)(b c:Bool)(d:B8)(e f g h i:Int)(j:B8)(k l m:TV):List TV:=[.int .i64 a,.bool b,.bool c,.str d,.int .i64 e,.int .i64 f,.int .i64 g,.int .i64 h,.int .i64 i,.str j,k,l,m]
abbrev BId(p:Prop)[Decidable p](a b:Prop):Prop:=BIf (decide p) a b
def fn_datakitlaw28_GridCells:Nat:=6
def CK:Nat:=32
def Bk:Nat:=33
def FE:Nat:=34
def Df:Nat:=35
def A0:Nat:=36
def BD:Nat:=37
def AZ:Nat:=38
def HZ:Nat:=39
def GV:Nat:=42
def F5:Nat:=53
def Ek:Nat:=55
def GU:Nat:=56
def GT:Nat:=57
def F3:Nat:=58
def BR:Nat:=62
def CL:Nat:=63
def Dd:Nat:=69
def F4:Nat:=70
def BQ:Nat:=71
def A8:Nat:=84
def Bd:Nat:=85
def CJ:Nat:=86
def HY:Nat:=87
def CM:Nat:=88
def B7:Nat:=89
def B6:Nat:=90
def BS:Nat:=91
def AB:Nat:=92
def CE:Nat:=93
def Km:Nat:=94
def GR:Nat:=95
def Cf:Nat:=96
def FC:Nat:=97
def CA:Nat:=98
def ET:Nat:=99
def Ca:Nat:=100
def CR:Nat:=101
def CO:Nat:=102
def EL:Nat:=105
def Fi:Nat:=106
def EK:Nat:=118
def Cn:Nat:=119
def DL:Nat:=120
def Gw:Nat:=121
def EU:Nat:=122
def B0:Nat:=123
def Da:Nat:=124
def BI:Nat:=128
def A7:Nat:=129
def DK:Nat:=133
def DP:Nat:=143
def Eg:Nat:=144
def Ej:Nat:=145
def AE:Nat:=146
def B5:Nat:=147
def Bw:Nat:=148
def BG:Nat:=149
def BU:Nat:=150
def Dh:Nat:=151
def Az:Nat:=152
def A4:Nat:=153
def Cq:Nat:=154
def AT:Nat:=155
def AY:Nat:=156
def De:Nat:=157
def EM:Nat:=158
def Dx:Nat:=159
def CB:Nat:=160
def CI:Nat:=161
def Fk:Nat:=162
def Ay:Nat:=163
def BB:Nat:=164
def CP:Nat:=165
def Cs:Nat:=166
def A9:Nat:=167
def AJ:Nat:=168
def DA:Nat:=169
def As:Nat:=170
def AN:Nat:=171
def EV:Nat:=173
def CF:Nat:=174
def Ee:Nat:=179
def Bj:Nat:=191
def Ak:Nat:=192
def AL:Nat:=193
def AG:Nat:=194
def HX:Nat:=195
def AM:Nat:=196
def F2:Nat:=197
def Dq:Nat:=198
def Cz:Nat:=199
def GQ:Nat:=200
def BL:Nat:=202
def Fh:Nat:=203
def Cp:Nat:=204
def BT:Nat:=205
def Jw:Nat:=210
def GS:Nat:=211
def HW:Nat:=212
def Ef:Nat:=221
def Dp:Nat:=222
def Bm:Nat:=223
def Bg:Nat:=224
def Dc:Nat:=225
def Dz:Nat:=227
def Dg:Nat:=228
def Bx:Nat:=229
def CN:Nat:=230
def Bv:Nat:=231
def F6:Nat:=232
def Be:Nat:=233
def AS:Nat:=234
def DM:Nat:=235
def Fg:Nat:=236
def Fj:Nat:=241
def Bc:Nat:=242
def BP:Nat:=243
def AD:Nat:=244
def Bu:Nat:=245
def AO:Nat:=246
def By:Nat:=247
def BX:Nat:=248
def CS:Nat:=249
def BV:Nat:=250
def Cr:Nat:=251
def FD:Nat:=252
def KO:Nat:=256
def B4:Nat:=265
def BA:Nat:=266
def DO:Nat:=267
def Ff:Nat:=268
def HV:Nat:=269
def BF:Nat:=271
def Ei:Nat:=277
def EO:Nat:=278
def AF:Nat:=279
def Dy:Nat:=283
def CQ:Nat:=284
def Br:Nat:=285
def Ba:Nat:=286
def Db:Nat:=289
def Aw:Nat:=290
def B1:Nat:=291
def CU:Nat:=292
def EN:Nat:=293
def BW:Nat:=294
def Co:Nat:=299
def Ib:Nat:=300
def GW:Nat:=301
def BE:Nat:=302
def Eh:Nat:=306
def Gx:Nat:=307
def Ct:Nat:=316
def B2:Nat:=320
def Vr:B8:=[97,44,98,10,49,44,120,10,34,49,34,44,10]
def str10:B8:=[49]
def str11:B8:=[34,49,34]
def H9:B8:=[116,114,117,101]
def Pr:B8:=[102,97,108,115,101]
def Jd:B8:=[48]
def AW:B8:=[45]
def Cw:B8:=[46]
def MB:B8:=[48,46]
def Lc:B8:=[101]
def Gn:B8:=[84]
def Lb:B8:=[43]
def str21:B8:=[100,100,100,100,45,100,100,45,100,100]
def Wv:B8:=[101,45]
def Bh:B8:=[58]
def Wu:B8:=[90]
def str25:B8:=[84,116,32]
def str26:B8:=[100,100,58,100,100,58,100,100]
def EZ:B8:=[48,48,48,48,48,48,48,48,48]
def str28:B8:=[122]
def str29:B8:=[43,100,100,58,100,100]
def str30:B8:=[45,100,100,58,100,100]
def str31:B8:=[90,122,43,45]
def str32:B8:=[57,50,50,51,51,55,50,48,51,54,56,53,52,55,55,53,56,48,55]
theorem NJ (st:St) (K:Int->Int->Int->Int->Int->St->Prop) (h:K 48 65536 1048576 1024 65536 st):CallT PR F5 [] [.agg [.int .i64,.int .i64,.int .i64,.int .i64,.int .i64]] st K:=
 Ae (cfg:=⟨[0],[],[]⟩) (h:= .none) mixed (fun _ _=>Tryz.call53 _ _) Tryz.func53 (by kernel_rfl) (by kernel_rfl) h
theorem NM (src:B8) (d_0:Int) (d_1:Int) (d_2:Bool) (d_3:Bool) (l_0:Int) (l_1:Int) (l_2:Int) (l_3:Int) (l_4:Int) (st:St) (K:Int->B8->B8->TV->B8->Int->Int->St->Prop) (h:CallT PR Dd [(.agg [.int .u8 d_0,.int .u8 d_1,.bool d_2,.bool d_3])] [.one .bool] st (fun (b1:Bool) g=>BIf (!b1) (K 0 [] [] .nilSlice [] 0 1 g) (CallT PR F4 [(.agg [.int .i64 l_0,.int .i64 l_1,.int .i64 l_2,.int .i64 l_3,.int .i64 l_4])] [.one .bool] g (fun (b2:Bool) f=>BIf (!b2) (K 0 [] [] .nilSlice [] 0 1 f) (BId (l_2<(src.length:Int)) (K 0 [] [] .nilSlice [] 0 10 f) (CallT PR EK [.str src] [.one (.int .i64)] f (fun (n1:Int) d=>BId ((0:Int)<=n1) (K 0 [] [] .nilSlice [] n1 5 d) (need (List.all [(.map d.nb)] At) (∃(I1:B8->TV->Int->B8->B8->TV->B8->St->Prop) (M1:B8->TV->Int->B8->B8->TV->B8->St->Nat),(I1 src ((.box (d.push (.map []) none).nb 0)) 1 [] [] .nilSlice [] ((d.push (.map []) none).push (.cells [.str src,.int .u8 d_0,.int .u8 d_1,.bool d_2,.bool d_3,.int .i64 l_0,.int .i64 l_1,.int .i64 l_2,.int .i64 l_3,.int .i64 l_4,.int .i64 0,.int .i64 1,.int .i64 0,(.map d.nb),.int .i64 0,.int .i64 0]) (some 180)))/\∀b a n2 s1 s2 v1 s3 c,I1 b a n2 s1 s2 v1 s3 c->(need (isPtr a) (need (isPtr a) (Ah (Ac c [] (.t (Am a 10)) 0) (fun (x1:TV)=>Ag (.int .i64) x1 (fun (n3:Int)=>BId (n3<(b.length:Int)) (need (isSl v1) (CallT PR Cn [a,(.int .i64 (lenS v1:Int))] [.agg [.int .i64,.str,.str,.tv,.str],.one .bool] c (fun (n4:Int) (s4 s5:B8) (v2:TV) (s6:B8) (b3:Bool) e=>need (List.all [.int .i64 n4,.str s4,.str s5,v2,.str s6] At) (BIf (!b3) (need (isPtr a) (need (isPtr a) (Ah (Ac e [] (.t (Am a 14)) 0) (fun (x2:TV)=>Ag (.int .i64) x2 (fun (n5:Int)=>need (isPtr a) (need (isPtr a) (Ah (Ac e [] (.t (Am a 15)) 0) (fun (x3:TV)=>Ag (.int .i64) x3 (fun (n6:Int)=>K 0 [] [] .nilSlice [] n5 n6 e))))))))) (need (List.all [.int .i64 n4,.str s4,.str s5,v2,.str s6] At) (BZ 79 5 80 v1 1 [.int .i64 n4,.str s4,.str s5,v2,.str s6] e (fun (v3:TV) i=>need (List.all [v3] At) ((I1 b a n2 s1 s2 v3 s3 i/\M1 b a n2 s1 s2 v3 s3 i<M1 b a n2 s1 s2 v1 s3 c))))))))) (need (List.all [.int .i64 n2,.str s1,.str s2,v1,.str s3] At) (K n2 s1 s2 v1 s3 0 0 c)))))))))))))))):CallT PR Ek [.str src,(.agg [.int .u8 d_0,.int .u8 d_1,.bool d_2,.bool d_3]),(.agg [.int .i64 l_0,.int .i64 l_1,.int .i64 l_2,.int .i64 l_3,.int .i64 l_4])] [.agg [.int .i64,.str,.str,.tv,.str],.one (.int .i64),.one (.int .i64)] st K:=
 Ae (cfg:=⟨[4,5,6,11,12],[],[]⟩) (h:=(.seq .none (.seq .none (.seq .none (.seq .none (.seq .none (.seq .none (.seq (.block (.loop ⟨[(0,.str),(10,.tv)],[(6,2,0),(11,3,0)],[(2,5),(3,5)],[(3,0,.int .i64),(3,1,.str),(3,2,.str),(3,3,.tv),(3,4,.str)]⟩ .none)) .none)))))))) mixed (fun _ _=>Tryz.call55 _ _) Tryz.func55 (by kernel_rfl) (by kernel_rfl) h
theorem O0 (n_0:Int) (n_1:B8) (n_2:B8) (n_3:TV) (n_4:B8) (st:St) (K:Int->St->Prop) (h:stB (st.push (.cells [.int .i64 0]) (some 3)) (.box st.nb 0) [.int .i64 0] (fun c=>CallT PR DL [(.agg [.int .i64 n_0,.str n_1,.str n_2,n_3,.str n_4]),.int .i64 1,(.box st.nb 0)] [.one (.int .i64)] c (fun (n1:Int) a=>BId (n1≠0) (K n1 a) (CallT PR Gw [(.agg [.int .i64 n_0,.str n_1,.str n_2,n_3,.str n_4])] [.one (.int .i64)] a (fun (n2:Int) b=>BId ((1048576:Int)<n2) (K 10 b) (K 0 b)))))):CallT PR GU [(.agg [.int .i64 n_0,.str n_1,.str n_2,n_3,.str n_4])] [.one (.int .i64)] st K:=
 Ae (cfg:=⟨[1],[],[]⟩) (h:= .none) mixed (fun _ _=>Tryz.call56 _ _) Tryz.func56 (by kernel_rfl) (by kernel_rfl) h
theorem OZ (n_0:Int) (n_1:B8) (n_2:B8) (n_3:TV) (n_4:B8) (st:St) (K:B8->St->Prop) (h:CallT PR EU [(.box st.nb 0),(.agg [.int .i64 n_0,.str n_1,.str n_2,n_3,.str n_4])] [] (st.push (.cells [.nilPtr,.nilSlice]) (some 188)) (fun (a:St)=>CallT PR B0 [(.box st.nb 0)] [.one .str] a (fun (s1:B8) b=>K s1 b))):CallT PR GT [(.agg [.int .i64 n_0,.str n_1,.str n_2,n_3,.str n_4])] [.one .str] st K:=
 Ae (cfg:=⟨[1],[],[]⟩) (h:= .none) mixed (fun _ _=>Tryz.call57 _ _) Tryz.func57 (by kernel_rfl) (by kernel_rfl) h
theorem Ij (st:St) (K:Int->Int->Bool->Bool->St->Prop) (h:K 44 34 true true st):CallT PR BR [] [.agg [.int .u8,.int .u8,.bool,.bool]] st K:=
 Ae (cfg:=⟨[0],[],[]⟩) (h:= .none) mixed (fun _ _=>Tryz.call62 _ _) Tryz.func62 (by kernel_rfl) (by kernel_rfl) h
theorem Io (st:St) (K:Int->Int->Int->Int->Int->St->Prop) (h:K 48 65536 1048576 1024 65536 st):CallT PR CL [] [.agg [.int .i64,.int .i64,.int .i64,.int .i64,.int .i64]] st K:=
 Ae (cfg:=⟨[0],[],[]⟩) (h:= .none) mixed (fun _ _=>Tryz.call63 _ _) Tryz.func63 (by kernel_rfl) (by kernel_rfl) h
theorem NK (d_0:Int) (d_1:Int) (d_2:Bool) (d_3:Bool) (st:St) (K:Bool->St->Prop) (h:BId (d_0≠9) (BId (d_0<32) (K false st) (BId ((126:Int)<d_0) (K false st) (BId (d_1<33) (K false st) (BId ((126:Int)<d_1) (K false st) (BId (d_0≠d_1) (CallT PR BI [.int .u8 d_0] [.one .bool] st (fun (b1:Bool) a=>BIf (!b1) (CallT PR BI [.int .u8 d_1] [.one .bool] a (fun (b2:Bool) c=>K ((!b2)) c)) (K false a))) (K false st)))))) (BId (d_1<33) (K false st) (BId ((126:Int)<d_1) (K false st) (BId (d_0≠d_1) (CallT PR BI [.int .u8 d_0] [.one .bool] st (fun (b3:Bool) b=>BIf (!b3) (CallT PR BI [.int .u8 d_1] [.one .bool] b (fun (b4:Bool) d=>K ((!b4)) d)) (K false b))) (K false st))))):CallT PR Dd [(.agg [.int .u8 d_0,.int .u8 d_1,.bool d_2,.bool d_3])] [.one .bool] st K:=
 Ae (cfg:=⟨[1],[],[]⟩) (h:= .none) mixed (fun _ _=>Tryz.call69 _ _) Tryz.func69 (by kernel_rfl) (by kernel_rfl) h
theorem NI (l_0:Int) (l_1:Int) (l_2:Int) (l_3:Int) (l_4:Int) (st:St) (K:Bool->St->Prop) (h:BId ((1:Int)<=l_0) (BId (l_0<=48) (BId ((1:Int)<=l_1) (BId (l_1<=65536) (BId ((1:Int)<=l_2) (BId (l_2<=1048576) (BId ((0:Int)<=l_3) (BId (l_3<=1024) (BId ((0:Int)<=l_4) (K ((decide (l_4<=65536))) st) (K false st)) (K false st)) (K false st)) (K false st)) (K false st)) (K false st)) (K false st)) (K false st)) (K false st)):CallT PR F4 [(.agg [.int .i64 l_0,.int .i64 l_1,.int .i64 l_2,.int .i64 l_3,.int .i64 l_4])] [.one .bool] st K:=
 Ae (cfg:=⟨[1],[],[]⟩) (h:= .none) mixed (fun _ _=>Tryz.call70 _ _) Tryz.func70 (by kernel_rfl) (by kernel_rfl) h
theorem Ii (d_0:Int) (d_1:Int) (d_2:Bool) (d_3:Bool) (st:St) (K:Bool->St->Prop) (h:BId (d_0=9) (BId ((33:Int)<=d_1) (BId (d_1<=126) (BId (d_0≠d_1) (CallT PR A7 [.int .u8 d_0] [.one .bool] st (fun (b1:Bool) a=>BIf b1 (CallT PR A7 [.int .u8 d_1] [.one .bool] a (fun (b2:Bool) c=>K b2 c)) (K false a))) (K false st)) (K false st)) (K false st)) (BId ((32:Int)<=d_0) (BId (d_0<=126) (BId ((33:Int)<=d_1) (BId (d_1<=126) (BId (d_0≠d_1) (CallT PR A7 [.int .u8 d_0] [.one .bool] st (fun (b3:Bool) b=>BIf b3 (CallT PR A7 [.int .u8 d_1] [.one .bool] b (fun (b4:Bool) d=>K b4 d)) (K false b))) (K false st)) (K false st)) (K false st)) (K false st)) (K false st))):CallT PR BQ [(.agg [.int .u8 d_0,.int .u8 d_1,.bool d_2,.bool d_3])] [.one .bool] st K:=
 Ae (cfg:=⟨[1],[],[]⟩) (h:= .none) mixed (fun _ _=>Tryz.call71 _ _) Tryz.func71 (by kernel_rfl) (by kernel_rfl) h
theorem Il (st:St) (K:Int->Int->Int->Int->Int->St->Prop) (h:CallT PR CL [] [.agg [.int .i64,.int .i64,.int .i64,.int .i64,.int .i64]] st (fun (n1 n2 n3 n4 n5:Int) a=>K n1 n2 n3 n4 n5 a)):CallT PR CJ [] [.agg [.int .i64,.int .i64,.int .i64,.int .i64,.int .i64]] st K:=
 Ae (cfg:=⟨[0],[],[]⟩) (h:= .none) mixed (fun _ _=>Tryz.call86 _ _) Tryz.func86 (by kernel_rfl) (by kernel_rfl) h
theorem Ik (s:B8) (d_0:Int) (d_1:Int) (d_2:Bool) (d_3:Bool) (st:St) (K:B8->Int->St->Prop) (h:CallT PR BQ [(.agg [.int .u8 d_0,.int .u8 d_1,.bool d_2,.bool d_3])] [.one .bool] st (fun (b1:Bool) e=>BIf (!b1) (K [] 1 e) (CallT PR AT [.str s] [.one .bool] e (fun (b2:Bool) d=>BIf (!b2) (K [] 5 d) (∃(I1:Int->B8->Int->Int->Bool->Bool->St->Prop) (M1:Int->B8->Int->Int->Bool->Bool->St->Nat),(I1 0 s d_0 d_1 d_2 d_3 d)/\∀b a n1 n2 b3 b4 c,I1 b a n1 n2 b3 b4 c->(BId (b<(a.length:Int)) (((0<=b/\b<(a.length:Int))/\BId (((List.getD a b.toNat 0).toNat:Int)=n1) (CallT PR AB [.str a,(.agg [.int .u8 n1,.int .u8 n2,.bool b3,.bool b4])] [.one .str] c (fun (s1:B8) g=>K s1 0 g)) (((0<=b/\b<(a.length:Int))/\BId (((List.getD a b.toNat 0).toNat:Int)=n2) (CallT PR AB [.str a,(.agg [.int .u8 n1,.int .u8 n2,.bool b3,.bool b4])] [.one .str] c (fun (s2:B8) f=>K s2 0 f)) (((0<=b/\b<(a.length:Int))/\BId (((List.getD a b.toNat 0).toNat:Int)=(10:Int)) (CallT PR AB [.str a,(.agg [.int .u8 n1,.int .u8 n2,.bool b3,.bool b4])] [.one .str] c (fun (s3:B8) j=>K s3 0 j)) (((0<=b/\b<(a.length:Int))/\BId (((List.getD a b.toNat 0).toNat:Int)=(13:Int)) (CallT PR AB [.str a,(.agg [.int .u8 n1,.int .u8 n2,.bool b3,.bool b4])] [.one .str] c (fun (s4:B8) i=>K s4 0 i)) ((I1 ((i64.wrap (b+(1:Int)))) a n1 n2 b3 b4 c/\M1 ((i64.wrap (b+(1:Int)))) a n1 n2 b3 b4 c<M1 b a n1 n2 b3 b4 c)))))))))) (K a 0 c))))))):CallT PR BS [.str s,(.agg [.int .u8 d_0,.int .u8 d_1,.bool d_2,.bool d_3])] [.one .str,.one (.int .i64)] st K:=
 Ae (cfg:=⟨[3],[],[]⟩) (h:=(.seq .none (.seq .none (.seq .none (.seq (.seq .none (.block (.loop ⟨[(6,.int .i64),(0,.str)],[(3,0,0)],[(0,4)],[(0,0,.int .u8),(0,1,.int .u8),(0,2,.bool),(0,3,.bool)]⟩ .none))) .none))))) mixed (fun _ _=>Tryz.call91 _ _) Tryz.func91 (by kernel_rfl) (by kernel_rfl) h
theorem GI (s:B8) (d_0:Int) (d_1:Int) (d_2:Bool) (d_3:Bool) (st:St) (K:B8->St->Prop) (h:Ah ((toBytes st (.list 1 .full 1 [.int .u8 d_1])).map TV.str) (fun (x1:TV)=>Ag .str x1 (fun (s1:B8)=>∃(I1:B8->Int->B8->B8->Int->Int->Bool->Bool->St->Prop) (M1:B8->Int->B8->B8->Int->Int->Bool->Bool->St->Nat),(I1 s1 0 s s1 d_0 d_1 d_2 d_3 st)/\∀b a c d n1 n2 b1 b2 e,I1 b a c d n1 n2 b1 b2 e->(BId (a<(c.length:Int)) (((0<=a/\a<=(i64.wrap (a+(1:Int)))/\(i64.wrap (a+(1:Int)))<=(c.length:Int))/\(b.length+((List.drop a.toNat (List.take (Int.toNat (i64.wrap (a+(1:Int)))) c))).length<=9223372036854775807/\((0<=a/\a<(c.length:Int))/\BId (((List.getD c a.toNat 0).toNat:Int)=n2) ((((b++(List.drop a.toNat (List.take (Int.toNat (i64.wrap (a+(1:Int)))) c)))).length+d.length<=9223372036854775807/\(I1 (((b++(List.drop a.toNat (List.take (Int.toNat (i64.wrap (a+(1:Int)))) c)))++d)) ((i64.wrap (a+(1:Int)))) c d n1 n2 b1 b2 e/\M1 (((b++(List.drop a.toNat (List.take (Int.toNat (i64.wrap (a+(1:Int)))) c)))++d)) ((i64.wrap (a+(1:Int)))) c d n1 n2 b1 b2 e<M1 b a c d n1 n2 b1 b2 e))) ((I1 ((b++(List.drop a.toNat (List.take (Int.toNat (i64.wrap (a+(1:Int)))) c)))) ((i64.wrap (a+(1:Int)))) c d n1 n2 b1 b2 e/\M1 ((b++(List.drop a.toNat (List.take (Int.toNat (i64.wrap (a+(1:Int)))) c)))) ((i64.wrap (a+(1:Int)))) c d n1 n2 b1 b2 e<M1 b a c d n1 n2 b1 b2 e)))))) ((b.length+d.length<=9223372036854775807/\K ((b++d)) e)))))):CallT PR AB [.str s,(.agg [.int .u8 d_0,.int .u8 d_1,.bool d_2,.bool d_3])] [.one .str] st K:=
 Ae (cfg:=⟨[3],[],[]⟩) (h:=(.seq .none (.seq .none (.seq .none (.seq (.seq .none (.block (.loop ⟨[(6,.str),(7,.int .i64),(0,.str),(5,.str)],[(3,0,0)],[(0,4)],[(0,0,.int .u8),(0,1,.int .u8),(0,2,.bool),(0,3,.bool)]⟩ .none))) .none))))) mixed (fun _ _=>Tryz.call92 _ _) Tryz.func92 (by kernel_rfl) (by kernel_rfl) h
theorem LM (n_0:Int) (b:B8) (f:B8) (a:TV) (c:B8) (d_0:Int) (d_1:Int) (d_2:Bool) (d_3:Bool) (st:St) (K:TV->Int->St->Prop) (h:CallT PR EV [(.agg [.int .i64 n_0,.str b,.str f,a,.str c]),(.agg [.int .u8 d_0,.int .u8 d_1,.bool d_2,.bool d_3])] [.one .bool] st (fun (b1:Bool) q=>BIf (!b1) (K .nilSlice 1 q) (need (isSl a) (∃(I1:TV->Int->TV->Int->Int->Int->Bool->Bool->St->Prop) (M1:TV->Int->TV->Int->Int->Int->Bool->Bool->St->Nat),(I1 .nilSlice 0 a ((lenS a:Int)) d_0 d_1 d_2 d_3 q)/\∀e b n f n1 n2 b2 b3 l,I1 e b n f n1 n2 b2 b3 l->(BId (b<f) (((0<=b/\b<(lenZ 5 n:Int))/\Ah ((Ai l [] (.t (ixT 5 n b.toNat)) 0 5).map TV.agg) (fun (x1:TV)=>AU [.int .i64,.str,.str,.tv,.str] x1 (fun (n3:Int) (s1 s2:B8) (v1:TV) (s3:B8)=>need (List.all [.int .i64 n3,.str s1,.str s2,v1,.str s3] At) (need (isSl v1) (∃(I2:TV->Int->TV->TV->Int->Int->TV->Int->Int->Int->Bool->Bool->St->Prop) (M2:TV->Int->TV->TV->Int->Int->TV->Int->Int->Int->Bool->Bool->St->Nat),(I2 .nilSlice 0 e n f b v1 ((lenS v1:Int)) n1 n2 b2 b3 l)/\∀j a d k c i g m n4 n5 b4 b5 o,I2 j a d k c i g m n4 n5 b4 b5 o->(BId (a<m) (((0<=a/\a<(lenZ 5 g:Int))/\Ah ((Ai o [] (.t (ixT 5 g a.toNat)) 0 5).map TV.agg) (fun (x2:TV)=>AU [.int .i64,.str,.str,.tv,.str] x2 (fun (n6:Int) (s4 s5:B8) (v2:TV) (s6:B8)=>need (List.all [.int .i64 n6,.str s4,.str s5,v2,.str s6] At) (((0<=(0:Int)/\(0:Int)<(lenZ 5 v2:Int))/\need (isPtr (ixT 5 v2 (Int.toNat (0:Int)))) (Ah (Ac GD [] (.t (Am (ixT 5 v2 (Int.toNat (0:Int))) 2)) 0) (fun (x3:TV)=>Ag .str x3 (fun (s7:B8)=>CallT PR CF [.str s7,(.agg [.int .u8 n4,.int .u8 n5,.bool b4,.bool b5])] [.one .str,.one .bool] o (fun (s8:B8) (b6:Bool) s=>BZ 9 1 16 j 1 [.str s8] s (fun (v3:TV) p=>(I2 v3 ((i64.wrap (a+(1:Int)))) d k c i g m n4 n5 b4 b5 p/\M2 v3 ((i64.wrap (a+(1:Int)))) d k c i g m n4 n5 b4 b5 p<M2 j a d k c i g m n4 n5 b4 b5 o)))))))))))) (need (List.all [j] At) (need (List.all [j] At) (BZ 22 1 24 d 1 [j] o (fun (v4:TV) r=>(I1 v4 ((i64.wrap (i+(1:Int)))) k c n4 n5 b4 b5 r/\M1 v4 ((i64.wrap (i+(1:Int)))) k c n4 n5 b4 b5 r<M1 e b n f n1 n2 b2 b3 l)))))))))))) (K e 0 l)))))):CallT PR EL [(.agg [.int .i64 n_0,.str b,.str f,a,.str c]),(.agg [.int .u8 d_0,.int .u8 d_1,.bool d_2,.bool d_3])] [.one .tv,.one (.int .i64)] st K:=
 Ae (cfg:=⟨[2,3,8,11],[],[]⟩) (h:=(.seq .none (.seq .none (.seq .none (.seq (.seq .none (.block (.loop ⟨[(6,.tv),(21,.int .i64),(19,.tv),(20,.int .i64)],[(3,1,0)],[(1,4)],[(1,0,.int .u8),(1,1,.int .u8),(1,2,.bool),(1,3,.bool)]⟩ (.seq .none (.seq .none (.seq (.block (.seq .none (.seq .none (.seq (.seq .none (.block (.loop ⟨[(9,.tv),(28,.int .i64),(6,.tv),(19,.tv),(20,.int .i64),(21,.int .i64),(26,.tv),(27,.int .i64)],[(3,1,0)],[(1,4)],[(1,0,.int .u8),(1,1,.int .u8),(1,2,.bool),(1,3,.bool)]⟩ .none))) .none)))) .none)))))) .none))))) mixed (fun _ _=>Tryz.call105 _ _) Tryz.func105 (by kernel_rfl) (by kernel_rfl) h
theorem M9 (n_0:Int) (b:B8) (f:B8) (a:TV) (c:B8) (d_0:Int) (d_1:Int) (d_2:Bool) (d_3:Bool) (st:St) (K:TV->Int->St->Prop) (h:CallT PR EV [(.agg [.int .i64 n_0,.str b,.str f,a,.str c]),(.agg [.int .u8 d_0,.int .u8 d_1,.bool d_2,.bool d_3])] [.one .bool] st (fun (b1:Bool) q=>BIf (!b1) (K .nilSlice 1 q) (need (isSl a) (∃(I1:TV->Int->TV->Int->Int->Int->Bool->Bool->St->Prop) (M1:TV->Int->TV->Int->Int->Int->Bool->Bool->St->Nat),(I1 .nilSlice 0 a ((lenS a:Int)) d_0 d_1 d_2 d_3 q)/\∀e b n f n1 n2 b2 b3 l,I1 e b n f n1 n2 b2 b3 l->(BId (b<f) (((0<=b/\b<(lenZ 5 n:Int))/\Ah ((Ai l [] (.t (ixT 5 n b.toNat)) 0 5).map TV.agg) (fun (x1:TV)=>AU [.int .i64,.str,.str,.tv,.str] x1 (fun (n3:Int) (s1 s2:B8) (v1:TV) (s3:B8)=>need (List.all [.int .i64 n3,.str s1,.str s2,v1,.str s3] At) (need (isSl v1) (∃(I2:TV->Int->TV->TV->Int->Int->TV->Int->Int->Int->Bool->Bool->St->Prop) (M2:TV->Int->TV->TV->Int->Int->TV->Int->Int->Int->Bool->Bool->St->Nat),(I2 .nilSlice 0 e n f b v1 ((lenS v1:Int)) n1 n2 b2 b3 l)/\∀j a d k c i g m n4 n5 b4 b5 o,I2 j a d k c i g m n4 n5 b4 b5 o->(BId (a<m) (((0<=a/\a<(lenZ 5 g:Int))/\Ah ((Ai o [] (.t (ixT 5 g a.toNat)) 0 5).map TV.agg) (fun (x2:TV)=>AU [.int .i64,.str,.str,.tv,.str] x2 (fun (n6:Int) (s4 s5:B8) (v2:TV) (s6:B8)=>need (List.all [.int .i64 n6,.str s4,.str s5,v2,.str s6] At) (((0<=(0:Int)/\(0:Int)<(lenZ 5 v2:Int))/\need (isPtr (ixT 5 v2 (Int.toNat (0:Int)))) (Ah (Ac GD [] (.t (Am (ixT 5 v2 (Int.toNat (0:Int))) 2)) 0) (fun (x3:TV)=>Ag .str x3 (fun (s7:B8)=>CallT PR CF [.str s7,(.agg [.int .u8 n4,.int .u8 n5,.bool b4,.bool b5])] [.one .str,.one .bool] o (fun (s8:B8) (b6:Bool) s=>BZ 4 1 1 j 1 [.bool b6] s (fun (v3:TV) p=>(I2 v3 ((i64.wrap (a+(1:Int)))) d k c i g m n4 n5 b4 b5 p/\M2 v3 ((i64.wrap (a+(1:Int)))) d k c i g m n4 n5 b4 b5 p<M2 j a d k c i g m n4 n5 b4 b5 o)))))))))))) (need (List.all [j] At) (need (List.all [j] At) (BZ 164 1 24 d 1 [j] o (fun (v4:TV) r=>(I1 v4 ((i64.wrap (i+(1:Int)))) k c n4 n5 b4 b5 r/\M1 v4 ((i64.wrap (i+(1:Int)))) k c n4 n5 b4 b5 r<M1 e b n f n1 n2 b2 b3 l)))))))))))) (K e 0 l)))))):CallT PR Fi [(.agg [.int .i64 n_0,.str b,.str f,a,.str c]),(.agg [.int .u8 d_0,.int .u8 d_1,.bool d_2,.bool d_3])] [.one .tv,.one (.int .i64)] st K:=
 Ae (cfg:=⟨[2,3,8,11],[],[]⟩) (h:=(.seq .none (.seq .none (.seq .none (.seq (.seq .none (.block (.loop ⟨[(6,.tv),(21,.int .i64),(19,.tv),(20,.int .i64)],[(3,1,0)],[(1,4)],[(1,0,.int .u8),(1,1,.int .u8),(1,2,.bool),(1,3,.bool)]⟩ (.seq .none (.seq .none (.seq (.block (.seq .none (.seq .none (.seq (.seq .none (.block (.loop ⟨[(9,.tv),(28,.int .i64),(6,.tv),(19,.tv),(20,.int .i64),(21,.int .i64),(26,.tv),(27,.int .i64)],[(3,1,0)],[(1,4)],[(1,0,.int .u8),(1,1,.int .u8),(1,2,.bool),(1,3,.bool)]⟩ .none))) .none)))) .none)))))) .none))))) mixed (fun _ _=>Tryz.call106 _ _) Tryz.func106 (by kernel_rfl) (by kernel_rfl) h
theorem LL (src:B8) (st:St) (K:Int->St->Prop) (h:∃(I1:Int->B8->St->Prop) (M1:Int->B8->St->Nat),(I1 0 src st)/\∀b a c,I1 b a c->(BId (b<(a.length:Int)) (CallT PR DK [.str a,.int .i64 b] [.one (.int .i64),.one (.int .i64)] c (fun (n1 n2:Int) d=>BId (n2=0) (K b d) ((I1 ((i64.wrap (b+n2))) a d/\M1 ((i64.wrap (b+n2))) a d<M1 b a c)))) (K (-1) c))):CallT PR EK [.str src] [.one (.int .i64)] st K:=
 Ae (cfg:=⟨[],[],[]⟩) (h:=(.seq .none (.seq (.seq .none (.block (.loop ⟨[(3,.int .i64),(0,.str)],[],[],[]⟩ .none))) .none))) mixed (fun _ _=>Tryz.call118 _ _) Tryz.func118 (by kernel_rfl) (by kernel_rfl) h
theorem Hu (p:Nat) (number:Int) (st:St) (K:Int->B8->B8->TV->B8->Bool->St->Prop) (h:BId (number=0) (Ah (Ac st [] (.t (.box p 3)) 0) (fun (x1:TV)=>Ag .bool x1 (fun (b1:Bool)=>stB (st.push (.cells [.int .i64 0,(.str []),(.str []),.nilSlice,(.str [])]) (some 79)) (.box st.nb 0) [.int .i64 8,(.str []),(.str []),.nilSlice,(.str [])] (fun w7=>BIf (!b1) (CallT PR Bj [(.box p 0),.int .i64 2] [.one .bool] w7 (fun (b2:Bool) p0=>BIf (!b2) (Ah ((Ai p0 [] (.t (.box st.nb 0)) 0 5).map TV.agg) (fun (x2:TV)=>AU [.int .i64,.str,.str,.tv,.str] x2 (fun (n1:Int) (s1 s2:B8) (v1:TV) (s3:B8)=>need (List.all [.int .i64 n1,.str s1,.str s2,v1,.str s3] At) (K n1 s1 s2 v1 s3 false p0)))) (∃(I1:TV->Int->Bool->TV->St->Prop) (M1:TV->Int->Bool->TV->St->Nat),(I1 ((.box p 0)) number b1 ((.box st.nb 0)) p0)/\∀d i k a x,I1 d i k a x->(BId ((0:Int)<i) (need (isPtr a) (Ah (Ac x [] (.t (Am a 3)) 0) (fun (v2:TV)=>need (isSl v2) (need (isPtr d) (need (isPtr d) (Ah (Ac x [] (.t (Am d 12)) 0) (fun (x4:TV)=>Ag (.int .i64) x4 (fun (n2:Int)=>BId (n2<=(lenS v2:Int)) (Ah ((Ai x [] (.t a) 0 5).map TV.agg) (fun (x5:TV)=>AU [.int .i64,.str,.str,.tv,.str] x5 (fun (n3:Int) (s4 s5:B8) (v3:TV) (s6:B8)=>need (isPtr d) (need (isPtr d) (Ah (Ac x [] (.t (Am d 10)) 0) (fun (x6:TV)=>Ag (.int .i64) x6 (fun (n4:Int)=>CallT PR Ak [d,.int .i64 n4,.int .i64 10] [.one .bool] x (fun (b3:Bool) st4=>(Ai st4 [] (.t a) 0 5=some [.int .i64 n3,.str s4,.str s5,v3,.str s6]/\need (List.all [.int .i64 n3,.str s4,.str s5,v3,.str s6] At) (K n3 s4 s5 v3 s6 b3 st4)))))))))) (CallT PR AL [d,.bool k] [.agg [.int .i64,.str,.str,.tv,.str],.one .bool] x (fun (n5:Int) (s7 s8:B8) (v4:TV) (s9:B8) (b4:Bool) f0=>need (List.all [.int .i64 n5,.str s7,.str s8,v4,.str s9] At) (BIf (!b4) (Ah ((Ai f0 [] (.t a) 0 5).map TV.agg) (fun (x7:TV)=>AU [.int .i64,.str,.str,.tv,.str] x7 (fun (n6:Int) (s10 w4:B8) (v5:TV) (s12:B8)=>need (List.all [.int .i64 n6,.str s10,.str w4,v5,.str s12] At) (K n6 s10 w4 v5 s12 false f0)))) (need (isPtr a) (Ah (Ac f0 [] (.t (Am a 3)) 0) (fun (v6:TV)=>need (isSl v6) (need (isPtr a) (need (List.all [.int .i64 n5,.str s7,.str s8,v4,.str s9] At) ((((lenS v6:Int)=(lenS v6:Int))/\BZ 79 5 80 v6 1 [.int .i64 n5,.str s7,.str s8,v4,.str s9] f0 (fun (v7:TV) st6=>stB st6 (Am a 3) [v7] (fun f1=>need (isSl v4) (BId ((lenS v4:Int)=(1:Int)) (need (isPtr d) (need (isPtr d) (Ah (Ac f1 [] (.t (Am d 10)) 0) (fun (x9:TV)=>Ag (.int .i64) x9 (fun (n7:Int)=>CallT PR AG [d,a] [.one .bool] f1 (fun (b5:Bool) w=>BIf (!b5) (Ah ((Ai w [] (.t a) 0 5).map TV.agg) (fun (x10:TV)=>AU [.int .i64,.str,.str,.tv,.str] x10 (fun (n8:Int) (t1 t2:B8) (v8:TV) (s15:B8)=>need (List.all [.int .i64 n8,.str t1,.str t2,v8,.str s15] At) (K n8 t1 t2 v8 s15 false w)))) (BId (i=0) (need (isPtr a) (Ah (Ac w [] (.t (Am a 3)) 0) (fun (v9:TV)=>need (isSl v9) (need (isPtr d) (need (isPtr d) (stB w (Am d 12) [(.int .i64 (lenS v9:Int))] (fun a3=>need (isPtr a) (Ah (Ac a3 [] (.t (Am a 3)) 0) (fun (v10:TV)=>need (isSl v10) (need (isPtr d) (need (isPtr d) (Ah (Ac a3 [] (.t (Am d 12)) 0) (fun (x13:TV)=>Ag (.int .i64) x13 (fun (n9:Int)=>BId ((lenS v10:Int)<n9) (Ah ((Ai a3 [] (.t a) 0 5).map TV.agg) (fun (x14:TV)=>AU [.int .i64,.str,.str,.tv,.str] x14 (fun (j6:Int) (o4 g5:B8) (r2:TV) (j1:B8)=>CallT PR Ak [d,.int .i64 n7,.int .i64 10] [.one .bool] a3 (fun (b6:Bool) o7=>(Ai o7 [] (.t a) 0 5=some [.int .i64 j6,.str o4,.str g5,r2,.str j1]/\need (List.all [.int .i64 j6,.str o4,.str g5,r2,.str j1] At) (K j6 o4 g5 r2 j1 b6 o7)))))) (Ah ((Ai a3 [] (.t a) 0 5).map TV.agg) (fun (x15:TV)=>AU [.int .i64,.str,.str,.tv,.str] x15 (fun (n11:Int) (s19 t3:B8) (v12:TV) (t4:B8)=>need (List.all [.int .i64 n11,.str s19,.str t3,v12,.str t4] At) (K n11 s19 t3 v12 t4 true a3)))))))))))))))))) (need (isPtr a) (Ah (Ac w [] (.t (Am a 3)) 0) (fun (w5:TV)=>need (isSl w5) (need (isPtr d) (need (isPtr d) (Ah (Ac w [] (.t (Am d 12)) 0) (fun (x17:TV)=>Ag (.int .i64) x17 (fun (n12:Int)=>BId ((lenS w5:Int)<n12) (Ah ((Ai w [] (.t a) 0 5).map TV.agg) (fun (x18:TV)=>AU [.int .i64,.str,.str,.tv,.str] x18 (fun (i5:Int) (m6 l8:B8) (m5:TV) (k9:B8)=>CallT PR Ak [d,.int .i64 n7,.int .i64 10] [.one .bool] w (fun (b7:Bool) l3=>(Ai l3 [] (.t a) 0 5=some [.int .i64 i5,.str m6,.str l8,m5,.str k9]/\need (List.all [.int .i64 i5,.str m6,.str l8,m5,.str k9] At) (K i5 m6 l8 m5 k9 b7 l3)))))) (Ah ((Ai w [] (.t a) 0 5).map TV.agg) (fun (x19:TV)=>AU [.int .i64,.str,.str,.tv,.str] x19 (fun (y2:Int) (s25 w0:B8) (r4:TV) (s27:B8)=>need (List.all [.int .i64 y2,.str s25,.str w0,r4,.str s27] At) (K y2 s25 w0 r4 s27 true w))))))))))))))))))) ((I1 d i k a f1/\M1 d i k a f1<M1 d i k a x))))))))))))))))))))))) (CallT PR AL [d,.bool k] [.agg [.int .i64,.str,.str,.tv,.str],.one .bool] x (fun (o9:Int) (g3 i8:B8) (c6:TV) (j9:B8) (b8:Bool) c2=>need (List.all [.int .i64 o9,.str g3,.str i8,c6,.str j9] At) (BIf (!b8) (Ah ((Ai c2 [] (.t a) 0 5).map TV.agg) (fun (x20:TV)=>AU [.int .i64,.str,.str,.tv,.str] x20 (fun (y5:Int) (y8 s32:B8) (s0:TV) (t8:B8)=>need (List.all [.int .i64 y5,.str y8,.str s32,s0,.str t8] At) (K y5 y8 s32 s0 t8 false c2)))) (need (isPtr a) (Ah (Ac c2 [] (.t (Am a 3)) 0) (fun (f3:TV)=>need (isSl f3) (need (isPtr a) (need (List.all [.int .i64 o9,.str g3,.str i8,c6,.str j9] At) ((((lenS f3:Int)=(lenS f3:Int))/\BZ 79 5 80 f3 1 [.int .i64 o9,.str g3,.str i8,c6,.str j9] c2 (fun (v19:TV) st13=>stB st13 (Am a 3) [v19] (fun b0=>need (isSl c6) (BId ((lenS c6:Int)=(1:Int)) (need (isPtr d) (need (isPtr d) (Ah (Ac b0 [] (.t (Am d 10)) 0) (fun (x22:TV)=>Ag (.int .i64) x22 (fun (n17:Int)=>CallT PR AG [d,a] [.one .bool] b0 (fun (b9:Bool) v=>BIf (!b9) (Ah ((Ai v [] (.t a) 0 5).map TV.agg) (fun (x23:TV)=>AU [.int .i64,.str,.str,.tv,.str] x23 (fun (n18:Int) (s34 z7:B8) (v20:TV) (x0:B8)=>need (List.all [.int .i64 n18,.str s34,.str z7,v20,.str x0] At) (K n18 s34 z7 v20 x0 false v)))) (BId (i=0) (need (isPtr a) (Ah (Ac v [] (.t (Am a 3)) 0) (fun (z5:TV)=>need (isSl z5) (need (isPtr d) (need (isPtr d) (stB v (Am d 12) [(.int .i64 (lenS z5:Int))] (fun z=>need (isPtr a) (Ah (Ac z [] (.t (Am a 3)) 0) (fun (r8:TV)=>need (isSl r8) (need (isPtr d) (need (isPtr d) (Ah (Ac z [] (.t (Am d 12)) 0) (fun (x26:TV)=>Ag (.int .i64) x26 (fun (n19:Int)=>BId ((lenS r8:Int)<n19) (Ah ((Ai z [] (.t a) 0 5).map TV.agg) (fun (x27:TV)=>AU [.int .i64,.str,.str,.tv,.str] x27 (fun (q9:Int) (l9 l0:B8) (h1:TV) (f8:B8)=>CallT PR Ak [d,.int .i64 n17,.int .i64 10] [.one .bool] z (fun (b10:Bool) j7=>(Ai j7 [] (.t a) 0 5=some [.int .i64 q9,.str l9,.str l0,h1,.str f8]/\need (List.all [.int .i64 q9,.str l9,.str l0,h1,.str f8] At) (K q9 l9 l0 h1 f8 b10 j7)))))) (Ah ((Ai z [] (.t a) 0 5).map TV.agg) (fun (x28:TV)=>AU [.int .i64,.str,.str,.tv,.str] x28 (fun (u6:Int) (y6 s41:B8) (v24:TV) (s42:B8)=>need (List.all [.int .i64 u6,.str y6,.str s41,v24,.str s42] At) (K u6 y6 s41 v24 s42 true z)))))))))))))))))) (need (isPtr a) (Ah (Ac v [] (.t (Am a 3)) 0) (fun (v25:TV)=>need (isSl v25) (need (isPtr d) (need (isPtr d) (Ah (Ac v [] (.t (Am d 12)) 0) (fun (x30:TV)=>Ag (.int .i64) x30 (fun (n22:Int)=>BId ((lenS v25:Int)<n22) (Ah ((Ai v [] (.t a) 0 5).map TV.agg) (fun (x31:TV)=>AU [.int .i64,.str,.str,.tv,.str] x31 (fun (h7:Int) (q3 g7:B8) (g9:TV) (h0:B8)=>CallT PR Ak [d,.int .i64 n17,.int .i64 10] [.one .bool] v (fun (b11:Bool) i2=>(Ai i2 [] (.t a) 0 5=some [.int .i64 h7,.str q3,.str g7,g9,.str h0]/\need (List.all [.int .i64 h7,.str q3,.str g7,g9,.str h0] At) (K h7 q3 g7 g9 h0 b11 i2)))))) (Ah ((Ai v [] (.t a) 0 5).map TV.agg) (fun (x32:TV)=>AU [.int .i64,.str,.str,.tv,.str] x32 (fun (n24:Int) (s46 z1:B8) (z2:TV) (y1:B8)=>need (List.all [.int .i64 n24,.str s46,.str z1,z2,.str y1] At) (K n24 s46 z1 z2 y1 true v))))))))))))))))))) ((I1 d i k a b0/\M1 d i k a b0<M1 d i k a x))))))))))))))))))) (∃(I2:TV->Int->Bool->TV->St->Prop) (M2:TV->Int->Bool->TV->St->Nat),(I2 ((.box p 0)) number b1 ((.box st.nb 0)) w7)/\∀f j m b q,I2 f j m b q->(BId ((0:Int)<j) (need (isPtr b) (Ah (Ac q [] (.t (Am b 3)) 0) (fun (w2:TV)=>need (isSl w2) (need (isPtr f) (need (isPtr f) (Ah (Ac q [] (.t (Am f 12)) 0) (fun (x34:TV)=>Ag (.int .i64) x34 (fun (n25:Int)=>BId (n25<=(lenS w2:Int)) (Ah ((Ai q [] (.t b) 0 5).map TV.agg) (fun (x35:TV)=>AU [.int .i64,.str,.str,.tv,.str] x35 (fun (i6:Int) (f7 n0:B8) (k1:TV) (k5:B8)=>need (isPtr f) (need (isPtr f) (Ah (Ac q [] (.t (Am f 10)) 0) (fun (x36:TV)=>Ag (.int .i64) x36 (fun (n27:Int)=>CallT PR Ak [f,.int .i64 n27,.int .i64 10] [.one .bool] q (fun (b12:Bool) p7=>(Ai p7 [] (.t b) 0 5=some [.int .i64 i6,.str f7,.str n0,k1,.str k5]/\need (List.all [.int .i64 i6,.str f7,.str n0,k1,.str k5] At) (K i6 f7 n0 k1 k5 b12 p7)))))))))) (CallT PR AL [f,.bool m] [.agg [.int .i64,.str,.str,.tv,.str],.one .bool] q (fun (m7:Int) (l6 o0:B8) (c5:TV) (l2:B8) (b13:Bool) c1=>need (List.all [.int .i64 m7,.str l6,.str o0,c5,.str l2] At) (BIf (!b13) (Ah ((Ai c1 [] (.t b) 0 5).map TV.agg) (fun (x37:TV)=>AU [.int .i64,.str,.str,.tv,.str] x37 (fun (n29:Int) (s55 s56:B8) (v31:TV) (s57:B8)=>need (List.all [.int .i64 n29,.str s55,.str s56,v31,.str s57] At) (K n29 s55 s56 v31 s57 false c1)))) (need (isPtr b) (Ah (Ac c1 [] (.t (Am b 3)) 0) (fun (f2:TV)=>need (isSl f2) (need (isPtr b) (need (List.all [.int .i64 m7,.str l6,.str o0,c5,.str l2] At) ((((lenS f2:Int)=(lenS f2:Int))/\BZ 79 5 80 f2 1 [.int .i64 m7,.str l6,.str o0,c5,.str l2] c1 (fun (v33:TV) st22=>stB st22 (Am b 3) [v33] (fun a8=>need (isSl c5) (BId ((lenS c5:Int)=(1:Int)) (need (isPtr f) (need (isPtr f) (Ah (Ac a8 [] (.t (Am f 10)) 0) (fun (x39:TV)=>Ag (.int .i64) x39 (fun (n30:Int)=>CallT PR AG [f,b] [.one .bool] a8 (fun (b14:Bool) u=>BIf (!b14) (Ah ((Ai u [] (.t b) 0 5).map TV.agg) (fun (x40:TV)=>AU [.int .i64,.str,.str,.tv,.str] x40 (fun (n31:Int) (s58 s59:B8) (t6:TV) (z9:B8)=>need (List.all [.int .i64 n31,.str s58,.str s59,t6,.str z9] At) (K n31 s58 s59 t6 z9 false u)))) (BId (j=0) (need (isPtr b) (Ah (Ac u [] (.t (Am b 3)) 0) (fun (t7:TV)=>need (isSl t7) (need (isPtr f) (need (isPtr f) (stB u (Am f 12) [(.int .i64 (lenS t7:Int))] (fun y=>need (isPtr b) (Ah (Ac y [] (.t (Am b 3)) 0) (fun (u5:TV)=>need (isSl u5) (need (isPtr f) (need (isPtr f) (Ah (Ac y [] (.t (Am f 12)) 0) (fun (x43:TV)=>Ag (.int .i64) x43 (fun (n32:Int)=>BId ((lenS u5:Int)<n32) (Ah ((Ai y [] (.t b) 0 5).map TV.agg) (fun (x44:TV)=>AU [.int .i64,.str,.str,.tv,.str] x44 (fun (i3:Int) (q0 m3:B8) (f4:TV) (g8:B8)=>CallT PR Ak [f,.int .i64 n30,.int .i64 10] [.one .bool] y (fun (b15:Bool) k0=>(Ai k0 [] (.t b) 0 5=some [.int .i64 i3,.str q0,.str m3,f4,.str g8]/\need (List.all [.int .i64 i3,.str q0,.str m3,f4,.str g8] At) (K i3 q0 m3 f4 g8 b15 k0)))))) (Ah ((Ai y [] (.t b) 0 5).map TV.agg) (fun (x45:TV)=>AU [.int .i64,.str,.str,.tv,.str] x45 (fun (r5:Int) (s64 s65:B8) (u9:TV) (s66:B8)=>need (List.all [.int .i64 r5,.str s64,.str s65,u9,.str s66] At) (K r5 s64 s65 u9 s66 true y)))))))))))))))))) (need (isPtr b) (Ah (Ac u [] (.t (Am b 3)) 0) (fun (u4:TV)=>need (isSl u4) (need (isPtr f) (need (isPtr f) (Ah (Ac u [] (.t (Am f 12)) 0) (fun (x47:TV)=>Ag (.int .i64) x47 (fun (n35:Int)=>BId ((lenS u4:Int)<n35) (Ah ((Ai u [] (.t b) 0 5).map TV.agg) (fun (x48:TV)=>AU [.int .i64,.str,.str,.tv,.str] x48 (fun (i4:Int) (m4 i0:B8) (i1:TV) (r3:B8)=>CallT PR Ak [f,.int .i64 n30,.int .i64 10] [.one .bool] u (fun (b16:Bool) k6=>(Ai k6 [] (.t b) 0 5=some [.int .i64 i4,.str m4,.str i0,i1,.str r3]/\need (List.all [.int .i64 i4,.str m4,.str i0,i1,.str r3] At) (K i4 m4 i0 i1 r3 b16 k6)))))) (Ah ((Ai u [] (.t b) 0 5).map TV.agg) (fun (x49:TV)=>AU [.int .i64,.str,.str,.tv,.str] x49 (fun (n37:Int) (s70 z4:B8) (u3:TV) (r7:B8)=>need (List.all [.int .i64 n37,.str s70,.str z4,u3,.str r7] At) (K n37 s70 z4 u3 r7 true u))))))))))))))))))) ((I2 f j m b a8/\M2 f j m b a8<M2 f j m b q))))))))))))))))))))))) (CallT PR AL [f,.bool m] [.agg [.int .i64,.str,.str,.tv,.str],.one .bool] q (fun (p4:Int) (j0 r1:B8) (c7:TV) (q1:B8) (b17:Bool) c0=>need (List.all [.int .i64 p4,.str j0,.str r1,c7,.str q1] At) (BIf (!b17) (Ah ((Ai c0 [] (.t b) 0 5).map TV.agg) (fun (x50:TV)=>AU [.int .i64,.str,.str,.tv,.str] x50 (fun (n39:Int) (s76 s77:B8) (r9:TV) (s78:B8)=>need (List.all [.int .i64 n39,.str s76,.str s77,r9,.str s78] At) (K n39 s76 s77 r9 s78 false c0)))) (need (isPtr b) (Ah (Ac c0 [] (.t (Am b 3)) 0) (fun (e8:TV)=>need (isSl e8) (need (isPtr b) (need (List.all [.int .i64 p4,.str j0,.str r1,c7,.str q1] At) ((((lenS e8:Int)=(lenS e8:Int))/\BZ 79 5 80 e8 1 [.int .i64 p4,.str j0,.str r1,c7,.str q1] c0 (fun (v45:TV) st29=>stB st29 (Am b 3) [v45] (fun a4=>need (isSl c7) (BId ((lenS c7:Int)=(1:Int)) (need (isPtr f) (need (isPtr f) (Ah (Ac a4 [] (.t (Am f 10)) 0) (fun (x52:TV)=>Ag (.int .i64) x52 (fun (v0:Int)=>CallT PR AG [f,b] [.one .bool] a4 (fun (b18:Bool) s=>BIf (!b18) (Ah ((Ai s [] (.t b) 0 5).map TV.agg) (fun (x53:TV)=>AU [.int .i64,.str,.str,.tv,.str] x53 (fun (y7:Int) (y9 s80:B8) (v46:TV) (s81:B8)=>need (List.all [.int .i64 y7,.str y9,.str s80,v46,.str s81] At) (K y7 y9 s80 v46 s81 false s)))) (BId (j=0) (need (isPtr b) (Ah (Ac s [] (.t (Am b 3)) 0) (fun (v47:TV)=>need (isSl v47) (need (isPtr f) (need (isPtr f) (stB s (Am f 12) [(.int .i64 (lenS v47:Int))] (fun a2=>need (isPtr b) (Ah (Ac a2 [] (.t (Am b 3)) 0) (fun (v48:TV)=>need (isSl v48) (need (isPtr f) (need (isPtr f) (Ah (Ac a2 [] (.t (Am f 12)) 0) (fun (x56:TV)=>Ag (.int .i64) x56 (fun (n42:Int)=>BId ((lenS v48:Int)<n42) (Ah ((Ai a2 [] (.t b) 0 5).map TV.agg) (fun (x57:TV)=>AU [.int .i64,.str,.str,.tv,.str] x57 (fun (o1:Int) (m1 p2:B8) (i9:TV) (j2:B8)=>CallT PR Ak [f,.int .i64 v0,.int .i64 10] [.one .bool] a2 (fun (b19:Bool) g1=>(Ai g1 [] (.t b) 0 5=some [.int .i64 o1,.str m1,.str p2,i9,.str j2]/\need (List.all [.int .i64 o1,.str m1,.str p2,i9,.str j2] At) (K o1 m1 p2 i9 j2 b19 g1)))))) (Ah ((Ai a2 [] (.t b) 0 5).map TV.agg) (fun (x58:TV)=>AU [.int .i64,.str,.str,.tv,.str] x58 (fun (n44:Int) (x3 x8:B8) (w6:TV) (u1:B8)=>need (List.all [.int .i64 n44,.str x3,.str x8,w6,.str u1] At) (K n44 x3 x8 w6 u1 true a2)))))))))))))))))) (need (isPtr b) (Ah (Ac s [] (.t (Am b 3)) 0) (fun (v51:TV)=>need (isSl v51) (need (isPtr f) (need (isPtr f) (Ah (Ac s [] (.t (Am f 12)) 0) (fun (x60:TV)=>Ag (.int .i64) x60 (fun (n45:Int)=>BId ((lenS v51:Int)<n45) (Ah ((Ai s [] (.t b) 0 5).map TV.agg) (fun (x61:TV)=>AU [.int .i64,.str,.str,.tv,.str] x61 (fun (h5:Int) (k3 f6:B8) (r0:TV) (m2:B8)=>CallT PR Ak [f,.int .i64 v0,.int .i64 10] [.one .bool] s (fun (b20:Bool) h8=>(Ai h8 [] (.t b) 0 5=some [.int .i64 h5,.str k3,.str f6,r0,.str m2]/\need (List.all [.int .i64 h5,.str k3,.str f6,r0,.str m2] At) (K h5 k3 f6 r0 m2 b20 h8)))))) (Ah ((Ai s [] (.t b) 0 5).map TV.agg) (fun (x62:TV)=>AU [.int .i64,.str,.str,.tv,.str] x62 (fun (n47:Int) (s91 s92:B8) (v53:TV) (u2:B8)=>need (List.all [.int .i64 n47,.str s91,.str s92,v53,.str u2] At) (K n47 s91 s92 v53 u2 true s))))))))))))))))))) ((I2 f j m b a4/\M2 f j m b a4<M2 f j m b q))))))))))))))))))))) (stB (st.push (.cells [.int .i64 0,(.str []),(.str []),.nilSlice,(.str [])]) (some 79)) (.box st.nb 0) [.int .i64 8,(.str []),(.str []),.nilSlice,(.str [])] (fun st35=>CallT PR Bj [(.box p 0),.int .i64 2] [.one .bool] st35 (fun (b21:Bool) e3=>BIf (!b21) (Ah ((Ai e3 [] (.t (.box st.nb 0)) 0 5).map TV.agg) (fun (x63:TV)=>AU [.int .i64,.str,.str,.tv,.str] x63 (fun (n48:Int) (s94 w1:B8) (w9:TV) (s96:B8)=>need (List.all [.int .i64 n48,.str s94,.str w1,w9,.str s96] At) (K n48 s94 w1 w9 s96 false e3)))) (∃(I3:TV->Int->Bool->TV->St->Prop) (M3:TV->Int->Bool->TV->St->Nat),(I3 ((.box p 0)) number false ((.box st.nb 0)) e3)/\∀e g l c o,I3 e g l c o->(BId ((0:Int)<g) (need (isPtr c) (Ah (Ac o [] (.t (Am c 3)) 0) (fun (w8:TV)=>need (isSl w8) (need (isPtr e) (need (isPtr e) (Ah (Ac o [] (.t (Am e 12)) 0) (fun (x65:TV)=>Ag (.int .i64) x65 (fun (n49:Int)=>BId (n49<=(lenS w8:Int)) (Ah ((Ai o [] (.t c) 0 5).map TV.agg) (fun (x66:TV)=>AU [.int .i64,.str,.str,.tv,.str] x66 (fun (g2:Int) (h9 j8:B8) (q8:TV) (m9:B8)=>need (isPtr e) (need (isPtr e) (Ah (Ac o [] (.t (Am e 10)) 0) (fun (x67:TV)=>Ag (.int .i64) x67 (fun (n51:Int)=>CallT PR Ak [e,.int .i64 n51,.int .i64 10] [.one .bool] o (fun (b22:Bool) l5=>(Ai l5 [] (.t c) 0 5=some [.int .i64 g2,.str h9,.str j8,q8,.str m9]/\need (List.all [.int .i64 g2,.str h9,.str j8,q8,.str m9] At) (K g2 h9 j8 q8 m9 b22 l5)))))))))) (CallT PR AL [e,.bool l] [.agg [.int .i64,.str,.str,.tv,.str],.one .bool] o (fun (g6:Int) (d1 d5:B8) (c3:TV) (e6:B8) (b23:Bool) a9=>need (List.all [.int .i64 g6,.str d1,.str d5,c3,.str e6] At) (BIf (!b23) (Ah ((Ai a9 [] (.t c) 0 5).map TV.agg) (fun (x68:TV)=>AU [.int .i64,.str,.str,.tv,.str] x68 (fun (n53:Int) (q7 j5:B8) (v58:TV) (j3:B8)=>need (List.all [.int .i64 n53,.str q7,.str j5,v58,.str j3] At) (K n53 q7 j5 v58 j3 false a9)))) (need (isPtr c) (Ah (Ac a9 [] (.t (Am c 3)) 0) (fun (e7:TV)=>need (isSl e7) (need (isPtr c) (need (List.all [.int .i64 g6,.str d1,.str d5,c3,.str e6] At) ((((lenS e7:Int)=(lenS e7:Int))/\BZ 79 5 80 e7 1 [.int .i64 g6,.str d1,.str d5,c3,.str e6] a9 (fun (v60:TV) st40=>stB st40 (Am c 3) [v60] (fun a5=>need (isSl c3) (BId ((lenS c3:Int)=(1:Int)) (need (isPtr e) (need (isPtr e) (Ah (Ac a5 [] (.t (Am e 10)) 0) (fun (x70:TV)=>Ag (.int .i64) x70 (fun (y0:Int)=>CallT PR AG [e,c] [.one .bool] a5 (fun (b24:Bool) r=>BIf (!b24) (Ah ((Ai r [] (.t c) 0 5).map TV.agg) (fun (x71:TV)=>AU [.int .i64,.str,.str,.tv,.str] x71 (fun (y3:Int) (p5 o3:B8) (t0:TV) (l1:B8)=>need (List.all [.int .i64 y3,.str p5,.str o3,t0,.str l1] At) (K y3 p5 o3 t0 l1 false r)))) (BId (g=0) (need (isPtr c) (Ah (Ac r [] (.t (Am c 3)) 0) (fun (u7:TV)=>need (isSl u7) (need (isPtr e) (need (isPtr e) (stB r (Am e 12) [(.int .i64 (lenS u7:Int))] (fun a1=>need (isPtr c) (Ah (Ac a1 [] (.t (Am c 3)) 0) (fun (v63:TV)=>need (isSl v63) (need (isPtr e) (need (isPtr e) (Ah (Ac a1 [] (.t (Am e 12)) 0) (fun (x74:TV)=>Ag (.int .i64) x74 (fun (n56:Int)=>BId ((lenS v63:Int)<n56) (Ah ((Ai a1 [] (.t c) 0 5).map TV.agg) (fun (x75:TV)=>AU [.int .i64,.str,.str,.tv,.str] x75 (fun (p9:Int) (d2 e5:B8) (l7:TV) (d6:B8)=>CallT PR Ak [e,.int .i64 y0,.int .i64 10] [.one .bool] a1 (fun (b25:Bool) p8=>(Ai p8 [] (.t c) 0 5=some [.int .i64 p9,.str d2,.str e5,l7,.str d6]/\need (List.all [.int .i64 p9,.str d2,.str e5,l7,.str d6] At) (K p9 d2 e5 l7 d6 b25 p8)))))) (Ah ((Ai a1 [] (.t c) 0 5).map TV.agg) (fun (x76:TV)=>AU [.int .i64,.str,.str,.tv,.str] x76 (fun (t9:Int) (h3 h2:B8) (r6:TV) (m8:B8)=>need (List.all [.int .i64 t9,.str h3,.str h2,r6,.str m8] At) (K t9 h3 h2 r6 m8 true a1)))))))))))))))))) (need (isPtr c) (Ah (Ac r [] (.t (Am c 3)) 0) (fun (z8:TV)=>need (isSl z8) (need (isPtr e) (need (isPtr e) (Ah (Ac r [] (.t (Am e 12)) 0) (fun (x78:TV)=>Ag (.int .i64) x78 (fun (n59:Int)=>BId ((lenS z8:Int)<n59) (Ah ((Ai r [] (.t c) 0 5).map TV.agg) (fun (x79:TV)=>AU [.int .i64,.str,.str,.tv,.str] x79 (fun (p1:Int) (e2 e1:B8) (g4:TV) (d0:B8)=>CallT PR Ak [e,.int .i64 y0,.int .i64 10] [.one .bool] r (fun (b26:Bool) h6=>(Ai h6 [] (.t c) 0 5=some [.int .i64 p1,.str e2,.str e1,g4,.str d0]/\need (List.all [.int .i64 p1,.str e2,.str e1,g4,.str d0] At) (K p1 e2 e1 g4 d0 b26 h6)))))) (Ah ((Ai r [] (.t c) 0 5).map TV.agg) (fun (x80:TV)=>AU [.int .i64,.str,.str,.tv,.str] x80 (fun (n61:Int) (q2 f5:B8) (w3:TV) (g0:B8)=>need (List.all [.int .i64 n61,.str q2,.str f5,w3,.str g0] At) (K n61 q2 f5 w3 g0 true r))))))))))))))))))) ((I3 e g l c a5/\M3 e g l c a5<M3 e g l c o))))))))))))))))))))))) (CallT PR AL [e,.bool l] [.agg [.int .i64,.str,.str,.tv,.str],.one .bool] o (fun (o6:Int) (d7 c8:B8) (c4:TV) (e0:B8) (b27:Bool) a7=>need (List.all [.int .i64 o6,.str d7,.str c8,c4,.str e0] At) (BIf (!b27) (Ah ((Ai a7 [] (.t c) 0 5).map TV.agg) (fun (x81:TV)=>AU [.int .i64,.str,.str,.tv,.str] x81 (fun (n63:Int) (f9 l4:B8) (z0:TV) (k7:B8)=>need (List.all [.int .i64 n63,.str f9,.str l4,z0,.str k7] At) (K n63 f9 l4 z0 k7 false a7)))) (need (isPtr c) (Ah (Ac a7 [] (.t (Am c 3)) 0) (fun (e9:TV)=>need (isSl e9) (need (isPtr c) (need (List.all [.int .i64 o6,.str d7,.str c8,c4,.str e0] At) ((((lenS e9:Int)=(lenS e9:Int))/\BZ 79 5 80 e9 1 [.int .i64 o6,.str d7,.str c8,c4,.str e0] a7 (fun (v72:TV) st47=>stB st47 (Am c 3) [v72] (fun a6=>need (isSl c4) (BId ((lenS c4:Int)=(1:Int)) (need (isPtr e) (need (isPtr e) (Ah (Ac a6 [] (.t (Am e 10)) 0) (fun (x83:TV)=>Ag (.int .i64) x83 (fun (n64:Int)=>CallT PR AG [e,c] [.one .bool] a6 (fun (b28:Bool) n=>BIf (!b28) (Ah ((Ai n [] (.t c) 0 5).map TV.agg) (fun (x84:TV)=>AU [.int .i64,.str,.str,.tv,.str] x84 (fun (t5:Int) (o8 q5:B8) (z6:TV) (k4:B8)=>need (List.all [.int .i64 t5,.str o8,.str q5,z6,.str k4] At) (K t5 o8 q5 z6 k4 false n)))) (BId (g=0) (need (isPtr c) (Ah (Ac n [] (.t (Am c 3)) 0) (fun (y4:TV)=>need (isSl y4) (need (isPtr e) (need (isPtr e) (stB n (Am e 12) [(.int .i64 (lenS y4:Int))] (fun a0=>need (isPtr c) (Ah (Ac a0 [] (.t (Am c 3)) 0) (fun (v75:TV)=>need (isSl v75) (need (isPtr e) (need (isPtr e) (Ah (Ac a0 [] (.t (Am e 12)) 0) (fun (x87:TV)=>Ag (.int .i64) x87 (fun (n66:Int)=>BId ((lenS v75:Int)<n66) (Ah ((Ai a0 [] (.t c) 0 5).map TV.agg) (fun (x88:TV)=>AU [.int .i64,.str,.str,.tv,.str] x88 (fun (o5:Int) (e4 d3:B8) (k2:TV) (d8:B8)=>CallT PR Ak [e,.int .i64 n64,.int .i64 10] [.one .bool] a0 (fun (b29:Bool) p3=>(Ai p3 [] (.t c) 0 5=some [.int .i64 o5,.str e4,.str d3,k2,.str d8]/\need (List.all [.int .i64 o5,.str e4,.str d3,k2,.str d8] At) (K o5 e4 d3 k2 d8 b29 p3)))))) (Ah ((Ai a0 [] (.t c) 0 5).map TV.agg) (fun (x89:TV)=>AU [.int .i64,.str,.str,.tv,.str] x89 (fun (u8:Int) (h4 k8:B8) (u0:TV) (o2:B8)=>need (List.all [.int .i64 u8,.str h4,.str k8,u0,.str o2] At) (K u8 h4 k8 u0 o2 true a0)))))))))))))))))) (need (isPtr c) (Ah (Ac n [] (.t (Am c 3)) 0) (fun (v78:TV)=>need (isSl v78) (need (isPtr e) (need (isPtr e) (Ah (Ac n [] (.t (Am e 12)) 0) (fun (x91:TV)=>Ag (.int .i64) x91 (fun (n69:Int)=>BId ((lenS v78:Int)<n69) (Ah ((Ai n [] (.t c) 0 5).map TV.agg) (fun (x92:TV)=>AU [.int .i64,.str,.str,.tv,.str] x92 (fun (i7:Int) (d4 d9:B8) (q4:TV) (c9:B8)=>CallT PR Ak [e,.int .i64 n64,.int .i64 10] [.one .bool] n (fun (b30:Bool) p6=>(Ai p6 [] (.t c) 0 5=some [.int .i64 i7,.str d4,.str d9,q4,.str c9]/\need (List.all [.int .i64 i7,.str d4,.str d9,q4,.str c9] At) (K i7 d4 d9 q4 c9 b30 p6)))))) (Ah ((Ai n [] (.t c) 0 5).map TV.agg) (fun (x93:TV)=>AU [.int .i64,.str,.str,.tv,.str] x93 (fun (n71:Int) (m0 j4:B8) (z3:TV) (q6:B8)=>need (List.all [.int .i64 n71,.str m0,.str j4,z3,.str q6] At) (K n71 m0 j4 z3 q6 true n))))))))))))))))))) ((I3 e g l c a6/\M3 e g l c a6<M3 e g l c o))))))))))))))))))))):CallT PR Cn [(.box p 0),.int .i64 number] [.agg [.int .i64,.str,.str,.tv,.str],.one .bool] st K:=
 Ae (cfg:=⟨[4,8],[],[41,46,93]⟩) (h:=(.seq .none (.seq .none (.seq .none (.seq .none (.seq (.block (.loop ⟨[(0,.tv),(1,.int .i64),(6,.bool),(7,.tv)],[(4,0,0)],[(0,5)],[]⟩ .none)) .none)))))) mixed (fun _ _=>Tryz.call119 _ _) Tryz.func119 (by kernel_rfl) (by kernel_rfl) h
theorem OY (n_0:Int) (f:B8) (i:B8) (a:TV) (g:B8) (depth:Int) (seen:Nat) (st:St) (K:Int->St->Prop) (h:BId ((192:Int)<depth) (K 9 st) (Ah (Ac st [] (.t (.box seen 0)) 0) (fun (x1:TV)=>Ag (.int .i64) x1 (fun (n1:Int)=>stB st (.box seen 0) [(.int .i64 (i64.wrap (n1+(1:Int))))] (fun n=>Ah (Ac n [] (.t (.box seen 0)) 0) (fun (x2:TV)=>Ag (.int .i64) x2 (fun (n2:Int)=>BId ((524288:Int)<n2) (K 10 n) (BId (n_0<1) (K 6 n) (BId ((12:Int)<=n_0) (K 6 n) (CallT PR HX [.int .i64 n_0] [.one .bool] n (fun (b1:Bool) o=>BIf b1 (need (isSl a) (BId ((0:Int)<(lenS a:Int)) (K 1 o) (BId (g≠([]:B8)) (K 1 o) (need (isSl a) (∃(I1:Int->Int->TV->TV->Int->St->Prop) (M1:Int->Int->TV->TV->Int->St->Nat),(I1 0 depth ((.box seen 0)) a ((lenS a:Int)) o)/\∀f c d j i m,I1 f c d j i m->(BId (f<i) (((0<=f/\f<(lenZ 5 j:Int))/\Ah ((Ai m [] (.t (ixT 5 j f.toNat)) 0 5).map TV.agg) (fun (x3:TV)=>AU [.int .i64,.str,.str,.tv,.str] x3 (fun (n3:Int) (s1 s2:B8) (v1:TV) (s3:B8)=>need (List.all [.int .i64 n3,.str s1,.str s2,v1,.str s3] At) (CallT PR DL [(.agg [.int .i64 n3,.str s1,.str s2,v1,.str s3]),(.int .i64 (i64.wrap (c+(1:Int)))),d] [.one (.int .i64)] m (fun (n4:Int) p=>BId (n4≠0) (K n4 p) ((I1 ((i64.wrap (f+(1:Int)))) c d j i p/\M1 ((i64.wrap (f+(1:Int)))) c d j i p<M1 f c d j i m)))))))) (K 0 m))))))) (need (isSl a) (∃(I2:Int->Int->TV->TV->Int->St->Prop) (M2:Int->Int->TV->TV->Int->St->Nat),(I2 0 depth ((.box seen 0)) a ((lenS a:Int)) o)/\∀a b e k g l,I2 a b e k g l->(BId (a<g) (((0<=a/\a<(lenZ 5 k:Int))/\Ah ((Ai l [] (.t (ixT 5 k a.toNat)) 0 5).map TV.agg) (fun (x4:TV)=>AU [.int .i64,.str,.str,.tv,.str] x4 (fun (n5:Int) (s4 s5:B8) (v2:TV) (s6:B8)=>need (List.all [.int .i64 n5,.str s4,.str s5,v2,.str s6] At) (CallT PR DL [(.agg [.int .i64 n5,.str s4,.str s5,v2,.str s6]),(.int .i64 (i64.wrap (b+(1:Int)))),e] [.one (.int .i64)] l (fun (n6:Int) q=>BId (n6≠0) (K n6 q) ((I2 ((i64.wrap (a+(1:Int)))) b e k g q/\M2 ((i64.wrap (a+(1:Int)))) b e k g q<M2 a b e k g l)))))))) (K 0 l))))))))))))))):CallT PR DL [(.agg [.int .i64 n_0,.str f,.str i,a,.str g]),.int .i64 depth,(.box seen 0)] [.one (.int .i64)] st K:=
 Ae (cfg:=⟨[3,8],[],[]⟩) (h:=(.seq .none (.seq .none (.seq .none (.seq .none (.seq .none (.seq (.seq .none (.block (.loop ⟨[(46,.int .i64),(1,.int .i64),(2,.tv),(44,.tv),(45,.int .i64)],[],[],[]⟩ .none))) .none))))))) mixed (fun _ _=>Tryz.call120 _ _) Tryz.func120 (by kernel_rfl) (by kernel_rfl) h
theorem Rp (n_0:Int) (a:B8) (c:B8) (n_3:TV) (n_4:B8) (st:St) (K:Int->St->Prop) (h:need (isSl n_3) (∃(I1:Int->Int->TV->Int->St->Prop) (M1:Int->Int->TV->Int->St->Nat),(I1 ((i64.wrap ((i64.wrap ((a.length:Int)+(c.length:Int)))+(n_4.length:Int)))) 0 n_3 ((lenS n_3:Int)) st)/\∀b a d c e,I1 b a d c e->(BId (a<c) (((0<=a/\a<(lenZ 5 d:Int))/\Ah ((Ai e [] (.t (ixT 5 d a.toNat)) 0 5).map TV.agg) (fun (x1:TV)=>AU [.int .i64,.str,.str,.tv,.str] x1 (fun (n1:Int) (s1 s2:B8) (v1:TV) (s3:B8)=>need (List.all [.int .i64 n1,.str s1,.str s2,v1,.str s3] At) (CallT PR Gw [(.agg [.int .i64 n1,.str s1,.str s2,v1,.str s3])] [.one (.int .i64)] e (fun (n2:Int) f=>(I1 ((i64.wrap (b+n2))) ((i64.wrap (a+(1:Int)))) d c f/\M1 ((i64.wrap (b+n2))) ((i64.wrap (a+(1:Int)))) d c f<M1 b a d c e))))))) (K b e)))):CallT PR Gw [(.agg [.int .i64 n_0,.str a,.str c,n_3,.str n_4])] [.one (.int .i64)] st K:=
 Ae (cfg:=⟨[1,5],[],[]⟩) (h:=(.seq .none (.seq .none (.seq (.seq .none (.block (.loop ⟨[(3,.int .i64),(20,.int .i64),(18,.tv),(19,.int .i64)],[],[],[]⟩ .none))) .none)))) mixed (fun _ _=>Tryz.call121 _ _) Tryz.func121 (by kernel_rfl) (by kernel_rfl) h
theorem OX (b:Nat) (n_0:Int) (a:B8) (c:B8) (n_3:TV) (n_4:B8) (st:St) (K:St->Prop) (h:CallT PR AM [(.box b 0),.str a] [.one (.int .i64),.one .tv] st (fun (n1:Int) (v1:TV) k=>CallT PR AM [(.box b 0),.str c] [.one (.int .i64),.one .tv] k (fun (n2:Int) (v2:TV) i=>need (isSl n_3) (∃(I1:Int->TV->TV->Int->Int->B8->B8->TV->B8->St->Prop) (M1:Int->TV->TV->Int->Int->B8->B8->TV->B8->St->Nat),(I1 0 ((.box b 0)) n_3 ((lenS n_3:Int)) n_0 a c n_3 n_4 i)/\∀a e d c n3 s1 s2 v3 s3 f,I1 a e d c n3 s1 s2 v3 s3 f->(BId (a<c) (((0<=a/\a<(lenZ 5 d:Int))/\Ah ((Ai f [] (.t (ixT 5 d a.toNat)) 0 5).map TV.agg) (fun (x1:TV)=>AU [.int .i64,.str,.str,.tv,.str] x1 (fun (n4:Int) (s4 s5:B8) (v4:TV) (s6:B8)=>need (List.all [.int .i64 n4,.str s4,.str s5,v4,.str s6] At) (CallT PR EU [e,(.agg [.int .i64 n4,.str s4,.str s5,v4,.str s6])] [] f (fun (g:St)=>(I1 ((i64.wrap (a+(1:Int)))) e d c n3 s1 s2 v3 s3 g/\M1 ((i64.wrap (a+(1:Int)))) e d c n3 s1 s2 v3 s3 g<M1 a e d c n3 s1 s2 v3 s3 f))))))) (CallT PR AM [e,.str s3] [.one (.int .i64),.one .tv] f (fun (n5:Int) (v5:TV) j=>K j))))))):CallT PR EU [(.box b 0),(.agg [.int .i64 n_0,.str a,.str c,n_3,.str n_4])] [] st K:=
 Ae (cfg:=⟨[3,5],[],[]⟩) (h:=(.seq .none (.seq .none (.seq .none (.seq (.seq .none (.block (.loop ⟨[(17,.int .i64),(0,.tv),(15,.tv),(16,.int .i64)],[(3,0,0)],[(0,5)],[(0,0,.int .i64),(0,1,.str),(0,2,.str),(0,3,.tv),(0,4,.str)]⟩ .none))) .none))))) mixed (fun _ _=>Tryz.call122 _ _) Tryz.func122 (by kernel_rfl) (by kernel_rfl) h
theorem LJ (b:Int) (st:St) (K:Bool->St->Prop) (h:CallT PR Fh [.int .u8 b] [.one .bool] st (fun (b1:Bool) a=>BIf b1 (K true a) (BId ((48:Int)<=b) (BId (b<=57) (K true a) (BId (b=43) (K true a) (BId (b=45) (K true a) (BId (b=46) (K true a) (K ((decide (b=58))) a))))) (BId (b=43) (K true a) (BId (b=45) (K true a) (BId (b=46) (K true a) (K ((decide (b=58))) a))))))):CallT PR BI [.int .u8 b] [.one .bool] st K:=
 Ae (cfg:=⟨[],[],[]⟩) (h:= .none) mixed (fun _ _=>Tryz.call128 _ _) Tryz.func128 (by kernel_rfl) (by kernel_rfl) h
theorem IW (c:Int) (st:St) (K:Bool->St->Prop) (h:CallT PR Cp [.int .u8 c] [.one .bool] st (fun (b1:Bool) b=>BIf (!b1) (CallT PR BT [.int .u8 c] [.one .bool] b (fun (b2:Bool) a=>BIf (!b2) (BId (c≠43) (BId (c≠45) (BId (c≠46) (K ((decide (c≠58))) a) (K false a)) (K false a)) (K false a)) (K false a))) (K false b))):CallT PR A7 [.int .u8 c] [.one .bool] st K:=
 Ae (cfg:=⟨[],[],[]⟩) (h:= .none) mixed (fun _ _=>Tryz.call129 _ _) Tryz.func129 (by kernel_rfl) (by kernel_rfl) h
theorem NL (s:B8) (d_0:Int) (d_1:Int) (d_2:Bool) (d_3:Bool) (st:St) (K:B8->Int->St->Prop) (h:CallT PR Dd [(.agg [.int .u8 d_0,.int .u8 d_1,.bool d_2,.bool d_3])] [.one .bool] st (fun (b1:Bool) f=>BIf (!b1) (K [] 1 f) (CallT PR Ee [.str s] [.one .bool] f (fun (b2:Bool) e=>BIf (!b2) (K [] 5 e) (Ah ((toBytes e (.list 1 .full 1 [.int .u8 d_1])).map TV.str) (fun (x1:TV)=>Ag .str x1 (fun (s1:B8)=>∃(I1:Int->B8->B8->Int->Int->Bool->Bool->St->Prop) (M1:Int->B8->B8->Int->Int->Bool->Bool->St->Nat),(I1 0 s s1 d_0 d_1 d_2 d_3 e)/\∀c b a n1 n2 b3 b4 d,I1 c b a n1 n2 b3 b4 d->(BId (c<(b.length:Int)) (((0<=c/\c<(b.length:Int))/\BId (((List.getD b c.toNat 0).toNat:Int)=n1) ((a.length+a.length<=9223372036854775807/\CallT PR AE [.str b,.str a,(.str (a++a))] [.one .str] d (fun (s2:B8) i=>(a.length+s2.length<=9223372036854775807/\(((a++s2)).length+a.length<=9223372036854775807/\K (((a++s2)++a)) 0 i))))) (BId (((List.getD b c.toNat 0).toNat:Int)=n2) ((a.length+a.length<=9223372036854775807/\CallT PR AE [.str b,.str a,(.str (a++a))] [.one .str] d (fun (s3:B8) g=>(a.length+s3.length<=9223372036854775807/\(((a++s3)).length+a.length<=9223372036854775807/\K (((a++s3)++a)) 0 g))))) (BId (((List.getD b c.toNat 0).toNat:Int)=(10:Int)) ((a.length+a.length<=9223372036854775807/\CallT PR AE [.str b,.str a,(.str (a++a))] [.one .str] d (fun (s4:B8) k=>(a.length+s4.length<=9223372036854775807/\(((a++s4)).length+a.length<=9223372036854775807/\K (((a++s4)++a)) 0 k))))) (BId (((List.getD b c.toNat 0).toNat:Int)=(13:Int)) ((a.length+a.length<=9223372036854775807/\CallT PR AE [.str b,.str a,(.str (a++a))] [.one .str] d (fun (s5:B8) j=>(a.length+s5.length<=9223372036854775807/\(((a++s5)).length+a.length<=9223372036854775807/\K (((a++s5)++a)) 0 j))))) ((I1 ((i64.wrap (c+(1:Int)))) b a n1 n2 b3 b4 d/\M1 ((i64.wrap (c+(1:Int)))) b a n1 n2 b3 b4 d<M1 c b a n1 n2 b3 b4 d))))))) (K b 0 d))))))))):CallT PR Ej [.str s,(.agg [.int .u8 d_0,.int .u8 d_1,.bool d_2,.bool d_3])] [.one .str,.one (.int .i64)] st K:=
 Ae (cfg:=⟨[3],[],[]⟩) (h:=(.seq .none (.seq .none (.seq .none (.seq .none (.seq (.seq .none (.block (.loop ⟨[(7,.int .i64),(0,.str),(6,.str)],[(3,0,0)],[(0,4)],[(0,0,.int .u8),(0,1,.int .u8),(0,2,.bool),(0,3,.bool)]⟩ .none))) .none)))))) mixed (fun _ _=>Tryz.call145 _ _) Tryz.func145 (by kernel_rfl) (by kernel_rfl) h
theorem O4 (n_0:Int) (n_1:B8) (n_2:B8) (n_3:TV) (n_4:B8) (d_0:Int) (d_1:Int) (d_2:Bool) (d_3:Bool) (st:St) (K:Bool->St->Prop) (h:CallT PR GU [(.agg [.int .i64 n_0,.str n_1,.str n_2,n_3,.str n_4])] [.one (.int .i64)] st (fun (n1:Int) b=>BId (n1≠0) (K false b) (CallT PR GT [(.agg [.int .i64 n_0,.str n_1,.str n_2,n_3,.str n_4])] [.one .str] b (fun (s1:B8) c=>CallT PR F5 [] [.agg [.int .i64,.int .i64,.int .i64,.int .i64,.int .i64]] c (fun (n2 n3 n4 n5 n6:Int) e=>CallT PR Ek [.str s1,(.agg [.int .u8 d_0,.int .u8 d_1,.bool d_2,.bool d_3]),(.agg [.int .i64 n2,.int .i64 n3,.int .i64 n4,.int .i64 n5,.int .i64 n6])] [.agg [.int .i64,.str,.str,.tv,.str],.one (.int .i64),.one (.int .i64)] e (fun (n7:Int) (s2 s3:B8) (v1:TV) (s4:B8) (n8 n9:Int) a=>need (List.all [.int .i64 n7,.str s2,.str s3,v1,.str s4] At) (BId (n9=0) (CallT PR FD [(.agg [.int .i64 n7,.str s2,.str s3,v1,.str s4]),(.agg [.int .i64 n_0,.str n_1,.str n_2,n_3,.str n_4])] [.one .bool] a (fun (b1:Bool) d=>K b1 d)) (K false a)))))))):CallT PR EV [(.agg [.int .i64 n_0,.str n_1,.str n_2,n_3,.str n_4]),(.agg [.int .u8 d_0,.int .u8 d_1,.bool d_2,.bool d_3])] [.one .bool] st K:=
 Ae (cfg:=⟨[2,3,5],[],[]⟩) (h:= .none) mixed (fun _ _=>Tryz.call173 _ _) Tryz.func173 (by kernel_rfl) (by kernel_rfl) h
theorem O3 (cell:B8) (d_0:Int) (d_1:Int) (d_2:Bool) (d_3:Bool) (st:St) (K:B8->Bool->St->Prop) (h:BId (cell=([]:B8)) (K cell false st) (((0<=(0:Int)/\(0:Int)<(cell.length:Int))/\BId (((List.getD cell (Int.toNat (0:Int)) 0).toNat:Int)≠d_1) (K cell false st) (Ah ((toBytes st (.list 1 .full 1 [.int .u8 d_1])).map TV.str) (fun (x1:TV)=>Ag .str x1 (fun (s1:B8)=>((0<=(1:Int)/\(1:Int)<=(i64.wrap ((cell.length:Int)-(1:Int)))/\(i64.wrap ((cell.length:Int)-(1:Int)))<=(cell.length:Int))/\(s1.length+s1.length<=9223372036854775807/\CallT PR AE [(.str (List.drop (Int.toNat (1:Int)) (List.take (Int.toNat (i64.wrap ((cell.length:Int)-(1:Int)))) cell))),(.str (s1++s1)),.str s1] [.one .str] st (fun (s2:B8) a=>K s2 true a))))))))):CallT PR CF [.str cell,(.agg [.int .u8 d_0,.int .u8 d_1,.bool d_2,.bool d_3])] [.one .str,.one .bool] st K:=
 Ae (cfg:=⟨[3],[],[]⟩) (h:= .none) mixed (fun _ _=>Tryz.call174 _ _) Tryz.func174 (by kernel_rfl) (by kernel_rfl) h
theorem Ig (p:Nat) (depth:Int) (st:St) (K:Bool->St->Prop) (h:Ah (Ac st [] (.t (.box p 5)) 0) (fun (x1:TV)=>Ag (.int .i64) x1 (fun (n1:Int)=>BId (n1<depth) (Ah (Ac st [] (.t (.box p 10)) 0) (fun (x2:TV)=>Ag (.int .i64) x2 (fun (n2:Int)=>CallT PR Ak [(.box p 0),.int .i64 n2,.int .i64 9] [.one .bool] st (fun (b1:Bool) a=>K b1 a)))) (Ah (Ac st [] (.t (.box p 11)) 0) (fun (x3:TV)=>Ag (.int .i64) x3 (fun (n3:Int)=>Ah (Ac st [] (.t (.box p 6)) 0) (fun (x4:TV)=>Ag (.int .i64) x4 (fun (n4:Int)=>BId (n4<=n3) (Ah (Ac st [] (.t (.box p 10)) 0) (fun (x5:TV)=>Ag (.int .i64) x5 (fun (n5:Int)=>CallT PR Ak [(.box p 0),.int .i64 n5,.int .i64 10] [.one .bool] st (fun (b2:Bool) b=>K b2 b)))) (Ah (Ac st [] (.t (.box p 11)) 0) (fun (x6:TV)=>Ag (.int .i64) x6 (fun (n6:Int)=>stB st (.box p 11) [(.int .i64 (i64.wrap (n6+(1:Int))))] (fun c=>K true c)))))))))))):CallT PR Bj [(.box p 0),.int .i64 depth] [.one .bool] st K:=
 Ae (cfg:=⟨[],[],[]⟩) (h:= .none) mixed (fun _ _=>Tryz.call191 _ _) Tryz.func191 (by kernel_rfl) (by kernel_rfl) h
theorem IS (p:Nat) (atx:Int) (e:Int) (st:St) (K:Bool->St->Prop) (h:stB st (.box p 14) [.int .i64 atx] (fun a=>stB a (.box p 15) [.int .i64 e] (fun b=>K false b))):CallT PR Ak [(.box p 0),.int .i64 atx,.int .i64 e] [.one .bool] st K:=
 Ae (cfg:=⟨[],[],[]⟩) (h:= .none) mixed (fun _ _=>Tryz.call192 _ _) Tryz.func192 (by kernel_rfl) (by kernel_rfl) h
theorem Ih (p:Nat) (header:Bool) (st:St) (K:Int->B8->B8->TV->B8->Bool->St->Prop) (h:BIf (!header) (CallT PR Bj [(.box p 0),.int .i64 3] [.one .bool] st (fun (b1:Bool) a9=>BIf (!b1) (K 5 [] [] .nilSlice [] false a9) (Ah (Ac a9 [] (.t (.box p 10)) 0) (fun (x1:TV)=>Ag (.int .i64) x1 (fun (n1:Int)=>CallT PR B4 [(.box p 0)] [.one .bool] a9 (fun (b2:Bool) z=>BIf (!b2) (K 5 [] [] .nilSlice [] false z) (Ah (Ac z [] (.t (.box p 0)) 0) (fun (x2:TV)=>Ag .str x2 (fun (s1:B8)=>Ah (Ac z [] (.t (.box p 10)) 0) (fun (x3:TV)=>Ag (.int .i64) x3 (fun (n2:Int)=>((0<=n1/\n1<=n2/\n2<=(s1.length:Int))/\Ah ((Ai z [] (.t (.box p 1)) 0 4).map TV.agg) (fun (x4:TV)=>AU [.int .u8,.int .u8,.bool,.bool] x4 (fun (n3 n4:Int) (b3 b4:Bool)=>CallT PR CF [(.str (List.drop n1.toNat (List.take n2.toNat s1))),(.agg [.int .u8 n3,.int .u8 n4,.bool b3,.bool b4])] [.one .str,.one .bool] z (fun (s2:B8) (b5:Bool) c9=>∃(C1:Int->TV->Bool->Int->B8->B8->Int->B8->B8->TV->B8->St->Prop),(BIf header (C1 1024 ((.box p 0)) header n1 ((List.drop n1.toNat (List.take n2.toNat s1))) s2 5 [] [] .nilSlice [] c9) (C1 65536 ((.box p 0)) header n1 ((List.drop n1.toNat (List.take n2.toNat s1))) s2 5 [] [] .nilSlice [] c9))/\∀a0 a o w v a6 n5 s3 s4 v1 s5 m,C1 a0 a o w v a6 n5 s3 s4 v1 s5 m->(BId (a0<(a6.length:Int)) (CallT PR Ak [a,.int .i64 w,.int .i64 10] [.one .bool] m (fun (b6:Bool) g2=>need (List.all [.int .i64 n5,.str s3,.str s4,v1,.str s5] At) (K n5 s3 s4 v1 s5 b6 g2))) (BIf o (need (isPtr a) (need (isPtr a) (Ah (Ac m [] (.t (Am a 13)) 0) (fun (v2:TV)=>Ah (Js m v2) (fun (es1:List (B8×TV))=>Ag .bool (Mb (.bool false) (Di a6 es1)) (fun (b7:Bool)=>BIf b7 (CallT PR Ak [a,.int .i64 w,.int .i64 8] [.one .bool] m (fun (b8:Bool) j0=>need (List.all [.int .i64 n5,.str s3,.str s4,v1,.str s5] At) (K n5 s3 s4 v1 s5 b8 j0))) (need (isPtr a) (need (isPtr a) (Ah (Ac m [] (.t (Am a 13)) 0) (fun (v3:TV)=>muK v3 a6 (.bool true) m (fun g8=>BZ 79 5 80 v1 1 [.int .i64 2,(.str []),.str v,.nilSlice,(.str [])] g8 (fun (v4:TV) l=>need (List.all [v4] At) (need (isPtr a) (need (isPtr a) (Ah (Ac l [] (.t (Am a 10)) 0) (fun (x7:TV)=>Ag (.int .i64) x7 (fun (n6:Int)=>need (isPtr a) (need (isPtr a) (Ah (Ac l [] (.t (Am a 0)) 0) (fun (x8:TV)=>Ag .str x8 (fun (s6:B8)=>BId (n6<(s6.length:Int)) (need (isPtr a) (need (isPtr a) (Ah (Ac l [] (.t (Am a 0)) 0) (fun (x9:TV)=>Ag .str x9 (fun (s7:B8)=>need (isPtr a) (need (isPtr a) (Ah (Ac l [] (.t (Am a 10)) 0) (fun (i5:TV)=>Ag (.int .i64) i5 (fun (n7:Int)=>((0<=n7/\n7<(s7.length:Int))/\need (isPtr a) (need (isPtr a) (need (isPtr (Am a 1)) (Ah (Ac l [] (.t (Am (Am a 1) 0)) 0) (fun (e0:TV)=>Ag (.int .u8) e0 (fun (n8:Int)=>BId (((List.getD s7 n7.toNat 0).toNat:Int)=n8) (need (isPtr a) (need (isPtr a) (Ah (Ac l [] (.t (Am a 10)) 0) (fun (h5:TV)=>Ag (.int .i64) h5 (fun (n9:Int)=>need (isPtr a) (need (isPtr a) (stB l (Am a 10) [(.int .i64 (i64.wrap (n9+(1:Int))))] (fun c4=>need (isPtr a) (need (isPtr a) (need (isPtr (Am a 1)) (Ah (Ac c4 [] (.t (Am (Am a 1) 0)) 0) (fun (g6:TV)=>Ag (.int .u8) g6 (fun (g7:Int)=>Ah ((toBytes c4 (.list 1 .full 1 [.int .u8 g7])).map TV.str) (fun (f0:TV)=>Ag .str f0 (fun (s8:B8)=>BZ 79 5 80 v4 1 [.int .i64 11,(.str []),.str s8,.nilSlice,(.str [])] c4 (fun (v5:TV) d2=>need (List.all [v5] At) (need (List.all [.int .i64 n5,.str s3,.str s4,v5,.str s5] At) (K n5 s3 s4 v5 s5 true d2)))))))))))))))))) (need (List.all [.int .i64 n5,.str s3,.str s4,v4,.str s5] At) (K n5 s3 s4 v4 s5 true l))))))))))))))))) (need (List.all [.int .i64 n5,.str s3,.str s4,v4,.str s5] At) (K n5 s3 s4 v4 s5 true l))))))))))))))))))))))) (BZ 79 5 80 v1 1 [.int .i64 2,(.str []),.str v,.nilSlice,(.str [])] m (fun (v6:TV) g=>need (List.all [v6] At) (need (isPtr a) (need (isPtr a) (Ah (Ac g [] (.t (Am a 10)) 0) (fun (f5:TV)=>Ag (.int .i64) f5 (fun (j9:Int)=>need (isPtr a) (need (isPtr a) (Ah (Ac g [] (.t (Am a 0)) 0) (fun (d8:TV)=>Ag .str d8 (fun (s9:B8)=>BId (j9<(s9.length:Int)) (need (isPtr a) (need (isPtr a) (Ah (Ac g [] (.t (Am a 0)) 0) (fun (h3:TV)=>Ag .str h3 (fun (d0:B8)=>need (isPtr a) (need (isPtr a) (Ah (Ac g [] (.t (Am a 10)) 0) (fun (h9:TV)=>Ag (.int .i64) h9 (fun (c1:Int)=>((0<=c1/\c1<(d0.length:Int))/\need (isPtr a) (need (isPtr a) (need (isPtr (Am a 1)) (Ah (Ac g [] (.t (Am (Am a 1) 0)) 0) (fun (i6:TV)=>Ag (.int .u8) i6 (fun (f7:Int)=>BId (((List.getD d0 c1.toNat 0).toNat:Int)=f7) (need (isPtr a) (need (isPtr a) (Ah (Ac g [] (.t (Am a 10)) 0) (fun (f4:TV)=>Ag (.int .i64) f4 (fun (g1:Int)=>need (isPtr a) (need (isPtr a) (stB g (Am a 10) [(.int .i64 (i64.wrap (g1+(1:Int))))] (fun a4=>need (isPtr a) (need (isPtr a) (need (isPtr (Am a 1)) (Ah (Ac a4 [] (.t (Am (Am a 1) 0)) 0) (fun (e1:TV)=>Ag (.int .u8) e1 (fun (f1:Int)=>Ah ((toBytes a4 (.list 1 .full 1 [.int .u8 f1])).map TV.str) (fun (f9:TV)=>Ag .str f9 (fun (e5:B8)=>BZ 79 5 80 v6 1 [.int .i64 11,(.str []),.str e5,.nilSlice,(.str [])] a4 (fun (v7:TV) d7=>need (List.all [v7] At) (need (List.all [.int .i64 n5,.str s3,.str s4,v7,.str s5] At) (K n5 s3 s4 v7 s5 true d7)))))))))))))))))) (need (List.all [.int .i64 n5,.str s3,.str s4,v6,.str s5] At) (K n5 s3 s4 v6 s5 true g))))))))))))))))) (need (List.all [.int .i64 n5,.str s3,.str s4,v6,.str s5] At) (K n5 s3 s4 v6 s5 true g)))))))))))))))))))))))))))))) (Ah (Ac st [] (.t (.box p 10)) 0) (fun (g0:TV)=>Ag (.int .i64) g0 (fun (u:Int)=>CallT PR B4 [(.box p 0)] [.one .bool] st (fun (b9:Bool) s=>BIf (!b9) (K 5 [] [] .nilSlice [] false s) (Ah (Ac s [] (.t (.box p 0)) 0) (fun (f3:TV)=>Ag .str f3 (fun (a7:B8)=>Ah (Ac s [] (.t (.box p 10)) 0) (fun (h6:TV)=>Ag (.int .i64) h6 (fun (a2:Int)=>((0<=u/\u<=a2/\a2<=(a7.length:Int))/\Ah ((Ai s [] (.t (.box p 1)) 0 4).map TV.agg) (fun (j7:TV)=>AU [.int .u8,.int .u8,.bool,.bool] j7 (fun (i8 e7:Int) (g5 e6:Bool)=>CallT PR CF [(.str (List.drop u.toNat (List.take a2.toNat a7))),(.agg [.int .u8 i8,.int .u8 e7,.bool g5,.bool e6])] [.one .str,.one .bool] s (fun (c6:B8) (k0:Bool) c2=>∃(C2:Int->TV->Bool->Int->B8->B8->Int->B8->B8->TV->B8->St->Prop),(BIf header (C2 1024 ((.box p 0)) header u ((List.drop u.toNat (List.take a2.toNat a7))) c6 5 [] [] .nilSlice [] c2) (C2 65536 ((.box p 0)) header u ((List.drop u.toNat (List.take a2.toNat a7))) c6 5 [] [] .nilSlice [] c2))/\∀a1 b r q n a8 f d e v8 c k,C2 a1 b r q n a8 f d e v8 c k->(BId (a1<(a8.length:Int)) (CallT PR Ak [b,.int .i64 q,.int .i64 10] [.one .bool] k (fun (d9:Bool) d5=>need (List.all [.int .i64 f,.str d,.str e,v8,.str c] At) (K f d e v8 c d9 d5))) (BIf r (need (isPtr b) (need (isPtr b) (Ah (Ac k [] (.t (Am b 13)) 0) (fun (v9:TV)=>Ah (Js k v9) (fun (es2:List (B8×TV))=>Ag .bool (Mb (.bool false) (Di a8 es2)) (fun (h0:Bool)=>BIf h0 (CallT PR Ak [b,.int .i64 q,.int .i64 8] [.one .bool] k (fun (e3:Bool) d3=>need (List.all [.int .i64 f,.str d,.str e,v8,.str c] At) (K f d e v8 c e3 d3))) (need (isPtr b) (need (isPtr b) (Ah (Ac k [] (.t (Am b 13)) 0) (fun (j4:TV)=>muK j4 a8 (.bool true) k (fun d4=>BZ 79 5 80 v8 1 [.int .i64 2,(.str []),.str n,.nilSlice,(.str [])] d4 (fun (y:TV) j=>need (List.all [y] At) (need (isPtr b) (need (isPtr b) (Ah (Ac j [] (.t (Am b 10)) 0) (fun (h2:TV)=>Ag (.int .i64) h2 (fun (i1:Int)=>need (isPtr b) (need (isPtr b) (Ah (Ac j [] (.t (Am b 0)) 0) (fun (i2:TV)=>Ag .str i2 (fun (h1:B8)=>BId (i1<(h1.length:Int)) (need (isPtr b) (need (isPtr b) (Ah (Ac j [] (.t (Am b 0)) 0) (fun (j8:TV)=>Ag .str j8 (fun (c8:B8)=>need (isPtr b) (need (isPtr b) (Ah (Ac j [] (.t (Am b 10)) 0) (fun (h4:TV)=>Ag (.int .i64) h4 (fun (c0:Int)=>((0<=c0/\c0<(c8.length:Int))/\need (isPtr b) (need (isPtr b) (need (isPtr (Am b 1)) (Ah (Ac j [] (.t (Am (Am b 1) 0)) 0) (fun (h7:TV)=>Ag (.int .u8) h7 (fun (e4:Int)=>BId (((List.getD c8 c0.toNat 0).toNat:Int)=e4) (need (isPtr b) (need (isPtr b) (Ah (Ac j [] (.t (Am b 10)) 0) (fun (i0:TV)=>Ag (.int .i64) i0 (fun (i7:Int)=>need (isPtr b) (need (isPtr b) (stB j (Am b 10) [(.int .i64 (i64.wrap (i7+(1:Int))))] (fun a5=>need (isPtr b) (need (isPtr b) (need (isPtr (Am b 1)) (Ah (Ac a5 [] (.t (Am (Am b 1) 0)) 0) (fun (j6:TV)=>Ag (.int .u8) j6 (fun (i3:Int)=>Ah ((toBytes a5 (.list 1 .full 1 [.int .u8 i3])).map TV.str) (fun (g4:TV)=>Ag .str g4 (fun (g9:B8)=>BZ 79 5 80 y 1 [.int .i64 11,(.str []),.str g9,.nilSlice,(.str [])] a5 (fun (b0:TV) d6=>need (List.all [b0] At) (need (List.all [.int .i64 f,.str d,.str e,b0,.str c] At) (K f d e b0 c true d6)))))))))))))))))) (need (List.all [.int .i64 f,.str d,.str e,y,.str c] At) (K f d e y c true j))))))))))))))))) (need (List.all [.int .i64 f,.str d,.str e,y,.str c] At) (K f d e y c true j))))))))))))))))))))))) (BZ 79 5 80 v8 1 [.int .i64 2,(.str []),.str n,.nilSlice,(.str [])] k (fun (x:TV) i=>need (List.all [x] At) (need (isPtr b) (need (isPtr b) (Ah (Ac i [] (.t (Am b 10)) 0) (fun (f6:TV)=>Ag (.int .i64) f6 (fun (f8:Int)=>need (isPtr b) (need (isPtr b) (Ah (Ac i [] (.t (Am b 0)) 0) (fun (e8:TV)=>Ag .str e8 (fun (g3:B8)=>BId (f8<(g3.length:Int)) (need (isPtr b) (need (isPtr b) (Ah (Ac i [] (.t (Am b 0)) 0) (fun (j3:TV)=>Ag .str j3 (fun (c7:B8)=>need (isPtr b) (need (isPtr b) (Ah (Ac i [] (.t (Am b 10)) 0) (fun (j1:TV)=>Ag (.int .i64) j1 (fun (c3:Int)=>((0<=c3/\c3<(c7.length:Int))/\need (isPtr b) (need (isPtr b) (need (isPtr (Am b 1)) (Ah (Ac i [] (.t (Am (Am b 1) 0)) 0) (fun (h8:TV)=>Ag (.int .u8) h8 (fun (j5:Int)=>BId (((List.getD c7 c3.toNat 0).toNat:Int)=j5) (need (isPtr b) (need (isPtr b) (Ah (Ac i [] (.t (Am b 10)) 0) (fun (e9:TV)=>Ag (.int .i64) e9 (fun (i4:Int)=>need (isPtr b) (need (isPtr b) (stB i (Am b 10) [(.int .i64 (i64.wrap (i4+(1:Int))))] (fun a3=>need (isPtr b) (need (isPtr b) (need (isPtr (Am b 1)) (Ah (Ac a3 [] (.t (Am (Am b 1) 0)) 0) (fun (f2:TV)=>Ag (.int .u8) f2 (fun (e2:Int)=>Ah ((toBytes a3 (.list 1 .full 1 [.int .u8 e2])).map TV.str) (fun (j2:TV)=>Ag .str j2 (fun (i9:B8)=>BZ 79 5 80 x 1 [.int .i64 11,(.str []),.str i9,.nilSlice,(.str [])] a3 (fun (c5:TV) d1=>need (List.all [c5] At) (need (List.all [.int .i64 f,.str d,.str e,c5,.str c] At) (K f d e c5 c true d1)))))))))))))))))) (need (List.all [.int .i64 f,.str d,.str e,x,.str c] At) (K f d e x c true i))))))))))))))))) (need (List.all [.int .i64 f,.str d,.str e,x,.str c] At) (K f d e x c true i))))))))))))))))))))))))))))):CallT PR AL [(.box p 0),.bool header] [.agg [.int .i64,.str,.str,.tv,.str],.one .bool] st K:=
 Ae (cfg:=⟨[4,6],[],[]⟩) (h:=(.seq .none (.seq .none (.seq .none (.seq .none (.seq .none (.seq .none (.seq .none (.seq .none (.cut ⟨[(11,.int .i64),(0,.tv),(1,.bool),(7,.int .i64),(8,.str),(9,.str)],[(4,0,0),(6,1,0)],[(0,5),(1,5)],[(1,0,.int .i64),(1,1,.str),(1,2,.str),(1,3,.tv),(1,4,.str)]⟩ .none .none)))))))))) mixed (fun _ _=>Tryz.call193 _ _) Tryz.func193 (by kernel_rfl) (by kernel_rfl) h
theorem G7 (p:Nat) (r:Nat) (st:St) (K:Bool->St->Prop) (h:Ah (Ac st [] (.t (.box p 10)) 0) (fun (x1:TV)=>Ag (.int .i64) x1 (fun (n1:Int)=>Ah (Ac st [] (.t (.box p 10)) 0) (fun (x2:TV)=>Ag (.int .i64) x2 (fun (n2:Int)=>Ah (Ac st [] (.t (.box p 0)) 0) (fun (x3:TV)=>Ag .str x3 (fun (s1:B8)=>BId (n2=(s1.length:Int)) (K true st) (Ah (Ac st [] (.t (.box p 0)) 0) (fun (x4:TV)=>Ag .str x4 (fun (s2:B8)=>Ah (Ac st [] (.t (.box p 10)) 0) (fun (x5:TV)=>Ag (.int .i64) x5 (fun (n3:Int)=>((0<=n3/\n3<(s2.length:Int))/\BId (((List.getD s2 n3.toNat 0).toNat:Int)=(13:Int)) (Ah (Ac st [] (.t (.box p 10)) 0) (fun (x6:TV)=>Ag (.int .i64) x6 (fun (n4:Int)=>stB st (.box p 10) [(.int .i64 (i64.wrap (n4+(1:Int))))] (fun a=>Ah (Ac a [] (.t (.box p 10)) 0) (fun (x7:TV)=>Ag (.int .i64) x7 (fun (n5:Int)=>Ah (Ac a [] (.t (.box p 0)) 0) (fun (x8:TV)=>Ag .str x8 (fun (s3:B8)=>BId (n5=(s3.length:Int)) (Ah (Ac a [] (.t (.box p 10)) 0) (fun (x9:TV)=>Ag (.int .i64) x9 (fun (n6:Int)=>CallT PR Ak [(.box p 0),.int .i64 n6,.int .i64 4] [.one .bool] a (fun (b1:Bool) i=>K b1 i)))) (Ah (Ac a [] (.t (.box p 0)) 0) (fun (l:TV)=>Ag .str l (fun (s4:B8)=>Ah (Ac a [] (.t (.box p 10)) 0) (fun (n:TV)=>Ag (.int .i64) n (fun (n7:Int)=>((0<=n7/\n7<(s4.length:Int))/\BId (((List.getD s4 n7.toNat 0).toNat:Int)≠(10:Int)) (CallT PR Ak [(.box p 0),.int .i64 n1,.int .i64 3] [.one .bool] a (fun (b2:Bool) u=>K b2 u)) (Ah (Ac a [] (.t (.box p 10)) 0) (fun (f:TV)=>Ag (.int .i64) f (fun (n8:Int)=>stB a (.box p 10) [(.int .i64 (i64.wrap (n8+(1:Int))))] (fun b=>Ah (Ac b [] (.t (.box p 0)) 0) (fun (o:TV)=>Ag .str o (fun (s5:B8)=>Ah (Ac b [] (.t (.box p 10)) 0) (fun (j:TV)=>Ag (.int .i64) j (fun (n9:Int)=>((0<=n1/\n1<=n9/\n9<=(s5.length:Int))/\stB b (.box r 4) [(.str (List.drop n1.toNat (List.take n9.toNat s5)))] (fun k=>K true k)))))))))))))))))))))))) (BId (((List.getD s2 n3.toNat 0).toNat:Int)=(10:Int)) (Ah (Ac st [] (.t (.box p 10)) 0) (fun (e:TV)=>Ag (.int .i64) e (fun (q:Int)=>stB st (.box p 10) [(.int .i64 (i64.wrap (q+(1:Int))))] (fun d=>Ah (Ac d [] (.t (.box p 0)) 0) (fun (g:TV)=>Ag .str g (fun (s6:B8)=>Ah (Ac d [] (.t (.box p 10)) 0) (fun (v:TV)=>Ag (.int .i64) v (fun (c:Int)=>((0<=n1/\n1<=c/\c<=(s6.length:Int))/\stB d (.box r 4) [(.str (List.drop n1.toNat (List.take c.toNat s6)))] (fun s=>K true s)))))))))) (CallT PR Ak [(.box p 0),.int .i64 n1,.int .i64 3] [.one .bool] st (fun (b3:Bool) m=>K b3 m)))))))))))))))):CallT PR AG [(.box p 0),(.box r 0)] [.one .bool] st K:=
 Ae (cfg:=⟨[],[],[]⟩) (h:= .none) mixed (fun _ _=>Tryz.call194 _ _) Tryz.func194 (by kernel_rfl) (by kernel_rfl) h
theorem Qj (kind:Int) (st:St) (K:Bool->St->Prop) (h:BId (kind=2) (BId (kind=2) (K true st) (K false st)) (BId (kind=6) (BId (kind=6) (K true st) (K false st)) (BId (kind=10) (BId (kind=10) (K true st) (K false st)) (BId (kind=11) (K true st) (K false st))))):CallT PR HX [.int .i64 kind] [.one .bool] st K:=
 Ae (cfg:=⟨[],[],[]⟩) (h:= .none) mixed (fun _ _=>Tryz.call195 _ _) Tryz.func195 (by kernel_rfl) (by kernel_rfl) h
theorem M8 (b:Int) (st:St) (K:Bool->St->Prop) (h:BId ((97:Int)<=b) (BId (b<=122) (K true st) (BId ((65:Int)<=b) (K ((decide (b<=90))) st) (K false st))) (BId ((65:Int)<=b) (K ((decide (b<=90))) st) (K false st))):CallT PR Fh [.int .u8 b] [.one .bool] st K:=
 Ae (cfg:=⟨[],[],[]⟩) (h:= .none) mixed (fun _ _=>Tryz.call203 _ _) Tryz.func203 (by kernel_rfl) (by kernel_rfl) h
theorem Qk (a_0:Int) (a_1:B8) (a_2:B8) (a_3:TV) (a_4:B8) (b_0:Int) (b_1:B8) (b_2:B8) (b_3:TV) (b_4:B8) (st:St) (K:Bool->St->Prop) (h:BId (a_0≠b_0) (K false st) (BId (a_1≠b_1) (K false st) (BId (a_2≠b_2) (K false st) (BId (a_4≠b_4) (K false st) (need (isSl a_3) (need (isSl b_3) (BId ((lenS a_3:Int)≠(lenS b_3:Int)) (K false st) (need (isSl a_3) (∃(I1:Int->Int->Int->B8->B8->TV->B8->Int->B8->B8->TV->B8->St->Prop) (M1:Int->Int->Int->B8->B8->TV->B8->Int->B8->B8->TV->B8->St->Nat),(I1 0 ((lenS a_3:Int)) a_0 a_1 a_2 a_3 a_4 b_0 b_1 b_2 b_3 b_4 st)/\∀a b n1 s1 s2 v1 s3 n2 s4 s5 v2 s6 c,I1 a b n1 s1 s2 v1 s3 n2 s4 s5 v2 s6 c->(BId (a<b) (((0<=a/\a<(lenZ 5 v1:Int))/\Ah ((Ai GD [] (.t (ixT 5 v1 a.toNat)) 0 5).map TV.agg) (fun (x1:TV)=>AU [.int .i64,.str,.str,.tv,.str] x1 (fun (n3:Int) (s7 s8:B8) (v3:TV) (s9:B8)=>((0<=a/\a<(lenZ 5 v2:Int))/\Ah ((Ai GD [] (.t (ixT 5 v2 a.toNat)) 0 5).map TV.agg) (fun (x2:TV)=>AU [.int .i64,.str,.str,.tv,.str] x2 (fun (n4:Int) (g e:B8) (v4:TV) (f:B8)=>CallT PR FD [(.agg [.int .i64 n3,.str s7,.str s8,v3,.str s9]),(.agg [.int .i64 n4,.str g,.str e,v4,.str f])] [.one .bool] c (fun (b1:Bool) d=>BIf (!b1) (K false d) ((I1 ((i64.wrap (a+(1:Int)))) b n1 s1 s2 v1 s3 n2 s4 s5 v2 s6 d/\M1 ((i64.wrap (a+(1:Int)))) b n1 s1 s2 v1 s3 n2 s4 s5 v2 s6 d<M1 a b n1 s1 s2 v1 s3 n2 s4 s5 v2 s6 c)))))))))) (K true c))))))))))):CallT PR FD [(.agg [.int .i64 a_0,.str a_1,.str a_2,a_3,.str a_4]),(.agg [.int .i64 b_0,.str b_1,.str b_2,b_3,.str b_4])] [.one .bool] st K:=
 Ae (cfg:=⟨[2,3],[],[]⟩) (h:=(.seq .none (.seq .none (.seq (.seq .none (.block (.loop ⟨[(44,.int .i64),(43,.int .i64)],[(2,0,0),(3,1,0)],[(0,5),(1,5)],[(0,0,.int .i64),(0,1,.str),(0,2,.str),(0,3,.tv),(0,4,.str),(1,0,.int .i64),(1,1,.str),(1,2,.str),(1,3,.tv),(1,4,.str)]⟩ .none))) .none)))) mixed (fun _ _=>Tryz.call252 _ _) Tryz.func252 (by kernel_rfl) (by kernel_rfl) h
theorem IT (p:Nat) (st:St) (K:Bool->St->Prop) (h:Ah (Ac st [] (.t (.box p 10)) 0) (fun (x1:TV)=>Ag (.int .i64) x1 (fun (n1:Int)=>Ah (Ac st [] (.t (.box p 0)) 0) (fun (x2:TV)=>Ag .str x2 (fun (s1:B8)=>BId (n1<(s1.length:Int)) (Ah (Ac st [] (.t (.box p 0)) 0) (fun (x3:TV)=>Ag .str x3 (fun (s2:B8)=>Ah (Ac st [] (.t (.box p 10)) 0) (fun (x4:TV)=>Ag (.int .i64) x4 (fun (n2:Int)=>((0<=n2/\n2<(s2.length:Int))/\Ah (Ac st [] (.t (.box p 2)) 0) (fun (x5:TV)=>Ag (.int .u8) x5 (fun (n3:Int)=>BId (((List.getD s2 n2.toNat 0).toNat:Int)=n3) (CallT PR Co [(.box p 0)] [.one .bool] st (fun (b1:Bool) b9=>K b1 b9)) (∃(I1:TV->St->Prop) (M1:TV->St->Nat),(I1 ((.box p 0)) st)/\∀a c,I1 a c->(need (isPtr a) (need (isPtr a) (Ah (Ac c [] (.t (Am a 10)) 0) (fun (x6:TV)=>Ag (.int .i64) x6 (fun (n4:Int)=>need (isPtr a) (need (isPtr a) (Ah (Ac c [] (.t (Am a 0)) 0) (fun (x7:TV)=>Ag .str x7 (fun (s3:B8)=>BId (n4<(s3.length:Int)) (need (isPtr a) (need (isPtr a) (Ah (Ac c [] (.t (Am a 0)) 0) (fun (x8:TV)=>Ag .str x8 (fun (s4:B8)=>need (isPtr a) (need (isPtr a) (Ah (Ac c [] (.t (Am a 10)) 0) (fun (x9:TV)=>Ag (.int .i64) x9 (fun (n5:Int)=>((0<=n5/\n5<(s4.length:Int))/\need (isPtr a) (need (isPtr a) (need (isPtr (Am a 1)) (Ah (Ac c [] (.t (Am (Am a 1) 0)) 0) (fun (a4:TV)=>Ag (.int .u8) a4 (fun (n6:Int)=>BId (((List.getD s4 n5.toNat 0).toNat:Int)=n6) (BId (((List.getD s4 n5.toNat 0).toNat:Int)=n6) (K true c) (need (isPtr a) (need (isPtr a) (need (isPtr (Am a 1)) (Ah (Ac c [] (.t (Am (Am a 1) 1)) 0) (fun (w:TV)=>Ag (.int .u8) w (fun (n7:Int)=>BId (((List.getD s4 n5.toNat 0).toNat:Int)=n7) (need (isPtr a) (need (isPtr a) (Ah (Ac c [] (.t (Am a 10)) 0) (fun (c3:TV)=>Ag (.int .i64) c3 (fun (n8:Int)=>CallT PR Ak [a,.int .i64 n8,.int .i64 3] [.one .bool] c (fun (b2:Bool) e1=>K b2 e1)))))) (need (isPtr a) (need (isPtr a) (Ah (Ac c [] (.t (Am a 10)) 0) (fun (x:TV)=>Ag (.int .i64) x (fun (n9:Int)=>need (isPtr a) (need (isPtr a) (stB c (Am a 10) [(.int .i64 (i64.wrap (n9+(1:Int))))] (fun j=>(I1 a j/\M1 a j<M1 a c)))))))))))))))) (BId (((List.getD s4 n5.toNat 0).toNat:Int)=(10:Int)) (BId (((List.getD s4 n5.toNat 0).toNat:Int)=(10:Int)) (K true c) (need (isPtr a) (need (isPtr a) (need (isPtr (Am a 1)) (Ah (Ac c [] (.t (Am (Am a 1) 1)) 0) (fun (d3:TV)=>Ag (.int .u8) d3 (fun (y:Int)=>BId (((List.getD s4 n5.toNat 0).toNat:Int)=y) (need (isPtr a) (need (isPtr a) (Ah (Ac c [] (.t (Am a 10)) 0) (fun (a2:TV)=>Ag (.int .i64) a2 (fun (d8:Int)=>CallT PR Ak [a,.int .i64 d8,.int .i64 3] [.one .bool] c (fun (b3:Bool) c7=>K b3 c7)))))) (need (isPtr a) (need (isPtr a) (Ah (Ac c [] (.t (Am a 10)) 0) (fun (r:TV)=>Ag (.int .i64) r (fun (d5:Int)=>need (isPtr a) (need (isPtr a) (stB c (Am a 10) [(.int .i64 (i64.wrap (d5+(1:Int))))] (fun l=>(I1 a l/\M1 a l<M1 a c)))))))))))))))) (BId (((List.getD s4 n5.toNat 0).toNat:Int)=(13:Int)) (K true c) (need (isPtr a) (need (isPtr a) (need (isPtr (Am a 1)) (Ah (Ac c [] (.t (Am (Am a 1) 1)) 0) (fun (c0:TV)=>Ag (.int .u8) c0 (fun (a5:Int)=>BId (((List.getD s4 n5.toNat 0).toNat:Int)=a5) (need (isPtr a) (need (isPtr a) (Ah (Ac c [] (.t (Am a 10)) 0) (fun (d7:TV)=>Ag (.int .i64) d7 (fun (c5:Int)=>CallT PR Ak [a,.int .i64 c5,.int .i64 3] [.one .bool] c (fun (b4:Bool) z=>K b4 z)))))) (need (isPtr a) (need (isPtr a) (Ah (Ac c [] (.t (Am a 10)) 0) (fun (a8:TV)=>Ag (.int .i64) a8 (fun (d4:Int)=>need (isPtr a) (need (isPtr a) (stB c (Am a 10) [(.int .i64 (i64.wrap (d4+(1:Int))))] (fun m=>(I1 a m/\M1 a m<M1 a c)))))))))))))))))))))))))))))))) (K true c))))))))))))))))))) (∃(I2:TV->St->Prop) (M2:TV->St->Nat),(I2 ((.box p 0)) st)/\∀b d,I2 b d->(need (isPtr b) (need (isPtr b) (Ah (Ac d [] (.t (Am b 10)) 0) (fun (e2:TV)=>Ag (.int .i64) e2 (fun (s:Int)=>need (isPtr b) (need (isPtr b) (Ah (Ac d [] (.t (Am b 0)) 0) (fun (a3:TV)=>Ag .str a3 (fun (s5:B8)=>BId (s<(s5.length:Int)) (need (isPtr b) (need (isPtr b) (Ah (Ac d [] (.t (Am b 0)) 0) (fun (c2:TV)=>Ag .str c2 (fun (s6:B8)=>need (isPtr b) (need (isPtr b) (Ah (Ac d [] (.t (Am b 10)) 0) (fun (c4:TV)=>Ag (.int .i64) c4 (fun (e:Int)=>((0<=e/\e<(s6.length:Int))/\need (isPtr b) (need (isPtr b) (need (isPtr (Am b 1)) (Ah (Ac d [] (.t (Am (Am b 1) 0)) 0) (fun (d9:TV)=>Ag (.int .u8) d9 (fun (k:Int)=>BId (((List.getD s6 e.toNat 0).toNat:Int)=k) (BId (((List.getD s6 e.toNat 0).toNat:Int)=k) (K true d) (need (isPtr b) (need (isPtr b) (need (isPtr (Am b 1)) (Ah (Ac d [] (.t (Am (Am b 1) 1)) 0) (fun (d0:TV)=>Ag (.int .u8) d0 (fun (c6:Int)=>BId (((List.getD s6 e.toNat 0).toNat:Int)=c6) (need (isPtr b) (need (isPtr b) (Ah (Ac d [] (.t (Am b 10)) 0) (fun (d2:TV)=>Ag (.int .i64) d2 (fun (c9:Int)=>CallT PR Ak [b,.int .i64 c9,.int .i64 3] [.one .bool] d (fun (b5:Bool) n=>K b5 n)))))) (need (isPtr b) (need (isPtr b) (Ah (Ac d [] (.t (Am b 10)) 0) (fun (a7:TV)=>Ag (.int .i64) a7 (fun (u:Int)=>need (isPtr b) (need (isPtr b) (stB d (Am b 10) [(.int .i64 (i64.wrap (u+(1:Int))))] (fun f=>(I2 b f/\M2 b f<M2 b d)))))))))))))))) (BId (((List.getD s6 e.toNat 0).toNat:Int)=(10:Int)) (BId (((List.getD s6 e.toNat 0).toNat:Int)=(10:Int)) (K true d) (need (isPtr b) (need (isPtr b) (need (isPtr (Am b 1)) (Ah (Ac d [] (.t (Am (Am b 1) 1)) 0) (fun (a1:TV)=>Ag (.int .u8) a1 (fun (c8:Int)=>BId (((List.getD s6 e.toNat 0).toNat:Int)=c8) (need (isPtr b) (need (isPtr b) (Ah (Ac d [] (.t (Am b 10)) 0) (fun (a9:TV)=>Ag (.int .i64) a9 (fun (a6:Int)=>CallT PR Ak [b,.int .i64 a6,.int .i64 3] [.one .bool] d (fun (b6:Bool) o=>K b6 o)))))) (need (isPtr b) (need (isPtr b) (Ah (Ac d [] (.t (Am b 10)) 0) (fun (v:TV)=>Ag (.int .i64) v (fun (b0:Int)=>need (isPtr b) (need (isPtr b) (stB d (Am b 10) [(.int .i64 (i64.wrap (b0+(1:Int))))] (fun i=>(I2 b i/\M2 b i<M2 b d)))))))))))))))) (BId (((List.getD s6 e.toNat 0).toNat:Int)=(13:Int)) (K true d) (need (isPtr b) (need (isPtr b) (need (isPtr (Am b 1)) (Ah (Ac d [] (.t (Am (Am b 1) 1)) 0) (fun (d6:TV)=>Ag (.int .u8) d6 (fun (a0:Int)=>BId (((List.getD s6 e.toNat 0).toNat:Int)=a0) (need (isPtr b) (need (isPtr b) (Ah (Ac d [] (.t (Am b 10)) 0) (fun (c1:TV)=>Ag (.int .i64) c1 (fun (b8:Int)=>CallT PR Ak [b,.int .i64 b8,.int .i64 3] [.one .bool] d (fun (b7:Bool) q=>K b7 q)))))) (need (isPtr b) (need (isPtr b) (Ah (Ac d [] (.t (Am b 10)) 0) (fun (d1:TV)=>Ag (.int .i64) d1 (fun (e0:Int)=>need (isPtr b) (need (isPtr b) (stB d (Am b 10) [(.int .i64 (i64.wrap (e0+(1:Int))))] (fun g=>(I2 b g/\M2 b g<M2 b d)))))))))))))))))))))))))))))))) (K true d)))))))))))))))):CallT PR B4 [(.box p 0)] [.one .bool] st K:=
 Ae (cfg:=⟨[],[],[]⟩) (h:=(.seq .none (.seq .none (.seq (.block (.loop ⟨[(0,.tv)],[],[],[]⟩ .none)) .none)))) mixed (fun _ _=>Tryz.call265 _ _) Tryz.func265 (by kernel_rfl) (by kernel_rfl) h
theorem Hv (p:Nat) (st:St) (K:Bool->St->Prop) (h:Ah (Ac st [] (.t (.box p 10)) 0) (fun (x1:TV)=>Ag (.int .i64) x1 (fun (n1:Int)=>stB st (.box p 10) [(.int .i64 (i64.wrap (n1+(1:Int))))] (fun n=>∃(I1:TV->St->Prop) (M1:TV->St->Nat),(I1 ((.box p 0)) n)/\∀a b,I1 a b->(need (isPtr a) (need (isPtr a) (Ah (Ac b [] (.t (Am a 10)) 0) (fun (x2:TV)=>Ag (.int .i64) x2 (fun (n2:Int)=>need (isPtr a) (need (isPtr a) (Ah (Ac b [] (.t (Am a 0)) 0) (fun (x3:TV)=>Ag .str x3 (fun (s1:B8)=>BId (n2<(s1.length:Int)) (need (isPtr a) (need (isPtr a) (Ah (Ac b [] (.t (Am a 0)) 0) (fun (x4:TV)=>Ag .str x4 (fun (s2:B8)=>need (isPtr a) (need (isPtr a) (Ah (Ac b [] (.t (Am a 10)) 0) (fun (x5:TV)=>Ag (.int .i64) x5 (fun (n3:Int)=>((0<=n3/\n3<(s2.length:Int))/\need (isPtr a) (need (isPtr a) (need (isPtr (Am a 1)) (Ah (Ac b [] (.t (Am (Am a 1) 1)) 0) (fun (x6:TV)=>Ag (.int .u8) x6 (fun (n4:Int)=>BId (((List.getD s2 n3.toNat 0).toNat:Int)≠n4) (need (isPtr a) (need (isPtr a) (Ah (Ac b [] (.t (Am a 10)) 0) (fun (x7:TV)=>Ag (.int .i64) x7 (fun (n5:Int)=>need (isPtr a) (need (isPtr a) (stB b (Am a 10) [(.int .i64 (i64.wrap (n5+(1:Int))))] (fun e=>(I1 a e/\M1 a e<M1 a b))))))))) (need (isPtr a) (need (isPtr a) (Ah (Ac b [] (.t (Am a 10)) 0) (fun (x8:TV)=>Ag (.int .i64) x8 (fun (n6:Int)=>need (isPtr a) (need (isPtr a) (stB b (Am a 10) [(.int .i64 (i64.wrap (n6+(1:Int))))] (fun c=>need (isPtr a) (need (isPtr a) (Ah (Ac c [] (.t (Am a 10)) 0) (fun (x9:TV)=>Ag (.int .i64) x9 (fun (n7:Int)=>need (isPtr a) (need (isPtr a) (Ah (Ac c [] (.t (Am a 0)) 0) (fun (j:TV)=>Ag .str j (fun (s3:B8)=>BId (n7=(s3.length:Int)) (K true c) (need (isPtr a) (need (isPtr a) (Ah (Ac c [] (.t (Am a 0)) 0) (fun (k:TV)=>Ag .str k (fun (s4:B8)=>need (isPtr a) (need (isPtr a) (Ah (Ac c [] (.t (Am a 10)) 0) (fun (g:TV)=>Ag (.int .i64) g (fun (n8:Int)=>((0<=n8/\n8<(s4.length:Int))/\need (isPtr a) (need (isPtr a) (need (isPtr (Am a 1)) (Ah (Ac c [] (.t (Am (Am a 1) 1)) 0) (fun (l:TV)=>Ag (.int .u8) l (fun (n9:Int)=>BId (((List.getD s4 n8.toNat 0).toNat:Int)≠n9) (K true c) (need (isPtr a) (need (isPtr a) (Ah (Ac c [] (.t (Am a 10)) 0) (fun (i:TV)=>Ag (.int .i64) i (fun (m:Int)=>need (isPtr a) (need (isPtr a) (stB c (Am a 10) [(.int .i64 (i64.wrap (m+(1:Int))))] (fun d=>(I1 a d/\M1 a d<M1 a b))))))))))))))))))))))))))))))))))))))))))))))))))))))) (need (isPtr a) (need (isPtr a) (Ah (Ac b [] (.t (Am a 0)) 0) (fun (f:TV)=>Ag .str f (fun (s5:B8)=>CallT PR Ak [a,(.int .i64 (s5.length:Int)),.int .i64 4] [.one .bool] b (fun (b1:Bool) o=>K b1 o))))))))))))))))))):CallT PR Co [(.box p 0)] [.one .bool] st K:=
 Ae (cfg:=⟨[],[],[]⟩) (h:=(.seq .none (.seq (.seq .none (.block (.loop ⟨[(0,.tv)],[],[],[]⟩ .none))) .none))) mixed (fun _ _=>Tryz.call299 _ _) Tryz.func299 (by kernel_rfl) (by kernel_rfl) h
theorem Gk (s:B8) (v_0:Int) (v_1:Bool) (v_2:Bool) (v_3:B8) (v_4:Int) (v_5:Int) (v_6:Int) (v_7:Int) (v_8:Int) (v_9:B8) (v_10:TV) (v_11:TV) (v_12:TV) (d_0:Int) (d_1:Int) (d_2:Bool) (d_3:Bool) (st:St) (K:Bool->St->Prop) (h:BId ((1500:Int)<(s.length:Int)) (CallT PR Bk [] [.one .bool] st (fun (b1:Bool) x=>K b1 x)) (CallT PR CK [(.agg (cV v_0 v_1 v_2 v_3 v_4 v_5 v_6 v_7 v_8 v_9 v_10 v_11 v_12))] [.one .bool] st (fun (b2:Bool) b=>BIf (!b2) (CallT PR Bk [] [.one .bool] b (fun (b3:Bool) c0=>K b3 c0)) (CallT PR FE [(.agg (cV v_0 v_1 v_2 v_3 v_4 v_5 v_6 v_7 v_8 v_9 v_10 v_11 v_12)),(.agg [.int .u8 d_0,.int .u8 d_1,.bool d_2,.bool d_3])] [.one .str,.one (.int .i64)] b (fun (s1:B8) (n1:Int) j=>CallT PR Df [(.agg (cV v_0 v_1 v_2 v_3 v_4 v_5 v_6 v_7 v_8 v_9 v_10 v_11 v_12)),(.agg [.int .u8 d_0,.int .u8 d_1,.bool d_2,.bool d_3])] [.one .str,.one (.int .i64)] j (fun (s2:B8) (n2:Int) a3=>CallT PR BD [.str s,.bool false,(.agg [.int .u8 d_0,.int .u8 d_1,.bool d_2,.bool d_3])] [sV] a3 (fun (n3:Int) (b4 b5:Bool) (s3:B8) (n4 n5 n6 n7 n8:Int) (s4:B8) (v1 v2 v3:TV) y=>CallT PR AZ [.str s,.bool false,(.agg [.int .u8 d_0,.int .u8 d_1,.bool d_2,.bool d_3])] [sV] y (fun (n9:Int) (b6 b7:Bool) (s5:B8) (m b0 a7 r a1:Int) (s6:B8) (v4 v5 v6:TV) o=>CallT PR A0 [(.agg (cV n3 b4 b5 s3 n4 n5 n6 n7 n8 s4 v1 v2 v3)),(.agg (cV n9 b6 b7 s5 m b0 a7 r a1 s6 v4 v5 v6))] [.one .bool] o (fun (b8:Bool) c=>BIf b8 (CallT PR BD [.str s,.bool true,(.agg [.int .u8 d_0,.int .u8 d_1,.bool d_2,.bool d_3])] [sV] c (fun (a8:Int) (b9 l:Bool) (s7:B8) (f a6 w a2 a4:Int) (s8:B8) (v7 v8 v9:TV) n=>CallT PR AZ [.str s,.bool true,(.agg [.int .u8 d_0,.int .u8 d_1,.bool d_2,.bool d_3])] [sV] n (fun (g:Int) (z c1:Bool) (s9:B8) (a5 t u p v:Int) (c2:B8) (a0 a9 i:TV) d=>CallT PR A0 [(.agg (cV a8 b9 l s7 f a6 w a2 a4 s8 v7 v8 v9)),(.agg (cV g z c1 s9 a5 t u p v c2 a0 a9 i))] [.one .bool] d (fun (k:Bool) a=>BIf k (BId (s1=s2) (BId (n1=n2) (CallT PR Bk [] [.one .bool] a (fun (q:Bool) e=>K q e)) (K false a)) (K false a)) (K false a))))) (K false c)))))))))):CallT PR fn_datakitlaw28_GridCells [.str s,(.agg (cV v_0 v_1 v_2 v_3 v_4 v_5 v_6 v_7 v_8 v_9 v_10 v_11 v_12)),(.agg [.int .u8 d_0,.int .u8 d_1,.bool d_2,.bool d_3])] [.one .bool] st K:=
 Ae (cfg:=⟨[4,5],[],[]⟩) (h:= .none) mixed (fun _ _=>Tryz.call6 _ _) Tryz.func6 (by kernel_rfl) (by kernel_rfl) h
theorem Im (v_0:Int) (v_1:Bool) (v_2:Bool) (v_3:B8) (v_4:Int) (v_5:Int) (v_6:Int) (v_7:Int) (v_8:Int) (v_9:B8) (v_10:TV) (v_11:TV) (v_12:TV) (st:St) (K:Bool->St->Prop) (h:CallT PR A8 [(.agg (cV v_0 v_1 v_2 v_3 v_4 v_5 v_6 v_7 v_8 v_9 v_10 v_11 v_12)),.int .i64 60,.int .i64 150,.int .i64 3000] [.one (.int .i64)] st (fun (n1:Int) a=>BId ((0:Int)<=n1) (CallT PR Bd [(.agg (cV v_0 v_1 v_2 v_3 v_4 v_5 v_6 v_7 v_8 v_9 v_10 v_11 v_12))] [.one (.int .i64)] a (fun (n2:Int) b=>K ((decide (n2<=20000))) b)) (K false a))):CallT PR CK [(.agg (cV v_0 v_1 v_2 v_3 v_4 v_5 v_6 v_7 v_8 v_9 v_10 v_11 v_12))] [.one .bool] st K:=
 Ae (cfg:=⟨[1],[],[]⟩) (h:= .none) mixed (fun _ _=>Tryz.call32 _ _) Tryz.func32 (by kernel_rfl) (by kernel_rfl) h
theorem IE (st:St) (K:Bool->St->Prop) (h:CallT PR BR [] [.agg [.int .u8,.int .u8,.bool,.bool]] st (fun (n1 n2:Int) (b1 b2:Bool) o=>CallT PR CJ [] [.agg [.int .i64,.int .i64,.int .i64,.int .i64,.int .i64]] o (fun (n3 n4 n5 n6 n7:Int) c=>CallT PR HZ [.str Vr,(.agg [.int .u8 n1,.int .u8 n2,.bool b1,.bool b2]),(.agg [.int .i64 n3,.int .i64 n4,.int .i64 n5,.int .i64 n6,.int .i64 n7])] [sV,.one (.int .i64),.one (.int .i64)] c (fun (n8:Int) (b3 b4:Bool) (s1:B8) (n9 l k f g:Int) (s2:B8) (v1 v2 v3:TV) (q i:Int) n=>need (List.all (cV n8 b3 b4 s1 n9 l k f g s2 v1 v2 v3) At) (CallT PR BR [] [.agg [.int .u8,.int .u8,.bool,.bool]] n (fun (b p:Int) (b5 b6:Bool) e=>CallT PR FE [(.agg (cV 4 false false [] 0 0 0 0 0 str10 .nilSlice .nilSlice .nilSlice)),(.agg [.int .u8 b,.int .u8 p,.bool b5,.bool b6])] [.one .str,.one (.int .i64)] e (fun (s3:B8) (m:Int) a=>BId (i=0) (need (isSl v2) (BId ((lenS v2:Int)=(2:Int)) (((0<=(1:Int)/\(1:Int)<(lenZ 13 v2:Int))/\need (isPtr (ixT 13 v2 (Int.toNat (1:Int)))) (Ah (Ac a [] (.t (Am (ixT 13 v2 (Int.toNat (1:Int))) 12)) 0) (fun (v4:TV)=>need (isSl v4) (BId ((lenS v4:Int)=(2:Int)) (((0<=(1:Int)/\(1:Int)<(lenZ 13 v2:Int))/\need (isPtr (ixT 13 v2 (Int.toNat (1:Int)))) (Ah (Ac a [] (.t (Am (ixT 13 v2 (Int.toNat (1:Int))) 12)) 0) (fun (v5:TV)=>((0<=(0:Int)/\(0:Int)<(lenZ 14 v5:Int))/\need (isPtr (ixT 14 v5 (Int.toNat (0:Int)))) (need (isPtr (Am (ixT 14 v5 (Int.toNat (0:Int))) 1)) (Ah (Ac a [] (.t (Am (Am (ixT 14 v5 (Int.toNat (0:Int))) 1) 9)) 0) (fun (x3:TV)=>Ag .str x3 (fun (s4:B8)=>BId (s4=str10) (((0<=(0:Int)/\(0:Int)<(lenZ 13 v2:Int))/\need (isPtr (ixT 13 v2 (Int.toNat (0:Int)))) (Ah (Ac a [] (.t (Am (ixT 13 v2 (Int.toNat (0:Int))) 12)) 0) (fun (v6:TV)=>((0<=(0:Int)/\(0:Int)<(lenZ 14 v6:Int))/\need (isPtr (ixT 14 v6 (Int.toNat (0:Int)))) (need (isPtr (Am (ixT 14 v6 (Int.toNat (0:Int))) 1)) (Ah (Ac a [] (.t (Am (Am (ixT 14 v6 (Int.toNat (0:Int))) 1) 0)) 0) (fun (x5:TV)=>Ag (.int .i64) x5 (fun (d:Int)=>BId (d=2) (((0<=(1:Int)/\(1:Int)<(lenZ 13 v2:Int))/\need (isPtr (ixT 13 v2 (Int.toNat (1:Int)))) (Ah (Ac a [] (.t (Am (ixT 13 v2 (Int.toNat (1:Int))) 12)) 0) (fun (v7:TV)=>((0<=(1:Int)/\(1:Int)<(lenZ 14 v7:Int))/\need (isPtr (ixT 14 v7 (Int.toNat (1:Int)))) (need (isPtr (Am (ixT 14 v7 (Int.toNat (1:Int))) 1)) (Ah (Ac a [] (.t (Am (Am (ixT 14 v7 (Int.toNat (1:Int))) 1) 0)) 0) (fun (x7:TV)=>Ag (.int .i64) x7 (fun (j:Int)=>BId (j=0) (BId (s3=str11) (K ((decide (m=0))) a) (K false a)) (K false a)))))))))) (K false a)))))))))) (K false a)))))))))) (K false a)))))) (K false a))) (K false a)))))))):CallT PR Bk [] [.one .bool] st K:=
 Ae (cfg:=⟨[1],[],[]⟩) (h:= .none) mixed (fun _ _=>Tryz.call33 _ _) Tryz.func33 (by kernel_rfl) (by kernel_rfl) h
theorem Qm (v_0:Int) (v_1:Bool) (v_2:Bool) (v_3:B8) (v_4:Int) (v_5:Int) (v_6:Int) (v_7:Int) (v_8:Int) (v_9:B8) (v_10:TV) (v_11:TV) (v_12:TV) (d_0:Int) (d_1:Int) (d_2:Bool) (d_3:Bool) (st:St) (K:B8->Int->St->Prop) (h:CallT PR Dd [(.agg [.int .u8 d_0,.int .u8 d_1,.bool d_2,.bool d_3])] [.one .bool] st (fun (b1:Bool) a=>BIf (!b1) (K [] 1 a) (CallT PR F3 [(.agg (cV v_0 v_1 v_2 v_3 v_4 v_5 v_6 v_7 v_8 v_9 v_10 v_11 v_12))] [.one (.int .i64)] a (fun (n1:Int) b=>BId (n1≠0) (K [] n1 b) (CallT PR HY [(.agg (cV v_0 v_1 v_2 v_3 v_4 v_5 v_6 v_7 v_8 v_9 v_10 v_11 v_12)),(.agg [.int .u8 d_0,.int .u8 d_1,.bool d_2,.bool d_3])] [.one .str,.one (.int .i64)] b (fun (s1:B8) (n2:Int) c=>K s1 n2 c)))))):CallT PR FE [(.agg (cV v_0 v_1 v_2 v_3 v_4 v_5 v_6 v_7 v_8 v_9 v_10 v_11 v_12)),(.agg [.int .u8 d_0,.int .u8 d_1,.bool d_2,.bool d_3])] [.one .str,.one (.int .i64)] st K:=
 Ae (cfg:=⟨[2,3],[],[]⟩) (h:= .none) mixed (fun _ _=>Tryz.call34 _ _) Tryz.func34 (by kernel_rfl) (by kernel_rfl) h
theorem IU (v_0:Int) (v_1:Bool) (v_2:Bool) (v_3:B8) (v_4:Int) (v_5:Int) (v_6:Int) (v_7:Int) (v_8:Int) (v_9:B8) (v_10:TV) (v_11:TV) (v_12:TV) (d_0:Int) (d_1:Int) (d_2:Bool) (d_3:Bool) (st:St) (K:B8->Int->St->Prop) (h:CallT PR BQ [(.agg [.int .u8 d_0,.int .u8 d_1,.bool d_2,.bool d_3])] [.one .bool] st (fun (b1:Bool) d=>BIf (!b1) (K [] 1 d) (CallT PR CM [(.agg (cV v_0 v_1 v_2 v_3 v_4 v_5 v_6 v_7 v_8 v_9 v_10 v_11 v_12))] [.one (.int .i64)] d (fun (n1:Int) a=>BId (n1≠0) (K [] n1 a) (BId (v_0=6) (K [] 27 a) (BId (v_0=7) (K [] 27 a) (BId (v_0=5) (K [] 27 a) (BIf (!d_3) (BId (v_0≠4) (K [] 27 a) (BId (v_0=1) (BIf v_1 (K H9 0 a) (K Pr 0 a)) (BId (v_0=2) (CallT PR B7 [(.agg [.bool v_2,.str v_3,.int .i64 v_4])] [.one .str] a (fun (s1:B8) o=>K s1 0 o)) (BId (v_0=3) (CallT PR B6 [(.agg [.int .i64 v_5,.int .i64 v_6,.int .i64 v_7,.int .i64 v_8])] [.one .str] a (fun (s2:B8) i=>K s2 0 i)) (BId (v_0=4) (CallT PR BS [.str v_9,(.agg [.int .u8 d_0,.int .u8 d_1,.bool d_2,.bool d_3])] [.one .str,.one (.int .i64)] a (fun (s3:B8) (n2:Int) f=>BId (s3=v_9) (CallT PR AZ [.str s3,.bool false,(.agg [.int .u8 d_0,.int .u8 d_1,.bool d_2,.bool d_3])] [sV] f (fun (n3:Int) (b2 b3:Bool) (s4:B8) (n4 n5 n6 n7 n8:Int) (s5:B8) (v1 v2 v3:TV) e=>BId (n3≠4) (CallT PR AB [.str v_9,(.agg [.int .u8 d_0,.int .u8 d_1,.bool d_2,.bool d_3])] [.one .str] e (fun (s6:B8) l=>K s6 0 l)) (K s3 0 e))) (K s3 0 f))) (K [] 0 a)))))) (BId (v_0=1) (BIf v_1 (K H9 0 a) (K Pr 0 a)) (BId (v_0=2) (CallT PR B7 [(.agg [.bool v_2,.str v_3,.int .i64 v_4])] [.one .str] a (fun (s7:B8) n=>K s7 0 n)) (BId (v_0=3) (CallT PR B6 [(.agg [.int .i64 v_5,.int .i64 v_6,.int .i64 v_7,.int .i64 v_8])] [.one .str] a (fun (s8:B8) k=>K s8 0 k)) (BId (v_0=4) (CallT PR BS [.str v_9,(.agg [.int .u8 d_0,.int .u8 d_1,.bool d_2,.bool d_3])] [.one .str,.one (.int .i64)] a (fun (s9:B8) (n9:Int) c=>BId (s9=v_9) (CallT PR AZ [.str s9,.bool false,(.agg [.int .u8 d_0,.int .u8 d_1,.bool d_2,.bool d_3])] [sV] c (fun (j:Int) (b4 b5:Bool) (v:B8) (u s p r t:Int) (q:B8) (v4 v5 v6:TV) b=>BId (j≠4) (CallT PR AB [.str v_9,(.agg [.int .u8 d_0,.int .u8 d_1,.bool d_2,.bool d_3])] [.one .str] b (fun (m:B8) g=>K m 0 g)) (K s9 0 b))) (K s9 0 c))) (K [] 0 a))))))))))))):CallT PR Df [(.agg (cV v_0 v_1 v_2 v_3 v_4 v_5 v_6 v_7 v_8 v_9 v_10 v_11 v_12)),(.agg [.int .u8 d_0,.int .u8 d_1,.bool d_2,.bool d_3])] [.one .str,.one (.int .i64)] st K:=
 Ae (cfg:=⟨[2,3],[],[]⟩) (h:= .none) mixed (fun _ _=>Tryz.call35 _ _) Tryz.func35 (by kernel_rfl) (by kernel_rfl) h
theorem IZ (a_0:Int) (a_1:Bool) (a_2:Bool) (a_3:B8) (a_4:Int) (a_5:Int) (a_6:Int) (a_7:Int) (a_8:Int) (a_9:B8) (a_10:TV) (a_11:TV) (a_12:TV) (b_0:Int) (b_1:Bool) (b_2:Bool) (b_3:B8) (b_4:Int) (b_5:Int) (b_6:Int) (b_7:Int) (b_8:Int) (b_9:B8) (b_10:TV) (b_11:TV) (b_12:TV) (st:St) (K:Bool->St->Prop) (h:BId (a_0≠b_0) (K false st) (BIf (!(a_1==b_1)) (K false st) (BIf (!((a_2==b_2)&&(decide (a_3=b_3)&&(decide (a_4=b_4)&&true)))) (K false st) (BIf (!(decide (a_5=b_5)&&(decide (a_6=b_6)&&(decide (a_7=b_7)&&(decide (a_8=b_8)&&true))))) (K false st) (BId (a_9≠b_9) (K false st) (Ah ((toBytes st a_10).map TV.str) (fun (x1:TV)=>Ag .str x1 (fun (s1:B8)=>Ah ((toBytes st b_10).map TV.str) (fun (x2:TV)=>Ag .str x2 (fun (s2:B8)=>BId (s1≠s2) (K false st) (need (isSl a_11) (need (isSl b_11) (BId ((lenS a_11:Int)≠(lenS b_11:Int)) (K false st) (need (isSl a_12) (need (isSl b_12) (BId ((lenS a_12:Int)≠(lenS b_12:Int)) (K false st) (∃(I1:Int->V13 (V13 (St->Prop))) (M1:Int->V13 (V13 (St->Nat))),(I1 0 a_0 a_1 a_2 a_3 a_4 a_5 a_6 a_7 a_8 a_9 a_10 a_11 a_12 b_0 b_1 b_2 b_3 b_4 b_5 b_6 b_7 b_8 b_9 b_10 b_11 b_12 st)/\∀d n1 b1 b2 s3 n2 n3 n4 n5 n6 s4 v1 v2 v3 n7 b3 b4 s5 n8 n9 i k j s6 v4 v5 v6 f,I1 d n1 b1 b2 s3 n2 n3 n4 n5 n6 s4 v1 v2 v3 n7 b3 b4 s5 n8 n9 i k j s6 v4 v5 v6 f->(need (isSl v2) (BId (d<(lenS v2:Int)) (((0<=d/\d<(lenZ 13 v2:Int))/\Ah ((Ai f [] (.t (ixT 13 v2 d.toNat)) 0 13).map TV.agg) (fun (x3:TV)=>AU [.int .i64,.bool,.bool,.str,.int .i64,.int .i64,.int .i64,.int .i64,.int .i64,.str,.tv,.tv,.tv] x3 (fun (d2:Int) (b5 b6:Bool) (s7:B8) (d4 c9 e2 g1 f3:Int) (s8:B8) (v7 v8 v9:TV)=>((0<=d/\d<(lenZ 13 v5:Int))/\Ah ((Ai f [] (.t (ixT 13 v5 d.toNat)) 0 13).map TV.agg) (fun (x4:TV)=>AU [.int .i64,.bool,.bool,.str,.int .i64,.int .i64,.int .i64,.int .i64,.int .i64,.str,.tv,.tv,.tv] x4 (fun (c8:Int) (b7 b8:Bool) (s9:B8) (g0 e8 d6 c4 f2:Int) (g4:B8) (f5 g2 d1:TV)=>CallT PR A0 [(.agg (cV d2 b5 b6 s7 d4 c9 e2 g1 f3 s8 v7 v8 v9)),(.agg (cV c8 b7 b8 s9 g0 e8 d6 c4 f2 g4 f5 g2 d1))] [.one .bool] f (fun (b9:Bool) c0=>BIf (!b9) (K false c0) ((I1 ((i64.wrap (d+(1:Int)))) n1 b1 b2 s3 n2 n3 n4 n5 n6 s4 v1 v2 v3 n7 b3 b4 s5 n8 n9 i k j s6 v4 v5 v6 c0/\M1 ((i64.wrap (d+(1:Int)))) n1 b1 b2 s3 n2 n3 n4 n5 n6 s4 v1 v2 v3 n7 b3 b4 s5 n8 n9 i k j s6 v4 v5 v6 c0<M1 d n1 b1 b2 s3 n2 n3 n4 n5 n6 s4 v1 v2 v3 n7 b3 b4 s5 n8 n9 i k j s6 v4 v5 v6 f)))))))))) (∃(I2:Int->V13 (V13 (St->Prop))) (M2:Int->V13 (V13 (St->Nat))),(I2 0 n1 b1 b2 s3 n2 n3 n4 n5 n6 s4 v1 v2 v3 n7 b3 b4 s5 n8 n9 i k j s6 v4 v5 v6 f)/\∀a a5 a1 q o x a3 a9 a6 m a0 p a7 b a2 s l y a4 u n r v z a8 w c e,I2 a a5 a1 q o x a3 a9 a6 m a0 p a7 b a2 s l y a4 u n r v z a8 w c e->(need (isSl b) (BId (a<(lenS b:Int)) (((0<=a/\a<(lenZ 14 b:Int))/\need (isPtr (ixT 14 b a.toNat)) (Ah (Ac e [] (.t (Am (ixT 14 b a.toNat) 0)) 0) (fun (x5:TV)=>Ag .str x5 (fun (c1:B8)=>((0<=a/\a<(lenZ 14 c:Int))/\need (isPtr (ixT 14 c a.toNat)) (Ah (Ac e [] (.t (Am (ixT 14 c a.toNat) 0)) 0) (fun (x6:TV)=>Ag .str x6 (fun (b0:B8)=>BId (c1≠b0) ((Ac e [] (.t (Am (ixT 14 c a.toNat) 0)) 0=some (.str b0)/\(Ac e [] (.t (Am (ixT 14 b a.toNat) 0)) 0=some (.str c1)/\K false e))) (((0<=a/\a<(lenZ 14 b:Int))/\need (isPtr (ixT 14 b a.toNat)) (Ah ((Ai e [] (.t (Am (ixT 14 b a.toNat) 1)) 0 13).map TV.agg) (fun (x7:TV)=>AU [.int .i64,.bool,.bool,.str,.int .i64,.int .i64,.int .i64,.int .i64,.int .i64,.str,.tv,.tv,.tv] x7 (fun (c6:Int) (e5 c5:Bool) (e6:B8) (e1 c2 f6 e4 e7:Int) (d8:B8) (d9 f9 e9:TV)=>((0<=a/\a<(lenZ 14 c:Int))/\need (isPtr (ixT 14 c a.toNat)) (Ah ((Ai e [] (.t (Am (ixT 14 c a.toNat) 1)) 0 13).map TV.agg) (fun (x8:TV)=>AU [.int .i64,.bool,.bool,.str,.int .i64,.int .i64,.int .i64,.int .i64,.int .i64,.str,.tv,.tv,.tv] x8 (fun (c3:Int) (f1 e0:Bool) (e3:B8) (c7 d7 g3 d3 f7:Int) (d5:B8) (d0 f0 f8:TV)=>CallT PR A0 [(.agg (cV c6 e5 c5 e6 e1 c2 f6 e4 e7 d8 d9 f9 e9)),(.agg (cV c3 f1 e0 e3 c7 d7 g3 d3 f7 d5 d0 f0 f8))] [.one .bool] e (fun (f4:Bool) g=>(Ac g [] (.t (Am (ixT 14 c a.toNat) 0)) 0=some (.str b0)/\(Ac g [] (.t (Am (ixT 14 b a.toNat) 0)) 0=some (.str c1)/\BIf (!f4) (K false g) ((I2 ((i64.wrap (a+(1:Int)))) a5 a1 q o x a3 a9 a6 m a0 p a7 b a2 s l y a4 u n r v z a8 w c g/\M2 ((i64.wrap (a+(1:Int)))) a5 a1 q o x a3 a9 a6 m a0 p a7 b a2 s l y a4 u n r v z a8 w c g<M2 a a5 a1 q o x a3 a9 a6 m a0 p a7 b a2 s l y a4 u n r v z a8 w c e))))))))))))))))))))))) (K true e))))))))))))))))))))))):CallT PR A0 [(.agg (cV a_0 a_1 a_2 a_3 a_4 a_5 a_6 a_7 a_8 a_9 a_10 a_11 a_12)),(.agg (cV b_0 b_1 b_2 b_3 b_4 b_5 b_6 b_7 b_8 b_9 b_10 b_11 b_12))] [.one .bool] st K:=
 Ae (cfg:=⟨[2,3],[],[78,83,98,104,112,118]⟩) (h:=(.seq .none (.seq .none (.seq (.seq .none (.block (.loop ⟨[(5,.int .i64)],[(2,0,0),(3,1,0)],[(0,13),(1,13)],[(0,0,.int .i64),(0,1,.bool),(0,2,.bool),(0,3,.str),(0,4,.int .i64),(0,5,.int .i64),(0,6,.int .i64),(0,7,.int .i64),(0,8,.int .i64),(0,9,.str),(0,10,.tv),(0,11,.tv),(0,12,.tv),(1,0,.int .i64),(1,1,.bool),(1,2,.bool),(1,3,.str),(1,4,.int .i64),(1,5,.int .i64),(1,6,.int .i64),(1,7,.int .i64),(1,8,.int .i64),(1,9,.str),(1,10,.tv),(1,11,.tv),(1,12,.tv)]⟩ .none))) (.seq (.seq .none (.block (.loop ⟨[(6,.int .i64)],[(2,0,0),(3,1,0)],[(0,13),(1,13)],[(0,0,.int .i64),(0,1,.bool),(0,2,.bool),(0,3,.str),(0,4,.int .i64),(0,5,.int .i64),(0,6,.int .i64),(0,7,.int .i64),(0,8,.int .i64),(0,9,.str),(0,10,.tv),(0,11,.tv),(0,12,.tv),(1,0,.int .i64),(1,1,.bool),(1,2,.bool),(1,3,.str),(1,4,.int .i64),(1,5,.int .i64),(1,6,.int .i64),(1,7,.int .i64),(1,8,.int .i64),(1,9,.str),(1,10,.tv),(1,11,.tv),(1,12,.tv)]⟩ .none))) .none))))) mixed (fun _ _=>Tryz.call36 _ _) Tryz.func36 (by kernel_rfl) (by kernel_rfl) h
theorem Qo (s:B8) (quoted:Bool) (d_0:Int) (d_1:Int) (d_2:Bool) (d_3:Bool) (st:St) (K:V13 (St->Prop)) (h:BIf (!d_3) (CallT PR CE [.str s] [sV] st (fun (n1:Int) (b1 b2:Bool) (s1:B8) (n2 n3 n4 n5 n6:Int) (s2:B8) (v1 v2 v3:TV) k5=>need (List.all (cV n1 b1 b2 s1 n2 n3 n4 n5 n6 s2 v1 v2 v3) At) (K n1 b1 b2 s1 n2 n3 n4 n5 n6 s2 v1 v2 v3 k5))) (BIf quoted (CallT PR CE [.str s] [sV] st (fun (n7:Int) (b3 b4:Bool) (s3:B8) (n8 n9 e3 j6 g2:Int) (s4:B8) (v4 v5 v6:TV) k9=>need (List.all (cV n7 b3 b4 s3 n8 n9 e3 j6 g2 s4 v4 v5 v6) At) (K n7 b3 b4 s3 n8 n9 e3 j6 g2 s4 v4 v5 v6 k9))) (BId (s=([]:B8)) (CallT PR Km [] [sV] st (fun (b0:Int) (b5 b6:Bool) (s5:B8) (c7 x e1 j2 i0:Int) (s6:B8) (v7 v8 v9:TV) m4=>need (List.all (cV b0 b5 b6 s5 c7 x e1 j2 i0 s6 v7 v8 v9) At) (K b0 b5 b6 s5 c7 x e1 j2 i0 s6 v7 v8 v9 m4))) (BId (s=H9) (BId (s=H9) (CallT PR GR [(.bool (decide (s=H9)))] [sV] st (fun (t:Int) (b7 b8:Bool) (s7:B8) (j0 g6 d0 m h9:Int) (s8:B8) (i3 j3 a3:TV) k2=>need (List.all (cV t b7 b8 s7 j0 g6 d0 m h9 s8 i3 j3 a3) At) (K t b7 b8 s7 j0 g6 d0 m h9 s8 i3 j3 a3 k2))) (CallT PR Cf [.str s] [.agg [.bool,.str,.int .i64],.one (.int .i64)] st (fun (b9:Bool) (s9:B8) (m0 l2:Int) c8=>BId (l2=0) (CallT PR FC [(.agg [.bool b9,.str s9,.int .i64 m0])] [sV] c8 (fun (g4:Int) (e2 q:Bool) (j7:B8) (i9 h5 l f7 g5:Int) (o:B8) (p h6 j:TV) m2=>need (List.all (cV g4 e2 q j7 i9 h5 l f7 g5 o p h6 j) At) (K g4 e2 q j7 i9 h5 l f7 g5 o p h6 j m2))) (CallT PR CA [.str s] [.agg [.int .i64,.int .i64,.int .i64,.int .i64],.one (.int .i64)] c8 (fun (l0 k3 k8 l1 k6:Int) e5=>BId (k6=0) (CallT PR ET [(.agg [.int .i64 l0,.int .i64 k3,.int .i64 k8,.int .i64 l1])] [sV] e5 (fun (d9:Int) (a0 g:Bool) (d5:B8) (e i4 e8 f4 f:Int) (c1:B8) (i7 a5 i2:TV) l7=>need (List.all (cV d9 a0 g d5 e i4 e8 f4 f c1 i7 a5 i2) At) (K d9 a0 g d5 e i4 e8 f4 f c1 i7 a5 i2 l7))) (CallT PR CE [.str s] [sV] e5 (fun (r:Int) (e9 n:Bool) (c2:B8) (d1 j4 c4 i5 a2:Int) (f9:B8) (d6 i8 h1:TV) l9=>need (List.all (cV r e9 n c2 d1 j4 c4 i5 a2 f9 d6 i8 h1) At) (K r e9 n c2 d1 j4 c4 i5 a2 f9 d6 i8 h1 l9)))))))) (BId (s=Pr) (CallT PR GR [(.bool (decide (s=H9)))] [sV] st (fun (c3:Int) (h7 d8:Bool) (k:B8) (y f3 g9 a9 d4:Int) (f1:B8) (z h3 i6:TV) j8=>need (List.all (cV c3 h7 d8 k y f3 g9 a9 d4 f1 z h3 i6) At) (K c3 h7 d8 k y f3 g9 a9 d4 f1 z h3 i6 j8))) (CallT PR Cf [.str s] [.agg [.bool,.str,.int .i64],.one (.int .i64)] st (fun (m3:Bool) (l5:B8) (k7 l6:Int) a=>BId (l6=0) (CallT PR FC [(.agg [.bool m3,.str l5,.int .i64 k7])] [sV] a (fun (e7:Int) (a4 d7:Bool) (e6:B8) (c0 a6 e0 u j1:Int) (c9:B8) (c f8 g1:TV) j9=>need (List.all (cV e7 a4 d7 e6 c0 a6 e0 u j1 c9 c f8 g1) At) (K e7 a4 d7 e6 c0 a6 e0 u j1 c9 c f8 g1 j9))) (CallT PR CA [.str s] [.agg [.int .i64,.int .i64,.int .i64,.int .i64],.one (.int .i64)] a (fun (l8 l4 l3 k4 m1:Int) b=>BId (m1=0) (CallT PR ET [(.agg [.int .i64 l8,.int .i64 l4,.int .i64 l3,.int .i64 k4])] [sV] b (fun (g0:Int) (c6 f0:Bool) (d2:B8) (c5 g3 f2 f6 v:Int) (i1:B8) (j5 h4 g7:TV) k0=>need (List.all (cV g0 c6 f0 d2 c5 g3 f2 f6 v i1 j5 h4 g7) At) (K g0 c6 f0 d2 c5 g3 f2 f6 v i1 j5 h4 g7 k0))) (CallT PR CE [.str s] [sV] b (fun (d:Int) (a8 g8:Bool) (f5:B8) (i a7 w e4 d3:Int) (a1:B8) (h8 h2 h0:TV) k1=>need (List.all (cV d a8 g8 f5 i a7 w e4 d3 a1 h8 h2 h0) At) (K d a8 g8 f5 i a7 w e4 d3 a1 h8 h2 h0 k1)))))))))))):CallT PR BD [.str s,.bool quoted,(.agg [.int .u8 d_0,.int .u8 d_1,.bool d_2,.bool d_3])] [sV] st K:=
 Ae (cfg:=⟨[5,6,7,9],[],[]⟩) (h:= .none) mixed (fun _ _=>Tryz.call37 _ _) Tryz.func37 (by kernel_rfl) (by kernel_rfl) h
theorem IV (s:B8) (quoted:Bool) (d_0:Int) (d_1:Int) (d_2:Bool) (d_3:Bool) (st:St) (K:V13 (St->Prop)) (h:BIf quoted (K 4 false false [] 0 0 0 0 0 s .nilSlice .nilSlice .nilSlice st) (BIf (!d_3) (K 4 false false [] 0 0 0 0 0 s .nilSlice .nilSlice .nilSlice st) (∃(C1:B8->V13 (V13 (St->Prop))),(BId (s=([]:B8)) (K 0 false false [] 0 0 0 0 0 [] .nilSlice .nilSlice .nilSlice st) (BId (s=H9) (BId (s=H9) (K 1 ((decide (s=H9))) false [] 0 0 0 0 0 [] .nilSlice .nilSlice .nilSlice st) (C1 s 0 false false [] 0 0 0 0 0 [] .nilSlice .nilSlice .nilSlice 4 false false [] 0 0 0 0 0 s .nilSlice .nilSlice .nilSlice st)) (BId (s=Pr) (K 1 ((decide (s=H9))) false [] 0 0 0 0 0 [] .nilSlice .nilSlice .nilSlice st) (C1 s 0 false false [] 0 0 0 0 0 [] .nilSlice .nilSlice .nilSlice 4 false false [] 0 0 0 0 0 s .nilSlice .nilSlice .nilSlice st))))/\∀d n1 b1 b2 s1 n2 n3 n4 n5 n6 s2 v1 v2 v3 n7 b3 b4 s3 n8 n9 c b a s4 v4 v5 v6 i,C1 d n1 b1 b2 s1 n2 n3 n4 n5 n6 s2 v1 v2 v3 n7 b3 b4 s3 n8 n9 c b a s4 v4 v5 v6 i->(CallT PR Ca [.str d] [.one .bool,.one .bool] i (fun (b5 b6:Bool) e=>BIf b5 (CallT PR CR [.str d] [.agg [.bool,.str,.int .i64],.one (.int .i64)] e (fun (b7:Bool) (s5:B8) (m k:Int) g=>BId (k=0) (K 2 false b7 s5 m 0 0 0 0 [] .nilSlice .nilSlice .nilSlice g) (need (List.all (cV n7 b3 b4 s3 n8 n9 c b a s4 v4 v5 v6) At) (K n7 b3 b4 s3 n8 n9 c b a s4 v4 v5 v6 g)))) (CallT PR CO [.str d] [.agg [.int .i64,.int .i64,.int .i64,.int .i64],.one (.int .i64)] e (fun (n j p o l:Int) f=>BId (l=0) (K 3 false false [] 0 n j p o [] .nilSlice .nilSlice .nilSlice f) (need (List.all (cV n7 b3 b4 s3 n8 n9 c b a s4 v4 v5 v6) At) (K n7 b3 b4 s3 n8 n9 c b a s4 v4 v5 v6 f))))))))):CallT PR AZ [.str s,.bool quoted,(.agg [.int .u8 d_0,.int .u8 d_1,.bool d_2,.bool d_3])] [sV] st K:=
 Ae (cfg:=⟨[5,6,7,10,12],[],[]⟩) (h:=(.seq .none (.seq .none (.seq .none (.cut ⟨[(0,.str)],[(6,1,0),(7,2,0)],[(1,13),(2,13)],[(1,0,.int .i64),(1,1,.bool),(1,2,.bool),(1,3,.str),(1,4,.int .i64),(1,5,.int .i64),(1,6,.int .i64),(1,7,.int .i64),(1,8,.int .i64),(1,9,.str),(1,10,.tv),(1,11,.tv),(1,12,.tv),(2,0,.int .i64),(2,1,.bool),(2,2,.bool),(2,3,.str),(2,4,.int .i64),(2,5,.int .i64),(2,6,.int .i64),(2,7,.int .i64),(2,8,.int .i64),(2,9,.str),(2,10,.tv),(2,11,.tv),(2,12,.tv)]⟩ .none .none))))) mixed (fun _ _=>Tryz.call38 _ _) Tryz.func38 (by kernel_rfl) (by kernel_rfl) h
theorem Qn (src:B8) (d_0:Int) (d_1:Int) (d_2:Bool) (d_3:Bool) (l_0:Int) (l_1:Int) (l_2:Int) (l_3:Int) (l_4:Int) (st:St) (K:V13 (Int->Int->St->Prop)) (h:CallT PR Ek [.str src,(.agg [.int .u8 d_0,.int .u8 d_1,.bool d_2,.bool d_3]),(.agg [.int .i64 l_0,.int .i64 l_1,.int .i64 l_2,.int .i64 l_3,.int .i64 l_4])] [.agg [.int .i64,.str,.str,.tv,.str],.one (.int .i64),.one (.int .i64)] st (fun (n1:Int) (s1 s2:B8) (v1:TV) (s3:B8) (n2 n3:Int) a=>need (List.all [.int .i64 n1,.str s1,.str s2,v1,.str s3] At) (BId (n3≠0) (K 0 false false [] 0 0 0 0 0 [] .nilSlice .nilSlice .nilSlice n2 n3 a) (CallT PR GV [(.agg [.int .i64 n1,.str s1,.str s2,v1,.str s3]),(.agg [.int .u8 d_0,.int .u8 d_1,.bool d_2,.bool d_3])] [sV,.one (.int .i64)] a (fun (n4:Int) (b1 b2:Bool) (s4:B8) (n5 n6 n7 n8 n9:Int) (s5:B8) (v2 v3 v4:TV) (c:Int) b=>need (List.all (cV n4 b1 b2 s4 n5 n6 n7 n8 n9 s5 v2 v3 v4) At) (need (List.all (cV n4 b1 b2 s4 n5 n6 n7 n8 n9 s5 v2 v3 v4) At) (K n4 b1 b2 s4 n5 n6 n7 n8 n9 s5 v2 v3 v4 0 c b))))))):CallT PR HZ [.str src,(.agg [.int .u8 d_0,.int .u8 d_1,.bool d_2,.bool d_3]),(.agg [.int .i64 l_0,.int .i64 l_1,.int .i64 l_2,.int .i64 l_3,.int .i64 l_4])] [sV,.one (.int .i64),.one (.int .i64)] st K:=
 Ae (cfg:=⟨[4,5,6,9,12],[],[]⟩) (h:= .none) mixed (fun _ _=>Tryz.call39 _ _) Tryz.func39 (by kernel_rfl) (by kernel_rfl) h
theorem O1 (n_0:Int) (g:B8) (k:B8) (j:TV) (o:B8) (d_0:Int) (d_1:Int) (d_2:Bool) (d_3:Bool) (st:St) (K:V13 (Int->St->Prop)) (h:CallT PR EL [(.agg [.int .i64 n_0,.str g,.str k,j,.str o]),(.agg [.int .u8 d_0,.int .u8 d_1,.bool d_2,.bool d_3])] [.one .tv,.one (.int .i64)] st (fun (v1:TV) (n1:Int) l0=>BId (n1≠0) (K 0 false false [] 0 0 0 0 0 [] .nilSlice .nilSlice .nilSlice n1 l0) (CallT PR Fi [(.agg [.int .i64 n_0,.str g,.str k,j,.str o]),(.agg [.int .u8 d_0,.int .u8 d_1,.bool d_2,.bool d_3])] [.one .tv,.one (.int .i64)] l0 (fun (v2:TV) (n2:Int) o8=>need (isSl v1) (∃(I1:Int->TV->TV->TV->Int->Int->Int->Bool->Bool->V13 (V13 (St->Prop))) (M1:Int->TV->TV->TV->Int->Int->Int->Bool->Bool->V13 (V13 (St->Nat))),(I1 0 v1 v2 v1 ((lenS v1:Int)) d_0 d_1 d_2 d_3 0 false false [] 0 0 0 0 0 [] .nilSlice .nilSlice .nilSlice 6 false false [] 0 0 0 0 0 [] .nilSlice .nilSlice .nilSlice o8)/\∀g b e q k n3 n4 b1 b2 n5 b3 b4 s1 n6 n7 n8 n9 w s2 v3 v4 v5 s b5 b6 s3 r m n l p s4 v6 v7 v8 u,I1 g b e q k n3 n4 b1 b2 n5 b3 b4 s1 n6 n7 n8 n9 w s2 v3 v4 v5 s b5 b6 s3 r m n l p s4 v6 v7 v8 u->(BId (g<k) (((0<=g/\g<(lenZ 1 q:Int))/\Ah (Ac u [] (.t (ixT 1 q g.toNat)) 0) (fun (v9:TV)=>BIf (!b1) (need (isSl v9) (∃(I2:Int->TV->TV->Int->TV->Int->Int->TV->Int->Int->Int->Bool->Bool->V13 (V13 (V13 (St->Prop)))) (M2:Int->TV->TV->Int->TV->Int->Int->TV->Int->Int->Int->Bool->Bool->V13 (V13 (V13 (St->Nat)))),(I2 0 b e g q k g v9 ((lenS v9:Int)) n3 n4 b1 b2 n5 b3 b4 s1 n6 n7 n8 n9 w s2 v3 v4 v5 s b5 b6 s3 r m n l p s4 v6 v7 v8 6 false false [] 0 0 0 0 0 [] .nilSlice .nilSlice .nilSlice u)/\∀j f d x c5 o h8 g5 j2 a6 a4 b7 b8 c7 b9 f2 s5 i6 h1 e6 c2 i0 s6 i2 i7 d5 h6 c6 d2 s7 e1 g9 i5 h7 c1 s8 c4 j5 b0 g1 a9 f5 s9 h0 d3 c3 d0 d6 j0 i4 j1 i1 a0,I2 j f d x c5 o h8 g5 j2 a6 a4 b7 b8 c7 b9 f2 s5 i6 h1 e6 c2 i0 s6 i2 i7 d5 h6 c6 d2 s7 e1 g9 i5 h7 c1 s8 c4 j5 b0 g1 a9 f5 s9 h0 d3 c3 d0 d6 j0 i4 j1 i1 a0->(BId (j<j2) (((0<=j/\j<(lenZ 1 g5:Int))/\Ah (Ac a0 [] (.t (ixT 1 g5 j.toNat)) 0) (fun (x2:TV)=>Ag .str x2 (fun (o7:B8)=>((0<=x/\x<(lenZ 1 d:Int))/\Ah (Ac a0 [] (.t (ixT 1 d x.toNat)) 0) (fun (k2:TV)=>((0<=j/\j<(lenZ 1 k2:Int))/\Ah (Ac a0 [] (.t (ixT 1 k2 j.toNat)) 0) (fun (x4:TV)=>Ag .bool x4 (fun (o6:Bool)=>CallT PR BD [.str o7,.bool o6,(.agg [.int .u8 a6,.int .u8 a4,.bool b7,.bool b8])] [sV] a0 (fun (l1:Int) (n0 l9:Bool) (l8:B8) (m0 k7 o3 m3 m4:Int) (l3:B8) (o4 m8 l2:TV) l5=>(Ac l5 [] (.t (ixT 1 d x.toNat)) 0=some k2/\need (List.all (cV l1 n0 l9 l8 m0 k7 o3 m3 m4 l3 o4 m8 l2) At) (BZ 63 13 168 j1 1 (cV l1 n0 l9 l8 m0 k7 o3 m3 m4 l3 o4 m8 l2) l5 (fun (k5:TV) o1=>need (List.all [k5] At) ((I2 ((i64.wrap (j+(1:Int)))) f d x c5 o h8 g5 j2 a6 a4 b7 b8 c7 b9 f2 s5 i6 h1 e6 c2 i0 s6 i2 i7 d5 h6 c6 d2 s7 e1 g9 i5 h7 c1 s8 c4 j5 b0 g1 a9 f5 s9 h0 d3 c3 d0 d6 j0 i4 k5 i1 o1/\M2 ((i64.wrap (j+(1:Int)))) f d x c5 o h8 g5 j2 a6 a4 b7 b8 c7 b9 f2 s5 i6 h1 e6 c2 i0 s6 i2 i7 d5 h6 c6 d2 s7 e1 g9 i5 h7 c1 s8 c4 j5 b0 g1 a9 f5 s9 h0 d3 c3 d0 d6 j0 i4 k5 i1 o1<M2 j f d x c5 o h8 g5 j2 a6 a4 b7 b8 c7 b9 f2 s5 i6 h1 e6 c2 i0 s6 i2 i7 d5 h6 c6 d2 s7 e1 g9 i5 h7 c1 s8 c4 j5 b0 g1 a9 f5 s9 h0 d3 c3 d0 d6 j0 i4 j1 i1 a0))))))))))))))) (need (List.all (cV g1 a9 f5 s9 h0 d3 c3 d0 d6 j0 i4 j1 i1) At) (BZ 63 13 168 j5 1 (cV g1 a9 f5 s9 h0 d3 c3 d0 d6 j0 i4 j1 i1) a0 (fun (k6:TV) m2=>need (List.all [k6] At) ((I1 ((i64.wrap (h8+(1:Int)))) f d c5 o a6 a4 b7 b8 c7 b9 f2 s5 i6 h1 e6 c2 i0 s6 i2 i7 d5 h6 c6 d2 s7 e1 g9 i5 h7 c1 s8 c4 k6 b0 m2/\M1 ((i64.wrap (h8+(1:Int)))) f d c5 o a6 a4 b7 b8 c7 b9 f2 s5 i6 h1 e6 c2 i0 s6 i2 i7 d5 h6 c6 d2 s7 e1 g9 i5 h7 c1 s8 c4 k6 b0 m2<M1 g b e q k n3 n4 b1 b2 n5 b3 b4 s1 n6 n7 n8 n9 w s2 v3 v4 v5 s b5 b6 s3 r m n l p s4 v6 v7 v8 u)))))))) (BId ((0:Int)<g) (need (isSl v9) (∃(I3:Int->TV->TV->Int->TV->Int->Int->TV->Int->Int->Int->Bool->Bool->V13 (V13 (V13 (St->Prop)))) (M3:Int->TV->TV->Int->TV->Int->Int->TV->Int->Int->Int->Bool->Bool->V13 (V13 (V13 (St->Nat)))),(I3 0 b e g q k g v9 ((lenS v9:Int)) n3 n4 b1 b2 n5 b3 b4 s1 n6 n7 n8 n9 w s2 v3 v4 v5 s b5 b6 s3 r m n l p s4 v6 v7 v8 7 false false [] 0 0 0 0 0 [] .nilSlice .nilSlice .nilSlice u)/\∀i a c y g4 g7 a7 g8 a3 z a1 a5 a2 e7 f0 e5 e2 i8 e4 i3 d4 e3 g3 a8 g2 g6 d1 f6 d8 c0 f8 h4 d9 e8 c8 f7 i9 j4 h2 f9 h3 g0 e9 f4 e0 d7 f1 c9 f3 h9 h5 j3 v,I3 i a c y g4 g7 a7 g8 a3 z a1 a5 a2 e7 f0 e5 e2 i8 e4 i3 d4 e3 g3 a8 g2 g6 d1 f6 d8 c0 f8 h4 d9 e8 c8 f7 i9 j4 h2 f9 h3 g0 e9 f4 e0 d7 f1 c9 f3 h9 h5 j3 v->(BId (i<a3) (((0<=i/\i<(lenZ 1 g8:Int))/\Ah (Ac v [] (.t (ixT 1 g8 i.toNat)) 0) (fun (x5:TV)=>Ag .str x5 (fun (o9:B8)=>((0<=(0:Int)/\(0:Int)<(lenZ 1 a:Int))/\Ah (Ac v [] (.t (ixT 1 a (Int.toNat (0:Int)))) 0) (fun (j6:TV)=>((0<=i/\i<(lenZ 1 j6:Int))/\Ah (Ac v [] (.t (ixT 1 j6 i.toNat)) 0) (fun (x7:TV)=>Ag .str x7 (fun (k1:B8)=>((0<=y/\y<(lenZ 1 c:Int))/\Ah (Ac v [] (.t (ixT 1 c y.toNat)) 0) (fun (k3:TV)=>((0<=i/\i<(lenZ 1 k3:Int))/\Ah (Ac v [] (.t (ixT 1 k3 i.toNat)) 0) (fun (x9:TV)=>Ag .bool x9 (fun (p0:Bool)=>CallT PR BD [.str o9,.bool p0,(.agg [.int .u8 z,.int .u8 a1,.bool a5,.bool a2])] [sV] v (fun (o5:Int) (m1 l4:Bool) (o0:B8) (m7 l7 l6 k9 m9:Int) (m5:B8) (m6 k8 o2:TV) j7=>(Ac j7 [] (.t (ixT 1 c y.toNat)) 0=some k3/\(Ac j7 [] (.t (ixT 1 j6 i.toNat)) 0=some (.str k1)/\(Ac j7 [] (.t (ixT 1 a (Int.toNat (0:Int)))) 0=some j6/\need (List.all [.str k1,.int .i64 o5,.bool m1,.bool l4,.str o0,.int .i64 m7,.int .i64 l7,.int .i64 l6,.int .i64 k9,.int .i64 m9,.str m5,m6,k8,o2] At) (BZ 136 14 184 j3 1 [.str k1,.int .i64 o5,.bool m1,.bool l4,.str o0,.int .i64 m7,.int .i64 l7,.int .i64 l6,.int .i64 k9,.int .i64 m9,.str m5,m6,k8,o2] j7 (fun (k4:TV) j8=>need (List.all [k4] At) ((I3 ((i64.wrap (i+(1:Int)))) a c y g4 g7 a7 g8 a3 z a1 a5 a2 e7 f0 e5 e2 i8 e4 i3 d4 e3 g3 a8 g2 g6 d1 f6 d8 c0 f8 h4 d9 e8 c8 f7 i9 j4 h2 f9 h3 g0 e9 f4 e0 d7 f1 c9 f3 h9 h5 k4 j8/\M3 ((i64.wrap (i+(1:Int)))) a c y g4 g7 a7 g8 a3 z a1 a5 a2 e7 f0 e5 e2 i8 e4 i3 d4 e3 g3 a8 g2 g6 d1 f6 d8 c0 f8 h4 d9 e8 c8 f7 i9 j4 h2 f9 h3 g0 e9 f4 e0 d7 f1 c9 f3 h9 h5 k4 j8<M3 i a c y g4 g7 a7 g8 a3 z a1 a5 a2 e7 f0 e5 e2 i8 e4 i3 d4 e3 g3 a8 g2 g6 d1 f6 d8 c0 f8 h4 d9 e8 c8 f7 i9 j4 h2 f9 h3 g0 e9 f4 e0 d7 f1 c9 f3 h9 h5 j3 v)))))))))))))))))))))) (need (List.all (cV f9 h3 g0 e9 f4 e0 d7 f1 c9 f3 h9 h5 j3) At) (BZ 63 13 168 j4 1 (cV f9 h3 g0 e9 f4 e0 d7 f1 c9 f3 h9 h5 j3) v (fun (j9:TV) k0=>need (List.all [j9] At) ((I1 ((i64.wrap (a7+(1:Int)))) a c g4 g7 z a1 a5 a2 e7 f0 e5 e2 i8 e4 i3 d4 e3 g3 a8 g2 g6 d1 f6 d8 c0 f8 h4 d9 e8 c8 f7 i9 j9 h2 k0/\M1 ((i64.wrap (a7+(1:Int)))) a c g4 g7 z a1 a5 a2 e7 f0 e5 e2 i8 e4 i3 d4 e3 g3 a8 g2 g6 d1 f6 d8 c0 f8 h4 d9 e8 c8 f7 i9 j9 h2 k0<M1 g b e q k n3 n4 b1 b2 n5 b3 b4 s1 n6 n7 n8 n9 w s2 v3 v4 v5 s b5 b6 s3 r m n l p s4 v6 v7 v8 u)))))))) ((I1 ((i64.wrap (g+(1:Int)))) b e q k n3 n4 b1 b2 n5 b3 b4 s1 n6 n7 n8 n9 w s2 v3 v4 v5 s b5 b6 s3 r m n l p s4 v6 v7 v8 u/\M1 ((i64.wrap (g+(1:Int)))) b e q k n3 n4 b1 b2 n5 b3 b4 s1 n6 n7 n8 n9 w s2 v3 v4 v5 s b5 b6 s3 r m n l p s4 v6 v7 v8 u<M1 g b e q k n3 n4 b1 b2 n5 b3 b4 s1 n6 n7 n8 n9 w s2 v3 v4 v5 s b5 b6 s3 r m n l p s4 v6 v7 v8 u)))))) (need (List.all (cV s b5 b6 s3 r m n l p s4 v6 v7 v8) At) (K s b5 b6 s3 r m n l p s4 v6 v7 v8 0 u)))))))):CallT PR GV [(.agg [.int .i64 n_0,.str g,.str k,j,.str o]),(.agg [.int .u8 d_0,.int .u8 d_1,.bool d_2,.bool d_3])] [sV,.one (.int .i64)] st K:=
 Ae (cfg:=⟨[2,3,4,10,13,16],[],[61,64,92,95,100,103]⟩) (h:=(.seq .none (.seq .none (.seq .none (.seq .none (.seq .none (.seq (.seq .none (.block (.loop ⟨[(38,.int .i64),(6,.tv),(8,.tv),(36,.tv),(37,.int .i64)],[(3,1,0),(4,2,0),(10,3,0)],[(1,4),(2,13),(3,13)],[(1,0,.int .u8),(1,1,.int .u8),(1,2,.bool),(1,3,.bool),(2,0,.int .i64),(2,1,.bool),(2,2,.bool),(2,3,.str),(2,4,.int .i64),(2,5,.int .i64),(2,6,.int .i64),(2,7,.int .i64),(2,8,.int .i64),(2,9,.str),(2,10,.tv),(2,11,.tv),(2,12,.tv),(3,0,.int .i64),(3,1,.bool),(3,2,.bool),(3,3,.str),(3,4,.int .i64),(3,5,.int .i64),(3,6,.int .i64),(3,7,.int .i64),(3,8,.int .i64),(3,9,.str),(3,10,.tv),(3,11,.tv),(3,12,.tv)]⟩ (.seq .none (.seq .none (.seq (.block (.seq .none (.block (.seq .none (.cond (.seq .none (.seq (.seq .none (.block (.loop ⟨[(50,.int .i64),(6,.tv),(8,.tv),(11,.int .i64),(36,.tv),(37,.int .i64),(38,.int .i64),(48,.tv),(49,.int .i64)],[(3,1,0),(4,2,0),(10,3,0),(13,4,0)],[(1,4),(2,13),(3,13),(4,13)],[(1,0,.int .u8),(1,1,.int .u8),(1,2,.bool),(1,3,.bool),(2,0,.int .i64),(2,1,.bool),(2,2,.bool),(2,3,.str),(2,4,.int .i64),(2,5,.int .i64),(2,6,.int .i64),(2,7,.int .i64),(2,8,.int .i64),(2,9,.str),(2,10,.tv),(2,11,.tv),(2,12,.tv),(3,0,.int .i64),(3,1,.bool),(3,2,.bool),(3,3,.str),(3,4,.int .i64),(3,5,.int .i64),(3,6,.int .i64),(3,7,.int .i64),(3,8,.int .i64),(3,9,.str),(3,10,.tv),(3,11,.tv),(3,12,.tv),(4,0,.int .i64),(4,1,.bool),(4,2,.bool),(4,3,.str),(4,4,.int .i64),(4,5,.int .i64),(4,6,.int .i64),(4,7,.int .i64),(4,8,.int .i64),(4,9,.str),(4,10,.tv),(4,11,.tv),(4,12,.tv)]⟩ .none))) .none)) (.seq .none (.cond (.seq .none (.seq (.seq .none (.block (.loop ⟨[(83,.int .i64),(6,.tv),(8,.tv),(11,.int .i64),(36,.tv),(37,.int .i64),(38,.int .i64),(81,.tv),(82,.int .i64)],[(3,1,0),(4,2,0),(10,3,0),(16,5,0)],[(1,4),(2,13),(3,13),(5,13)],[(1,0,.int .u8),(1,1,.int .u8),(1,2,.bool),(1,3,.bool),(2,0,.int .i64),(2,1,.bool),(2,2,.bool),(2,3,.str),(2,4,.int .i64),(2,5,.int .i64),(2,6,.int .i64),(2,7,.int .i64),(2,8,.int .i64),(2,9,.str),(2,10,.tv),(2,11,.tv),(2,12,.tv),(3,0,.int .i64),(3,1,.bool),(3,2,.bool),(3,3,.str),(3,4,.int .i64),(3,5,.int .i64),(3,6,.int .i64),(3,7,.int .i64),(3,8,.int .i64),(3,9,.str),(3,10,.tv),(3,11,.tv),(3,12,.tv),(5,0,.int .i64),(5,1,.bool),(5,2,.bool),(5,3,.str),(5,4,.int .i64),(5,5,.int .i64),(5,6,.int .i64),(5,7,.int .i64),(5,8,.int .i64),(5,9,.str),(5,10,.tv),(5,11,.tv),(5,12,.tv)]⟩ .none))) .none)) .none))))))) .none)))))) .none))))))) mixed (fun _ _=>Tryz.call42 _ _) Tryz.func42 (by kernel_rfl) (by kernel_rfl) h
theorem NG (v_0:Int) (v_1:Bool) (v_2:Bool) (v_3:B8) (v_4:Int) (v_5:Int) (v_6:Int) (v_7:Int) (v_8:Int) (v_9:B8) (v_10:TV) (v_11:TV) (v_12:TV) (st:St) (K:Int->St->Prop) (h:stB (st.push (.cells [.int .i64 0]) (some 3)) (.box st.nb 0) [.int .i64 0] (fun a=>CallT PR Da [(.agg (cV v_0 v_1 v_2 v_3 v_4 v_5 v_6 v_7 v_8 v_9 v_10 v_11 v_12)),.int .i64 1,(.box st.nb 0)] [.one (.int .i64)] a (fun (n1:Int) b=>K n1 b))):CallT PR F3 [(.agg (cV v_0 v_1 v_2 v_3 v_4 v_5 v_6 v_7 v_8 v_9 v_10 v_11 v_12))] [.one (.int .i64)] st K:=
 Ae (cfg:=⟨[1],[],[]⟩) (h:= .none) mixed (fun _ _=>Tryz.call58 _ _) Tryz.func58 (by kernel_rfl) (by kernel_rfl) h
theorem IX (v_0:Int) (v_1:Bool) (v_2:Bool) (v_3:B8) (v_4:Int) (v_5:Int) (v_6:Int) (v_7:Int) (v_8:Int) (v_9:B8) (v_10:TV) (v_11:TV) (v_12:TV) (depth:Int) (n:Int) (bytes:Int) (st:St) (K:Int->St->Prop) (h:BId (depth<1) (K (-1) st) (BId (n<1) (K (-1) st) (BId (bytes<(v_9.length:Int)) (K (-1) st) (need (isSl v_10) (BId (bytes<(lenS v_10:Int)) (K (-1) st) (BId (bytes<(v_3.length:Int)) (K (-1) st) (need (isSl v_11) (BId (n<(lenS v_11:Int)) (K (-1) st) (need (isSl v_12) (BId (n<(lenS v_12:Int)) (K (-1) st) (∃(I1:Int->Int->Int->Int->V13 (St->Prop)) (M1:Int->Int->Int->Int->V13 (St->Nat)),(I1 ((i64.wrap (n-(1:Int)))) 0 depth bytes v_0 v_1 v_2 v_3 v_4 v_5 v_6 v_7 v_8 v_9 v_10 v_11 v_12 st)/\∀o k b a n1 b1 b2 s1 n2 n3 n4 n5 n6 s2 v1 v2 v3 p,I1 o k b a n1 b1 b2 s1 n2 n3 n4 n5 n6 s2 v1 v2 v3 p->(need (isSl v2) (BId (k<(lenS v2:Int)) (BId ((0:Int)<=o) (((0<=k/\k<(lenZ 13 v2:Int))/\Ah ((Ai p [] (.t (ixT 13 v2 k.toNat)) 0 13).map TV.agg) (fun (x1:TV)=>AU [.int .i64,.bool,.bool,.str,.int .i64,.int .i64,.int .i64,.int .i64,.int .i64,.str,.tv,.tv,.tv] x1 (fun (n7:Int) (b3 b4:Bool) (s3:B8) (n8 n9 d0 e9 e6:Int) (s4:B8) (v4 v5 v6:TV)=>CallT PR A8 [(.agg (cV n7 b3 b4 s3 n8 n9 d0 e9 e6 s4 v4 v5 v6)),(.int .i64 (i64.wrap (b-(1:Int)))),.int .i64 o,.int .i64 a] [.one (.int .i64)] p (fun (c2:Int) b0=>(I1 c2 ((i64.wrap (k+(1:Int)))) b a n1 b1 b2 s1 n2 n3 n4 n5 n6 s2 v1 v2 v3 b0/\M1 c2 ((i64.wrap (k+(1:Int)))) b a n1 b1 b2 s1 n2 n3 n4 n5 n6 s2 v1 v2 v3 b0<M1 o k b a n1 b1 b2 s1 n2 n3 n4 n5 n6 s2 v1 v2 v3 p)))))) (∃(I2:Int->Int->Int->Int->V13 (St->Prop)) (M2:Int->Int->Int->Int->V13 (St->Nat)),(I2 o 0 b a n1 b1 b2 s1 n2 n3 n4 n5 n6 s2 v1 v2 v3 p)/\∀q f e d a3 b5 b6 s5 a7 u a6 a1 a4 s6 v7 v8 v9 m,I2 q f e d a3 b5 b6 s5 a7 u a6 a1 a4 s6 v7 v8 v9 m->(need (isSl v9) (BId (f<(lenS v9:Int)) (BId ((0:Int)<=q) (((0<=f/\f<(lenZ 14 v9:Int))/\need (isPtr (ixT 14 v9 f.toNat)) (Ah (Ac m [] (.t (Am (ixT 14 v9 f.toNat) 0)) 0) (fun (x2:TV)=>Ag .str x2 (fun (s7:B8)=>BId (d<(s7.length:Int)) (K (-1) m) (((0<=f/\f<(lenZ 14 v9:Int))/\need (isPtr (ixT 14 v9 f.toNat)) (Ah ((Ai m [] (.t (Am (ixT 14 v9 f.toNat) 1)) 0 13).map TV.agg) (fun (x3:TV)=>AU [.int .i64,.bool,.bool,.str,.int .i64,.int .i64,.int .i64,.int .i64,.int .i64,.str,.tv,.tv,.tv] x3 (fun (e3:Int) (b7 b8:Bool) (s8:B8) (c5 e2 d2 d4 d1:Int) (s9:B8) (e0 e7 c7:TV)=>CallT PR A8 [(.agg (cV e3 b7 b8 s8 c5 e2 d2 d4 d1 s9 e0 e7 c7)),(.int .i64 (i64.wrap (e-(1:Int)))),.int .i64 q,.int .i64 d] [.one (.int .i64)] m (fun (c3:Int) c1=>(I2 c3 ((i64.wrap (f+(1:Int)))) e d a3 b5 b6 s5 a7 u a6 a1 a4 s6 v7 v8 v9 c1/\M2 c3 ((i64.wrap (f+(1:Int)))) e d a3 b5 b6 s5 a7 u a6 a1 a4 s6 v7 v8 v9 c1<M2 q f e d a3 b5 b6 s5 a7 u a6 a1 a4 s6 v7 v8 v9 m)))))))))))) (K q m)) (K q m))))) (∃(I3:Int->Int->Int->Int->V13 (St->Prop)) (M3:Int->Int->Int->Int->V13 (St->Nat)),(I3 o 0 b a n1 b1 b2 s1 n2 n3 n4 n5 n6 s2 v1 v2 v3 p)/\∀r i g c a8 b9 v a9 a5 x w a2 s z a0 y j l,I3 r i g c a8 b9 v a9 a5 x w a2 s z a0 y j l->(need (isSl j) (BId (i<(lenS j:Int)) (BId ((0:Int)<=r) (((0<=i/\i<(lenZ 14 j:Int))/\need (isPtr (ixT 14 j i.toNat)) (Ah (Ac l [] (.t (Am (ixT 14 j i.toNat) 0)) 0) (fun (x4:TV)=>Ag .str x4 (fun (e5:B8)=>BId (c<(e5.length:Int)) (K (-1) l) (((0<=i/\i<(lenZ 14 j:Int))/\need (isPtr (ixT 14 j i.toNat)) (Ah ((Ai l [] (.t (Am (ixT 14 j i.toNat) 1)) 0 13).map TV.agg) (fun (x5:TV)=>AU [.int .i64,.bool,.bool,.str,.int .i64,.int .i64,.int .i64,.int .i64,.int .i64,.str,.tv,.tv,.tv] x5 (fun (c6:Int) (d9 f0:Bool) (d5:B8) (d3 e4 c8 d8 e8:Int) (d6:B8) (e1 c9 d7:TV)=>CallT PR A8 [(.agg (cV c6 d9 f0 d5 d3 e4 c8 d8 e8 d6 e1 c9 d7)),(.int .i64 (i64.wrap (g-(1:Int)))),.int .i64 r,.int .i64 c] [.one (.int .i64)] l (fun (c0:Int) c4=>(I3 c0 ((i64.wrap (i+(1:Int)))) g c a8 b9 v a9 a5 x w a2 s z a0 y j c4/\M3 c0 ((i64.wrap (i+(1:Int)))) g c a8 b9 v a9 a5 x w a2 s z a0 y j c4<M3 r i g c a8 b9 v a9 a5 x w a2 s z a0 y j l)))))))))))) (K r l)) (K r l))))))))))))))))):CallT PR A8 [(.agg (cV v_0 v_1 v_2 v_3 v_4 v_5 v_6 v_7 v_8 v_9 v_10 v_11 v_12)),.int .i64 depth,.int .i64 n,.int .i64 bytes] [.one (.int .i64)] st K:=
 Ae (cfg:=⟨[4],[],[]⟩) (h:=(.seq .none (.seq .none (.seq .none (.seq (.seq .none (.block (.loop ⟨[(2,.int .i64),(9,.int .i64),(1,.int .i64),(3,.int .i64)],[(4,0,0)],[(0,13)],[(0,0,.int .i64),(0,1,.bool),(0,2,.bool),(0,3,.str),(0,4,.int .i64),(0,5,.int .i64),(0,6,.int .i64),(0,7,.int .i64),(0,8,.int .i64),(0,9,.str),(0,10,.tv),(0,11,.tv),(0,12,.tv)]⟩ .none))) (.seq (.seq .none (.block (.loop ⟨[(2,.int .i64),(10,.int .i64),(1,.int .i64),(3,.int .i64)],[(4,0,0)],[(0,13)],[(0,0,.int .i64),(0,1,.bool),(0,2,.bool),(0,3,.str),(0,4,.int .i64),(0,5,.int .i64),(0,6,.int .i64),(0,7,.int .i64),(0,8,.int .i64),(0,9,.str),(0,10,.tv),(0,11,.tv),(0,12,.tv)]⟩ .none))) .none)))))) mixed (fun _ _=>Tryz.call84 _ _) Tryz.func84 (by kernel_rfl) (by kernel_rfl) h
theorem Hw (v_0:Int) (v_1:Bool) (v_2:Bool) (v_3:B8) (v_4:Int) (v_5:Int) (v_6:Int) (v_7:Int) (v_8:Int) (v_9:B8) (v_10:TV) (v_11:TV) (v_12:TV) (st:St) (K:Int->St->Prop) (h:need (isSl v_10) (∃(I1:Int->Int->V13 (St->Prop)) (M1:Int->Int->V13 (St->Nat)),(I1 ((i64.wrap ((i64.wrap ((v_9.length:Int)+(lenS v_10:Int)))+(v_3.length:Int)))) 0 v_0 v_1 v_2 v_3 v_4 v_5 v_6 v_7 v_8 v_9 v_10 v_11 v_12 st)/\∀d b n1 b1 b2 s1 n2 n3 n4 n5 n6 s2 v1 v2 v3 e,I1 d b n1 b1 b2 s1 n2 n3 n4 n5 n6 s2 v1 v2 v3 e->(need (isSl v2) (BId (b<(lenS v2:Int)) (((0<=b/\b<(lenZ 13 v2:Int))/\Ah ((Ai e [] (.t (ixT 13 v2 b.toNat)) 0 13).map TV.agg) (fun (x1:TV)=>AU [.int .i64,.bool,.bool,.str,.int .i64,.int .i64,.int .i64,.int .i64,.int .i64,.str,.tv,.tv,.tv] x1 (fun (n7:Int) (b3 b4:Bool) (s3:B8) (n8 n9 u a3 a1:Int) (s4:B8) (v4 v5 v6:TV)=>CallT PR Bd [(.agg (cV n7 b3 b4 s3 n8 n9 u a3 a1 s4 v4 v5 v6))] [.one (.int .i64)] e (fun (p:Int) o=>(I1 ((i64.wrap (d+p))) ((i64.wrap (b+(1:Int)))) n1 b1 b2 s1 n2 n3 n4 n5 n6 s2 v1 v2 v3 o/\M1 ((i64.wrap (d+p))) ((i64.wrap (b+(1:Int)))) n1 b1 b2 s1 n2 n3 n4 n5 n6 s2 v1 v2 v3 o<M1 d b n1 b1 b2 s1 n2 n3 n4 n5 n6 s2 v1 v2 v3 e)))))) (∃(I2:Int->Int->V13 (St->Prop)) (M2:Int->Int->V13 (St->Nat)),(I2 d 0 n1 b1 b2 s1 n2 n3 n4 n5 n6 s2 v1 v2 v3 e)/\∀f a j b5 b6 s5 m g l i k s6 v7 v8 v9 c,I2 f a j b5 b6 s5 m g l i k s6 v7 v8 v9 c->(need (isSl v9) (BId (a<(lenS v9:Int)) (((0<=a/\a<(lenZ 14 v9:Int))/\need (isPtr (ixT 14 v9 a.toNat)) (Ah (Ac c [] (.t (Am (ixT 14 v9 a.toNat) 0)) 0) (fun (x2:TV)=>Ag .str x2 (fun (s7:B8)=>((0<=a/\a<(lenZ 14 v9:Int))/\need (isPtr (ixT 14 v9 a.toNat)) (Ah ((Ai c [] (.t (Am (ixT 14 v9 a.toNat) 1)) 0 13).map TV.agg) (fun (x3:TV)=>AU [.int .i64,.bool,.bool,.str,.int .i64,.int .i64,.int .i64,.int .i64,.int .i64,.str,.tv,.tv,.tv] x3 (fun (z:Int) (b7 b8:Bool) (s8:B8) (r a0 w x v:Int) (s9:B8) (y a2 s:TV)=>CallT PR Bd [(.agg (cV z b7 b8 s8 r a0 w x v s9 y a2 s))] [.one (.int .i64)] c (fun (q:Int) n=>(Ac n [] (.t (Am (ixT 14 v9 a.toNat) 0)) 0=some (.str s7)/\(I2 ((i64.wrap ((i64.wrap (f+(s7.length:Int)))+q))) ((i64.wrap (a+(1:Int)))) j b5 b6 s5 m g l i k s6 v7 v8 v9 n/\M2 ((i64.wrap ((i64.wrap (f+(s7.length:Int)))+q))) ((i64.wrap (a+(1:Int)))) j b5 b6 s5 m g l i k s6 v7 v8 v9 n<M2 f a j b5 b6 s5 m g l i k s6 v7 v8 v9 c)))))))))))) (K f c)))))))):CallT PR Bd [(.agg (cV v_0 v_1 v_2 v_3 v_4 v_5 v_6 v_7 v_8 v_9 v_10 v_11 v_12))] [.one (.int .i64)] st K:=
 Ae (cfg:=⟨[1],[],[46,54]⟩) (h:=(.seq .none (.seq .none (.seq (.seq .none (.block (.loop ⟨[(3,.int .i64),(4,.int .i64)],[(1,0,0)],[(0,13)],[(0,0,.int .i64),(0,1,.bool),(0,2,.bool),(0,3,.str),(0,4,.int .i64),(0,5,.int .i64),(0,6,.int .i64),(0,7,.int .i64),(0,8,.int .i64),(0,9,.str),(0,10,.tv),(0,11,.tv),(0,12,.tv)]⟩ .none))) (.seq (.seq .none (.block (.loop ⟨[(3,.int .i64),(5,.int .i64)],[(1,0,0)],[(0,13)],[(0,0,.int .i64),(0,1,.bool),(0,2,.bool),(0,3,.str),(0,4,.int .i64),(0,5,.int .i64),(0,6,.int .i64),(0,7,.int .i64),(0,8,.int .i64),(0,9,.str),(0,10,.tv),(0,11,.tv),(0,12,.tv)]⟩ .none))) .none))))) mixed (fun _ _=>Tryz.call85 _ _) Tryz.func85 (by kernel_rfl) (by kernel_rfl) h
end Go.TVF
