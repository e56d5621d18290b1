/- What the laws below rest on: a framework for Go programs, and contracts of the functions that they reach. -/
import Derived.Test.YtbbjecpcjdmfgaaGreatDoorScB
import Derived.Deep.Slices
import Derived.WideShapes
import Derived.ChangeArms
import Derived.OpenShut
import Derived.Test.YtbbjecpcjdmfgaaGreatDoorProg
import Derived.KernelRfl
set_option maxRecDepth 20000
set_option linter.unusedVariables false
set_option linter.unusedSimpArgs false
section
namespace Go.TVF
open Go.IntKind(i64 u8)
open Go.RowKit (Below)
section
variable {P:Program} {g:Ghost} {st:St} {w:World}
theorem Mo {s:Nat} {f:Nat->TV}:∀{ps:List (Nat×CTy)} {rest:List TV} {v:TV},Rq s ps (ps.map (fun p=>f p.1)++rest)=some v->v=f s
 | [],rest,v,h=>by cases rest<;>simp[Rq]at h
 | p::ps,rest,v,h=>by
  simp only[List.map_cons,List.cons_append,Rq]at h
  split at h
  ·rename_i hb;simp only[Option.some.injEq]at h;rw[<-h,Nat.eq_of_beq_eq_true hb]
  ·exact Mo h
theorem K7 {i o:Nat} {f:Nat->Nat->TV}:∀{ps:List (Nat×Nat×CTy)} {v:TV},NQ i o ps (ps.map fun p=>f p.1 p.2.1)=some v->v=f i o
 | [],v,h=>by simp[NQ]at h
 | p::ps,v,h=>by
  simp only[List.map_cons,NQ]at h
  split at h
  ·rename_i hb
   simp only[Bool.and_eq_true]at hb
   simp only[Option.some.injEq]at h;rw[<-h,Nat.eq_of_beq_eq_true hb.1,Nat.eq_of_beq_eq_true hb.2]
  ·exact K7 h
theorem NN {s:Nat}:∀{ps:List (Nat×Nat×Nat)} {q:Nat×Nat},P3 s ps=some q->(s,q)∈ps
 | [],q,h=>by simp[P3]at h
 | p::ps,q,h=>by
  simp only[P3]at h
  split at h
  ·rename_i hb;simp only[Option.some.injEq]at h;subst h;rw[<-Nat.eq_of_beq_eq_true hb];simp
  ·exact List.mem_cons_of_mem _ (NN h)
theorem NP {s:Nat}:∀{ps:List (Nat×Nat)} {q:Nat},K6 s ps=some q->(s,q)∈ps
 | [],q,h=>by simp[K6]at h
 | p::ps,q,h=>by
  simp only[K6]at h
  split at h
  ·rename_i hb;simp only[Option.some.injEq]at h;subst h;rw[<-Nat.eq_of_beq_eq_true hb];simp
  ·exact List.mem_cons_of_mem _ (NP h)
theorem Ik (k:EO) (vals:List TV) (i:Nat):∀n o,(Fb k vals i n o).length=n
 | 0,o=>rfl
 | n+1,o=>by simp[Fb,Ik k vals i n]
theorem K5 (k:EO) (vals:List TV) (i:Nat):∀n o j,j<n->(Fb k vals i n o)[j]? =some (RM k vals i (o+j))
 | 0,o,j,h=>absurd h (Nat.not_lt_zero _)
 | n+1,o,0,h=>by simp[Fb]
 | n+1,o,j+1,h=>by
  simp only[Fb,List.getElem?_cons_succ]
  rw[K5 k vals i n (o+1) j (by omega),show o+1+j=o+(j+1)from by omega]
theorem NJ (k:EO) (vals:List TV):∀n s i x,(Jc k vals n s)[i]? =some (some x)->∃m,K6 (s+i) k.locs=some m/\x=Fb k vals (s+i) m 0
 | 0,s,i,x,h=>by simp[Jc]at h
 | n+1,s,0,x,h=>by
  simp only[Jc,List.getElem?_cons_zero,Option.some.injEq]at h
  split at h
  ·rename_i m hm;simp only[Option.some.injEq]at h;exact⟨m,by simpa using hm,by simpa using h.symm⟩
  ·cases h
 | n+1,s,i+1,x,h=>by
  simp only[Jc,List.getElem?_cons_succ]at h
  obtain⟨m,h1,h2⟩:=NJ k vals n (s+1) i x h
  rw[show s+1+i=s+(i+1)from by omega]at h1 h2
  exact⟨m,h1,h2⟩
theorem Mj (k:EO) (vals:List TV):∀n s i m,i<n->K6 (s+i) k.locs=some m->(Jc k vals n s)[i]? =some (some (Fb k vals (s+i) m 0))
 | 0,s,i,m,h,_=>absurd h (Nat.not_lt_zero _)
 | n+1,s,0,m,h,hm=>by simp only[Jc,List.getElem?_cons_zero,Nat.add_zero]at hm⊢;rw[hm]
 | n+1,s,i+1,m,h,hm=>by
  simp only[Jc,List.getElem?_cons_succ]
  have:=Mj k vals n (s+1) i m (by omega) (by rw[show s+1+i=s+(i+1)from by omega];exact hm)
  rw[show s+1+i=s+(i+1)from by omega]at this
  exact this
theorem Sim.weakLoc {loc loc':List (Option (List TV))} (s:Sim g st loc w) (h:∀(j:Nat) (x':List TV),loc'[j]? =some (some x')->∃x,loc[j]? =some (some x)/\x'.length=x.length/\∀i (hi:i<x'.length),x'[i]? =x[i]?∨x'[i]? =some .junk):Sim g st loc' w:=by
 have hd:∀k,Dom st loc' k->Dom st loc k:=by
  intro k d
  cases k with
  | box i=>exact d
  | loc i=>obtain⟨x',hx'⟩:=d;obtain⟨x,hx,_⟩:=h i x' hx';exact⟨x,hx⟩
 refine⟨s.nb,s.nt,s.below,s.fits,fun k d=>?_,fun k k' d d'=>s.inj k k' (hd k d) (hd k' d'),fun k d=>s.lo k (hd k d),s.own,?_,s.spApart,s.spLt,?_,?_,s.spTop,s.spTy,s.bTy,s.glob⟩
 ·cases k with
  | box i=>exact s.obj (.box i) d
  | loc i=>
   obtain⟨x',hx'⟩:=d
   obtain⟨x,hx,hlen,hel⟩:=h i x' hx'
   have:=s.obj (.loc i) ⟨x,hx⟩
   simp only[A7,hx]at this
   simp only[A7,hx']
   obtain⟨cs,hc,hr⟩:=this
   refine⟨cs,hc,hlen.trans hr.1,fun j hj=>?_⟩
   rcases hel j hj with e | e
   ·have hj':j<x.length:=hlen▸hj
    rw[List.getElem?_eq_getElem hj,List.getElem?_eq_getElem hj']at e
    simp only[Option.some.injEq]at e
    rw[e];exact hr.2 j hj'
   ·rw[List.getElem?_eq_getElem hj]at e
    simp only[Option.some.injEq]at e
    rw[e];exact .junk _
 ·intro id b l h' hsp
  obtain⟨c1,c2,c3,c4,c5⟩:=s.spCell id b l h' hsp
  exact⟨c1,c2,c3,fun k d=>c4 k (hd k d),c5⟩
 ·intro a ha
  obtain⟨c1,c2,c3,c4⟩:=s.sCell a ha
  exact⟨c1,c2,fun k d=>c3 k (hd k d),c4⟩
 ·intro b hb
  obtain⟨c1,c2,c3⟩:=s.protOk b hb
  exact⟨c1,fun k d=>c2 k (hd k d),c3⟩
theorem EO.weak {k:EO} {fr:Fr} {tmps:Array Value} {ns nl:Nat} (hk:k.ok nl fr=true) (s:Sim g st fr.loc w) (hf:FQ g w fr tmps) (hn:tmps.size=ns):
  Sim g st (k.frame ns nl (k.vals fr)).loc w/\FQ g w (k.frame ns nl (k.vals fr)) tmps:=by
 simp only[EO.ok,Bool.and_eq_true,List.all_eq_true]at hk
 obtain⟨hp,hl⟩:=hk
 have hvals:(k.vals fr).drop k.slots.length=k.cells.map fun p=>KZ fr p.1 p.2.1:=by
  unfold EO.vals
  rw[List.drop_append_of_le_length (by simp)]
  simp
 have hloc:∀(j:Nat) (x':List TV),(Jc k (k.vals fr) nl 0)[j]? =some (some x')->∃x,fr.loc[j]? =some (some x)/\x'.length=x.length/\∀i (hi:i<x'.length),x'[i]? =x[i]?∨x'[i]? =some .junk:=by
  intro j x' hx'
  obtain⟨m,hm,rfl⟩:=NJ _ _ _ _ _ _ hx'
  rw[Nat.zero_add]at hm
  have hsz:=hl _ (NP hm)
  unfold Us at hsz
  simp only at hsz
  split at hsz
  ·rename_i x hx
   have hxl:=Nat.eq_of_beq_eq_true hsz
   refine⟨x,hx,by rw[Ik];exact hxl.symm,fun i hi=>?_⟩
   have him:i<m:=by rw[Ik]at hi;exact hi
   rw[K5 _ _ _ _ _ _ him,Nat.zero_add,Nat.zero_add]
   unfold RM
   rw[hvals]
   cases hc:NQ j i k.cells (k.cells.map fun p=>KZ fr p.1 p.2.1)with
   | none=>exact .inr rfl
   | some v=>
    have:=K7 (f:=KZ fr) hc
    left
    have hix:i<x.length:=by omega
    simp only[this,KZ,hx,List.getD_eq_getElem?_getD,List.getElem?_eq_getElem hix,Option.getD_some]
  ·cases hsz
 refine⟨s.weakLoc hloc,hn.symm,fun i=>?_⟩
 ·have hget:(k.frame ns nl (k.vals fr)).slots.f i=Q3 k (k.vals fr) i:=rfl
  rw[hget]
  have hold:=hf.2 i
  unfold Q3
  split
  ·rename_i v hv
   have hv':Rq i k.slots (k.slots.map (fun p=>Kv fr p.1)++k.cells.map fun p=>KZ fr p.1 p.2.1)=some v:=hv
   have:=Mo (f:=Kv fr) hv'
   rw[this]
   show Rel g w (Kv fr i) _
   exact hold.tv
  ·split
   ·rename_i q hq
    obtain⟨hpi,hloc2⟩:=hp _ (NN hq)
    unfold UB at hloc2
    unfold Sp at hpi
    simp only at hpi
    split at hpi
    ·rename_i j p hs
     simp only[Bool.and_eq_true]at hpi
     have e1:=Nat.eq_of_beq_eq_true hpi.1
     have e2:=Nat.eq_of_beq_eq_true hpi.2
     rw[hs]at hold
     obtain⟨⟨x,hx⟩,hv⟩:=hold
     split at hloc2
     ·rename_i m hm
      have hlt:=Nat.le_of_ble_eq_true hloc2
      simp only at hlt hm
      have:=Mj k (k.vals fr) nl 0 q.1 m (by omega) (by rw[Nat.zero_add];exact hm)
      exact⟨⟨_,this⟩,by rw[hv,e1,e2]⟩
     ·cases hloc2
    ·cases hpi
   ·exact Rel.junk _
end
end Go.TVF
end
section
namespace Go.TVF
open Go.IntKind(i64 u8)
open Go.RowKit (Below)
theorem Ph {P:Program} {Q:Exit->Act->World->Prop} {a:Act} {w:World} {c:Code} (I:Nat->Act->World->Prop) (h₀:∃m,I m a w)
  (round:∀m a w,I m a w->c.wp P (Exit.then (fun a' w'=>∃m',m'<m/\I m' a' w') Q) a w):(Code.loop c).wp P Q a w:=by
 intro b k cs
 have key:∀m a w,I m a w->∃e a' w',Q e a' w'/\Arrives P (lone (b.at a (.code c:: .inLoop c::k)) cs w) b k cs e a' w':=by
  intro m
  induction m using Nat.strongRecOn with
  | _ m ih=>
   intro a w hI
   obtain⟨e,a₁,w₁,hq,harr⟩:=round m a w hI b (.inLoop c::k) cs
   cases e with
   | normal=>
    obtain⟨m',hlt,hI₁⟩:=hq
    obtain⟨e₂,a₂,w₂,hq₂,harr₂⟩:=ih m' hlt a₁ w₁ hI₁
    exact⟨e₂,a₂,w₂,hq₂,.of_steps (Steps.trans harr (.one step_inLoop)) harr₂⟩
   | exit id=>exact⟨_,a₁,w₁,hq,.pass (x:= .inLoop c) rfl (fun _ _=> .inl (by simp)) harr⟩
   | goto l=>exact⟨_,a₁,w₁,hq,.pass (x:= .inLoop c) rfl (fun _ _=> .inl (by simp)) harr⟩
   | ret=>exact⟨_,a₁,w₁,hq,.pass (x:= .inLoop c) rfl (fun _ _=> .inl (by simp)) harr⟩
   | panic ch=>exact⟨_,a₁,w₁,hq,.pass (x:= .inLoop c) rfl (fun _ _=> .inl (by simp)) harr⟩
   | outgrown=>exact⟨_,a₁,w₁,hq,.pass (x:= .inLoop c) rfl (fun _ _=> .inl (by simp)) harr⟩
 obtain⟨m,hm⟩:=h₀
 obtain⟨e,a',w',hq,harr⟩:=key m a w hm
 exact⟨e,a',w',hq,.of_steps (.one step_loop) harr⟩
theorem MS:∀{cs:List CTy} {vs:List TV} {I:Fun cs (St->Prop)} {M:Fun cs (St->Nat)} {B:List TV->Nat->St->Prop} {st:St},AllC cs I M B->Jl cs vs I (fun p=>p st)->∃m,B vs m st
 | [],[],I,M,B,st,h,hd=>⟨_,h st hd⟩
 | [],_::_,I,M,B,st,h,hd=>hd.elim
 | _::_,[],I,M,B,st,h,hd=>hd.elim
 | c::cs,v::vs,I,M,B,st,h,hd=>by
  obtain⟨y,rfl,hd2⟩:=DU hd
  exact MS (B:=fun l=>B (enc c y::l)) (h y) hd2
theorem Of:∀{cs:List CTy} {vs:List TV} {I:Fun cs (St->Prop)} {M:Fun cs (St->Nat)} {B:List TV->Nat->St->Prop} {st:St} {m:Nat},AllC cs I M B->Qv cs vs I M (fun p q=>p st/\q st<m)->∃m',m'<m/\B vs m' st
 | [],[],I,M,B,st,m,h,hd=>⟨_,hd.2,h st hd.1⟩
 | [],_::_,I,M,B,st,m,h,hd=>hd.elim
 | _::_,[],I,M,B,st,m,h,hd=>hd.elim
 | c::cs,v::vs,I,M,B,st,m,h,hd=>by
  obtain⟨y,rfl,hd2⟩:=DU hd
  exact Of (B:=fun l=>B (enc c y::l)) (h y) hd2
theorem Le:∀{cs:List CTy} {vs:List TV} {I:Fun cs (St->Prop)} {B:List TV->St->Prop} {st:St},Vi cs I B->Jl cs vs I (fun p=>p st)->B vs st
 | [],[],I,B,st,h,hd=>h st hd
 | [],_::_,I,B,st,h,hd=>hd.elim
 | _::_,[],I,B,st,h,hd=>hd.elim
 | c::cs,v::vs,I,B,st,h,hd=>by
  obtain⟨y,rfl,hd2⟩:=DU hd
  exact Le (B:=fun l=>B (enc c y::l)) (h y) hd2
def QPost (g:Ghost) (w:World) (a0:Act) (Q:Exit->Fr->St->Prop) (e:Exit) (a:Act) (w':World):Prop:=Jm g w a0 (Q e) a w'
section
variable {P:Program} {cfg:Cfg} {ns nl:Nat}
theorem Tt (hm:P.follows .mixedOrders=true):∀(c:Code) (h:Iz) (Q:Exit->Fr->St->Prop) (fr:Fr) (st:St) (g:Ghost) (w:World) (a:Act),cwp cfg P ns nl c h Q fr st->Sim g st fr.loc w->FQ g w fr a.tmps->a.tmps.size=ns->
  c.wp P (QPost g w a Q) a w:=by
 intro c
 induction c with
 | skip=>intro h Q fr st g w a hc s hf hn;exact wp_skip ⟨fr,st,g,hc,s,hf,Ext.refl _ _,rfl,rfl⟩
 | region id ops draw=>
  intro h Q fr st g w a hc s hf hn
  cases draw with
  | false=>exact wp_region_list (K3 ops.toList fr st g w a hc s hf fun a' w' hp=>hp)
  | true=>exact OW hm hc s hf fun a' w' hp=>hp
 | seq x y ihx ihy=>
  intro h Q fr st g w a hc s hf hn
  have key:∀(hx hy:Iz),cwp cfg P ns nl x hx (Pr (cwp cfg P ns nl y hy Q) Q) fr st->(Code.seq x y).wp P (QPost g w a Q) a w:=by
   intro hx hy hcx
   refine wp_seq (wp_mono (ihx hx _ fr st g w a hcx s hf hn) fun e a' w' hq=>?_)
   obtain⟨fr',st',g',h1,h2,h3,h4,h5⟩:=hq
   cases e with
   | normal=>
    refine wp_mono (ihy hy Q fr' st' g' w' a' h1 h2 h3 (h5.2.trans hn)) fun e a'' w'' hq2=>?_
    exact hq2.ext h4 h5
   | _=>exact⟨fr',st',g',h1,h2,h3,h4,h5⟩
  cases h with
  | cut k hx hy=>
   obtain⟨R,h1,h2⟩:=hc
   refine wp_seq (wp_mono (ihx hx _ fr st g w a h1 s hf hn) fun e a' w' hq=>?_)
   obtain⟨fr',st',g',q1,q2,q3,q4,q5⟩:=hq
   cases e with
   | normal=>
    have q1':need (k.ok nl fr') (Jl k.tys (k.vals fr') R fun p=>p st'):=q1
    rw[Ak]at q1'
    obtain⟨w1,w2⟩:=EO.weak (ns:=ns) q1'.1 q2 q3 (q5.2.trans hn)
    have hb:=Le h2 q1'.2
    exact wp_mono (ihy hy Q _ st' g' w' a' hb w1 w2 (q5.2.trans hn)) fun e a'' w'' hq2=>hq2.ext q4 q5
   | _=>exact⟨fr',st',g',q1,q2,q3,q4,q5⟩
  | none=>exact key _ _ hc
  | seq p q=>exact key _ _ hc
  | cond p q=>exact key _ _ hc
  | block p=>exact key _ _ hc
  | loop k p=>exact key _ _ hc
 | cond c x y ihx ihy=>
  intro h Q fr st g w a hc s hf hn
  simp only[cwp]at hc
  split at hc
  ·rename_i b hb
   have hr:=OD hf c
   rw[hb]at hr
   have hr':Rel g w (.bool b) (a.eval c):=hr
   have hev:a.eval c= .bool b:=by generalize a.eval c=q at hr';cases hr';rfl
   cases b with
   | true=>exact wp_cond_true hev (ihx h.l Q fr st g w a hc s hf hn)
   | false=>exact wp_cond_false hev (ihy h.r Q fr st g w a hc s hf hn)
  ·exact hc.elim
 | block id x ih=>
  intro h Q fr st g w a hc s hf hn
  refine wp_block (wp_mono (ih h.l (RQ id Q) fr st g w a hc s hf hn) fun e a' w' hq=>?_)
  obtain⟨fr',st',g',h1,h2,h3,h4,h5⟩:=hq
  cases e with
  | exit id'=>
   simp only[RQ]at h1
   by_cases hid:id'=id
   ·subst hid
    have hbe:(id'.beq id')=true:=Nat.beq_refl id'
    simp only[hbe]at h1
    simp only[Exit.inBlock,if_true]
    exact⟨fr',st',g',h1,h2,h3,h4,h5⟩
   ·have hbe:(id'.beq id)=false:=by
     cases hq:id'.beq id with
     | false=>rfl
     | true=>exact absurd (Nat.eq_of_beq_eq_true hq) hid
    simp only[hbe]at h1
    simp only[Exit.inBlock,hid,if_false]
    exact⟨fr',st',g',h1,h2,h3,h4,h5⟩
  | _=>exact⟨fr',st',g',h1,h2,h3,h4,h5⟩
 | loop x ih=>
  intro h Q fr st g w a hc s hf hn
  cases h with
  | loop k hx=>
   obtain⟨I,M,h1,h2⟩:=hc
   rw[Ak]at h1
   refine Ph (fun m a' w'=>∃vals st' g',cwp cfg P ns nl x hx (Pr (fun fr st=>need (k.ok nl fr) (Qv k.tys (k.vals fr) I M fun p q=>p st/\q st<m)) Q) (k.frame ns nl vals) st'/\
    Sim g' st' (k.frame ns nl vals).loc w'/\FQ g' w' (k.frame ns nl vals) a'.tmps/\Ext g w g' w'/\a'.defers=a.defers/\a'.tmps.size=a.tmps.size) ?_ ?_
   ·obtain⟨m,hm⟩:=MS h2 h1.2
    obtain⟨w1,w2⟩:=EO.weak (ns:=ns) h1.1 s hf hn
    exact⟨m,_,st,g,hm,w1,w2,Ext.refl _ _,rfl,rfl⟩
   ·rintro m a' w' ⟨vals,st',g',q1,q2,q3,q4,q5⟩
    refine wp_mono (ih hx _ _ st' g' w' a' q1 q2 q3 (q5.2.trans hn)) fun e a'' w'' hq=>?_
    obtain⟨fr2,st2,g2,r1,r2,r3,r4,r5⟩:=hq
    cases e with
    | normal=>
     have r1':need (k.ok nl fr2) (Qv k.tys (k.vals fr2) I M fun p q=>p st2/\q st2<m):=r1
     rw[Ak]at r1'
     obtain⟨m',hlt,hB⟩:=Of h2 r1'.2
     obtain⟨w1,w2⟩:=EO.weak (ns:=ns) r1'.1 r2 r3 (r5.2.trans (q5.2.trans hn))
     exact⟨m',hlt,_,st2,g2,hB,w1,w2,q4.trans r4,r5.1.trans q5.1,r5.2.trans q5.2⟩
    | _=>exact⟨fr2,st2,g2,r1,r2,r3,q4.trans r4,r5.1.trans q5.1,r5.2.trans q5.2⟩
  | _=>exact hc.elim
 | exit id=>intro h Q fr st g w a hc s hf hn;exact wp_exit ⟨fr,st,g,hc,s,hf,Ext.refl _ _,rfl,rfl⟩
 | ret=>intro h Q fr st g w a hc s hf hn;exact wp_ret ⟨fr,st,g,hc,s,hf,Ext.refl _ _,rfl,rfl⟩
 | _=>intro h Q fr st g w a hc s hf hn;exact hc.elim
def KF (P:Program) (fr:Fr) (st:St):ResultVar->Option TV
 | .tmp t=>some (Kv fr t)
 | .cell a t=>match JI P t with
  | some true=>match P.cellsOf t with
   | 0=>none
   | n=>(Al st fr.loc (fr.slots.f a) 0 n).map .agg
  | some false=>Ac st fr.loc (fr.slots.f a) 0
  | none=>none
def Ig (P:Program) (fr:Fr) (st:St):List ResultVar->Option (List TV)
 | []=>some []
 | r::rs=>match KF P fr st r with
  | some v=>(Ig P fr st rs).map (v::·)
  | none=>none
def QX:List TV->TV
 | [v]=>v
 | vs=> .tuple vs
def resT (P:Program) (fn:Func) (fr:Fr) (st:St):Option TV:=(Ig P fr st fn.results.toList).map QX
def OF (P:Program) (fr:Fr) (st:St) (r:ResultVar) (k:TV->Prop):Prop:=
 match r with
 | .tmp t=>k (Kv fr t)
 | .cell a t=>match JI P t with
  | some true=>match P.cellsOf t with
   | 0=>False
   | n=>Ai ((Al st fr.loc (fr.slots.f a) 0 n).map .agg) k
  | some false=>Ai (Ac st fr.loc (fr.slots.f a) 0) k
  | none=>False
def J0 (P:Program) (fr:Fr) (st:St):List ResultVar->(List TV->Prop)->Prop
 | [],k=>k []
 | r::rs,k=>OF P fr st r fun v=>J0 P fr st rs fun vs=>k (v::vs)
theorem Nd {P:Program} {fr:Fr} {st:St} {r:ResultVar} {k:TV->Prop} (h:OF P fr st r k):∃v,KF P fr st r=some v/\k v:=by
 cases r with
 | tmp t=>exact⟨_,rfl,h⟩
 | cell a t=>
  unfold OF at h
  unfold KF
  simp only at h⊢
  cases ha:JI P t with
  | none=>rw[ha]at h;exact h.elim
  | some b=>
   rw[ha]at h
   cases b with
   | true=>
    simp only at h⊢
    cases hn:P.cellsOf t with
    | zero=>rw[hn]at h;exact h.elim
    | succ n=>
     rw[hn]at h
     exact Cb.1 h
   | false=>exact Cb.1 h
theorem Jb {P:Program} {fr:Fr} {st:St}:∀{rs:List ResultVar} {k:List TV->Prop},J0 P fr st rs k->∃vs,Ig P fr st rs=some vs/\k vs
 | [],k,h=>⟨[],rfl,h⟩
 | r::rs,k,h=>by
  obtain⟨v,h1,h2⟩:=Nd h
  obtain⟨vs,h3,h4⟩:=Jb h2
  exact⟨v::vs,by simp[Ig,h1,h3],h4⟩
def retQ (P:Program) (fn:Func) (R:TV->St->Prop):Exit->Fr->St->Prop
 | .normal,fr,st=>J0 P fr st fn.results.toList fun vs=>R (QX vs) st
 | .ret,fr,st=>J0 P fr st fn.results.toList fun vs=>R (QX vs) st
 | _,_,_=>False
def Hc (cfg:Cfg) (fn:Func) (args:List TV):Fr:=⟨⟨fn.ntmps,fun i=>match args[i]? with | some v=> .t v | none=> .t .undef⟩,cfg.loc.map fun _=>none⟩
theorem OE {g:Ghost} {st:St} {w:World} {fr:Fr} {tmps:Array Value} (s:Sim g st fr.loc w) (hf:FQ g w fr tmps) {r:ResultVar} {v:TV} (h:KF P fr st r=some v):
  ∃u,(match r with | .tmp t=>pure (tmps.getD t Go.undef) | .cell a t=>do loadVar t (<-asAddr (tmps.getD a Go.undef)):Sem Value).run P w= .ok u w/\Rel g w v u:=by
 cases r with
 | tmp t=>
  simp only[KF,Option.some.injEq]at h
  subst h
  exact⟨_,rfl,(hf.2 t).tv⟩
 | cell a t=>
  simp only[KF]at h
  have hld:∀p,Bo g w fr.loc p (tmps.getD a Go.undef)->(D8 P st fr.loc t p).Is (.t v)->∃u,(do loadVar t (<-asAddr (tmps.getD a Go.undef)):Sem Value).run P w= .ok u w/\Rel g w v u:=by
   intro p hp hl
   have hl':=hl
   obtain⟨u,hu,hr⟩:=Mp (P:=P) s hp hl'
   have hsa:(Instr.loadAt t (tmps.getD a Go.undef)).run P w=(do loadVar t (<-asAddr (tmps.getD a Go.undef)):Sem Value).run P w:=by
    generalize hq:tmps.getD a Go.undef=q at hp hu
    simp only[Instr.loadAt,Sem.run_bind]
    cases q with
    | pointer o=>cases o with
     | none=>simp[Instr.loadAt,Instr.sureAddr]at hu
     | some ad=>simp[Instr.sureAddr,asAddr]
    | _=>simp[Instr.loadAt,Instr.sureAddr]at hu
   exact⟨u,by rw[<-hsa];exact hu,hr⟩
  split at h
  ·rename_i ha
   split at h
   ·cases h
   ·rename_i n hn
    refine hld _ (hf.2 a) ?_
    unfold D8
    rw[ha]
    exact⟨v,by
     split
     ·rename_i h0;exact absurd h0 hn
     ·exact h,rfl⟩
  ·rename_i ha
   refine hld _ (hf.2 a) ?_
   unfold D8
   rw[ha]
   exact⟨v,h,rfl⟩
  ·cases h
theorem JZ {g:Ghost} {st:St} {w:World} {fr:Fr} {tmps:Array Value} (s:Sim g st fr.loc w) (hf:FQ g w fr tmps):∀{rs:List ResultVar} {vs:List TV},Ig P fr st rs=some vs->
  ∃us:List Value,(rs.mapM (fun r=>match r with | .tmp t=>pure (tmps.getD t Go.undef) | .cell a t=>do loadVar t (<-asAddr (tmps.getD a Go.undef))):Sem (List Value)).run P w= .ok us w/\AH g w vs us
 | [],vs,h=>by simp only[Ig,Option.some.injEq]at h;subst h;exact⟨[],rfl,.nil _ _⟩
 | r::rs,vs,h=>by
  simp only[Ig]at h
  split at h
  ·rename_i v hv
   obtain⟨vs',hvs',rfl⟩:=Option.map_eq_some_iff.1 h
   obtain⟨u,hu,hr⟩:=OE s hf hv
   obtain⟨us,hus,hrs⟩:=JZ s hf hvs'
   refine⟨u::us,?_,.cons hr hrs⟩
   rw[List.mapM_cons]
   simp only[Sem.run_bind,hu,Result.andThen_ok,hus,Sem.run_pure]
  ·cases h
theorem Q9 {g:Ghost} {st:St} {w:World} {fr:Fr} {tmps:Array Value} (s:Sim g st fr.loc w) (hf:FQ g w fr tmps) {fn:Func} {v:TV} (h:resT P fn fr st=some v):∃u,(results fn tmps).run P w= .ok u w/\Rel g w v u:=by
 unfold resT at h
 cases hr:Ig P fr st fn.results.toList with
 | none=>rw[hr]at h;cases h
 | some vs=>
  rw[hr]at h
  obtain⟨us,hus,hrel⟩:=JZ s hf hr
  have hrun:(fn.results.mapM (fun r=>match r with | .tmp t=>pure (tmps.getD t Go.undef) | .cell a t=>do loadVar t (<-asAddr (tmps.getD a Go.undef))):Sem (Array Value)).run P w= .ok us.toArray w:=by
   rw[<-Array.toArray_toList (xs:=fn.results),List.mapM_toArray]
   simp only[Sem.run_map,hus,Result.andThen_ok]
  refine⟨if h:us.toArray.size=1 then us.toArray[0]else .tuple us.toArray,?_,?_⟩
  ·have hres:results fn tmps=(do
     let vs<-(fn.results.mapM (fun r=>match r with | .tmp t=>pure (tmps.getD t Go.undef) | .cell a t=>do loadVar t (<-asAddr (tmps.getD a Go.undef))):Sem (Array Value))
     pure (if h:vs.size=1 then vs[0]else .tuple vs)):=rfl
   rw[hres,Sem.run_bind,hrun]
   rfl
  ·cases vs with
   | nil=>
    simp only[Option.map_some,Option.some.injEq,QX]at h;subst h
    have:us=[]:=List.eq_nil_of_length_eq_zero hrel.1.symm
    subst this
    exact Rel.tuple [] [] rfl (fun i hi=>absurd hi (Nat.not_lt_zero _))
   | cons v1 vs1=>cases vs1 with
    | nil=>
     simp only[Option.map_some,Option.some.injEq,QX]at h;subst h
     cases us with
     | nil=>have:=hrel.1;simp at this
     | cons u1 us1=>
      have:us1=[]:=List.eq_nil_of_length_eq_zero (by have:=hrel.1;simpa using this.symm)
      subst this
      simpa using hrel.2 0 (by simp)
    | cons v2 vs2=>
     simp only[Option.map_some,Option.some.injEq,QX]at h;subst h
     have hl:us.toArray.size≠1:=by have:=hrel.1;simp at this⊢;omega
     rw[dif_neg hl]
     exact Rel.tuple _ us hrel.1 hrel.2
theorem SO (hm:P.follows .mixedOrders=true) {f:FuncId} {fn:Func} {c:Code} (hcall:∀(vs:Array Value) (w:World),(callFunc f vs).run P w= .ok (.enter f vs) w) (hf:P.funcs[f]? =some fn) (hb:fn.body=some c)
  (cfg:Cfg) (h:Iz) {args:List TV} {st:St} {R:TV->St->Prop} (hn:args.length<=fn.ntmps)
  (hc:cwp cfg P fn.ntmps cfg.loc.length c h (retQ P fn R) (Hc cfg fn args) st):DK P f args st R:=by
 refine G1 hcall fun g w vargs s hr=>?_
 refine calls_of_wp hf hb ?_
 have hlen:vargs.length=args.length:=hr.1.symm
 have hsize:(vargs.toArray++Array.replicate (fn.ntmps-vargs.toArray.size) Go.undef).size=fn.ntmps:=by simp;omega
 have hsim:Sim g st (Hc cfg fn args).loc w:=s.weakLoc fun j x' hx'=>by
  simp only[Hc,List.getElem?_map]at hx'
  cases hq:cfg.loc[j]? with
  | none=>rw[hq]at hx';cases hx'
  | some q=>rw[hq]at hx';simp at hx'
 have hfr:FQ g w (Hc cfg fn args) (vargs.toArray++Array.replicate (fn.ntmps-vargs.toArray.size) Go.undef):=by
  refine⟨by rw[hsize];rfl,fun i=>?_⟩
  by_cases hia:i<args.length
  ·have h1:(Hc cfg fn args).slots.f i= .t args[i]:=by simp[Hc,hia]
   have h2:(vargs.toArray++Array.replicate (fn.ntmps-vargs.toArray.size) Go.undef).getD i Go.undef=vargs.getD i Go.undef:=by
    have:i<vargs.length:=by omega
    have hin:i<fn.ntmps:=by omega
    simp[Array.getD,Array.getElem_append,this,hin,List.getD_eq_getElem?_getD]
    omega
   rw[h1,h2]
   exact hr.2 i hia
  ·have h1:(Hc cfg fn args).slots.f i= .t .undef:=by simp[Hc,hia]
   have h2:(vargs.toArray++Array.replicate (fn.ntmps-vargs.toArray.size) Go.undef).getD i Go.undef=Go.undef:=by
    have:¬i<vargs.length:=by omega
    simp[Array.getD,Array.getElem_append,this]
   rw[h1,h2]
   exact Rel.undef
 refine wp_mono (Tt hm c h _ _ st g w {tmps:=vargs.toArray++Array.replicate (fn.ntmps-vargs.toArray.size) Go.undef,defers:=[]} hc hsim hfr hsize) fun e a' w' hq=>?_
 obtain⟨fr',st',g',h1,h2,h3,h4,h5,h6⟩:=hq
 have fin:J0 P fr' st' fn.results.toList (fun vs=>R (QX vs) st')->a'.defers=[]/\∃v,(results fn a'.tmps).run P w'= .ok v w'/\∃v',Ending.returned v= .returned v'/\∃r st' g',R r st'/\Sim g' st' [] w'/\Rel g' w' r v'/\Ext g w g' w':=by
  intro ho
  obtain⟨vs,hvs,hR⟩:=Jb ho
  obtain⟨u,hu,hrel⟩:=Q9 (fn:=fn) h2 h3 (by unfold resT;rw[hvs];rfl)
  exact⟨h5,u,hu,u,rfl,_,st',g',hR,h2.dropLoc (fun j x hx=>by simp at hx),hrel,h4⟩
 cases e with
 | normal=>exact fin h1
 | ret=>exact fin h1
 | _=>exact h1.elim
def St.zero:St:={nb:=0,box:=fun _=> .dead,nt:=0,live:=fun _=>false,ty:=fun _=>none,bt:=fun _=>none}
def Ghost.start (w:World):Ghost:={base:=w.heap.size,w0:=w,nb:=0,bk:=fun _=>0,lam:=fun _=>0,nt:=0,sp:=fun _=>none,S:=fun a=>a.spot=none/\∃v,w.cell? a=some v,prot:=fun _=>False}
theorem Sim.start (w:World) (hG:∀w',Below w.heap.size w w'->Pd w'):Sim (Ghost.start w) St.zero [] w:=by
 have hd:∀k,¬Dom St.zero [] k:=by
  intro k d
  cases k with
  | box i=>exact absurd d (Nat.not_lt_zero _)
  | loc i=>obtain⟨x,hx⟩:=d;simp at hx
 exact⟨rfl,rfl,Below.refl _ _,Nat.le_refl _,fun k d=>absurd d (hd k),fun k k' d=>absurd d (hd k),fun k d=>absurd d (hd k),fun id h=>absurd h (Nat.not_lt_zero _),
  fun id b l h hh=>(by cases hh),fun i j b l h l' h' _ hh=>(by cases hh),fun id _=>rfl,fun a ha=>⟨ha.1,ha.2,fun k d=>absurd d (hd k),fun id l h hh=>(by cases hh)⟩,fun b hb=>hb.elim,fun id b l h hh=>(by cases hh),fun id b l h T hh=>(by cases hh),fun b T hb=>absurd hb (Nat.not_lt_zero _),hG⟩
theorem RN {f:FuncId} {args:List TV} (hcall:∀(vs:Array Value) (w:World),(callFunc f vs).run P w= .ok (.enter f vs) w) (h:DK P f args St.zero fun r _=>r= .bool true) (w:World) (hG:∀w',Below w.heap.size w w'->Pd w') (vargs:List Value) (hr:AH (Ghost.start w) w args vargs):
  Calls P f vargs.toArray w fun e w'=>e= .returned (.bool true)/\Below w.heap.size w w':=by
 have h1:=h.run (Ghost.start w) w vargs (Sim.start w hG) hr
 unfold C5 at h1
 rw[hcall]at h1
 refine Calls.mono h1 ?_
 rintro e w' ⟨v,rfl,r,st',g',rfl,s',hrel,e'⟩
 have hb:=s'.below
 rw[e'.base,e'.w0]at hb
 cases hrel
 exact⟨rfl,hb⟩
end
def RP (fn:Func):Code:=match fn.body with | some c=>c | none=> .skip
def Fw (cfg:Cfg) (P:Program) (h:Iz) (fn:Func) (args:List TV) (st:St) (R:TV->St->Prop):Prop:=
 cwp cfg P fn.ntmps cfg.loc.length (RP fn) h (retQ P fn R) (Hc cfg fn args) st
def fits (fn:Func) (args:List TV):Bool:=(fn.body.isSome).and (args.length.ble fn.ntmps)
theorem Af {P:Program} (hm:P.follows .mixedOrders=true) {f:FuncId} {fn:Func} (hcall:∀(vs:Array Value) (w:World),(callFunc f vs).run P w= .ok (.enter f vs) w) (hf:P.funcs[f]? =some fn)
  {cfg:Cfg} {h:Iz} {args:List TV} {st:St} {R:TV->St->Prop} (hn:fits fn args=true) {V:Prop} (he:Fw cfg P h fn args st R=V) (hV:V):DK P f args st R:=by
 simp only[fits,Bool.and_eq_true]at hn
 obtain⟨c,hc⟩:=Option.isSome_iff_exists.1 hn.1
 have hb:fn.body=some (RP fn):=by rw[RP,hc]
 rw[<-he]at hV
 exact SO hm hcall hf hb cfg h (Nat.le_of_ble_eq_true hn.2) hV
def BG (cs:List CTy) (v:TV) (f:Fun cs Prop):Prop:=
 match v with
 | .agg l=>decL cs l f
 | _=>False
def stB (st:St) (p:TV) (xs:List TV) (k:St->Prop):Prop:=
 match p with
 | .box b off=>∃l,st.box b= .cells l/\off+xs.length<=l.length/\k (st.put b (.cells (setAll l off xs)))
 | _=>False
theorem Ab {p:Prop} [Decidable p] {x y:Prop} (h1:p->x) (h2:¬p->y):BIf (decide p) x y:=by
 by_cases h:p
 ·simp only[h,decide_true,BIf];exact h1 h
 ·simp only[h,decide_false,BIf];exact h2 h
theorem As {b:Bool} {x y:Prop} (h1:b=true->x) (h2:b=false->y):BIf b x y:=by
 cases b
 ·exact h2 rfl
 ·exact h1 rfl
end Go.TVF
end
section
namespace Go.TVF
open Go.IntKind(i64 u8)
structure Aj (a b:St):Prop where
 nb:a.nb<=b.nb
 box:∀i,i<a.nb->b.box i=a.box i
 nt:a.nt<=b.nt
 live:∀i,i<a.nt->b.live i=a.live i
 ty:∀i,i<a.nt->b.ty i=a.ty i
 bt:∀i,i<a.nb->b.bt i=a.bt i
theorem Aj.refl (a:St):Aj a a:=⟨Nat.le_refl _,fun _ _=>rfl,Nat.le_refl _,fun _ _=>rfl,fun _ _=>rfl,fun _ _=>rfl⟩
theorem Aj.trans {a b c:St} (h:Aj a b) (k:Aj b c):Aj a c:=
 ⟨Nat.le_trans h.nb k.nb,fun i hi=>(k.box i (Nat.lt_of_lt_of_le hi h.nb)).trans (h.box i hi),Nat.le_trans h.nt k.nt,fun i hi=>(k.live i (Nat.lt_of_lt_of_le hi h.nt)).trans (h.live i hi),fun i hi=>(k.ty i (Nat.lt_of_lt_of_le hi h.nt)).trans (h.ty i hi),fun i hi=>(k.bt i (Nat.lt_of_lt_of_le hi h.nb)).trans (h.bt i hi)⟩
theorem Aj.fresh {a b:St} (h:Aj a b) (T:Option Nat):Aj a (b.fresh T):=
 h.trans ⟨Nat.le_refl _,fun _ _=>rfl,Nat.le_succ _,fun i hi=>by simp only[St.fresh];rw[if_neg (by omega)],fun i hi=>by simp only[St.fresh];rw[if_neg (by omega)],fun _ _=>rfl⟩
theorem Aj.push {a b:St} (h:Aj a b) (o:Kj) (T:Option Nat):Aj a (b.push o T):=
 h.trans ⟨Nat.le_succ _,fun i hi=>by simp only[St.push];rw[if_neg (by omega)],Nat.le_refl _,fun _ _=>rfl,fun _ _=>rfl,fun i hi=>by simp only[St.push];rw[if_neg (by omega)]⟩
theorem Aj.retire {a b:St} (h:Aj a b) {id:Nat} (hid:a.nt<=id):Aj a (b.retire id):=
 ⟨h.nb,h.box,h.nt,fun i hi=>by simp only[St.retire];rw[if_neg (by omega)];exact h.live i hi,h.ty,h.bt⟩
theorem Je (l:B8):(AR l).length=l.length:=by simp[AR]
theorem Iw:∀l:B8,Fl (AR l)=some l
 | []=>rfl
 | c::l=>by
  have:=Iw l
  simp only[AR]at this
  simp[AR,Fl,Kh,RT,this]
def Rd (sz:Nat) (v:TV) (n:Nat) (xs:List TV):Prop:=
 (v= .nilSlice/\n=0/\xs=[])∨∃tip,v= .list sz tip n xs
def Own (b sz:Nat) (st:St) (v:TV) (n:Nat) (xs:List TV):Prop:=
 (v= .nilSlice/\n=0/\xs=[])∨∃tip,v= .list sz tip n xs/\(tip= .full∨∃id,tip= .own id/\b<=id/\id<st.nt/\st.live id=true)
theorem Own.rd {b sz:Nat} {st:St} {v:TV} {n:Nat} {xs:List TV} (h:Own b sz st v n xs):Rd sz v n xs:=by
 rcases h with h | ⟨tip,h,_⟩
 ·exact .inl h
 ·exact .inr ⟨tip,h⟩
theorem Own.ext {b sz:Nat} {st st':St} {v:TV} {n:Nat} {xs:List TV} (h:Own b sz st v n xs) (e:Aj st st'):Own b sz st' v n xs:=by
 rcases h with h | ⟨tip,h,ht | ⟨id,h1,h2,h3,h4⟩⟩
 ·exact .inl h
 ·exact .inr ⟨tip,h,.inl ht⟩
 ·exact .inr ⟨tip,h,.inr ⟨id,h1,h2,Nat.lt_of_lt_of_le h3 e.nt,(e.live id h3).trans h4⟩⟩
theorem Own.nil (b sz:Nat) (st:St):Own b sz st .nilSlice 0 []:= .inl ⟨rfl,rfl,rfl⟩
theorem Own.full (b sz:Nat) (st:St) (n:Nat) (xs:List TV):Own b sz st (.list sz .full n xs) n xs:= .inr ⟨_,rfl,.inl rfl⟩
theorem Own.fresh {b sz:Nat} {st:St} {T:Option Nat} (n:Nat) (xs:List TV) (hb:b<=st.nt):Own b sz (st.fresh T) (.list sz (.own st.nt) n xs) n xs:=
 .inr ⟨_,rfl,.inr ⟨st.nt,rfl,hb,Nat.lt_succ_self _,by simp[St.fresh]⟩⟩
theorem Rd.isSl {sz:Nat} {v:TV} {n:Nat} {xs:List TV} (h:Rd sz v n xs):TVF.isSl v=true:=by
 rcases h with⟨rfl,_⟩ | ⟨tip,rfl⟩<;>rfl
theorem Rd.lenS {sz:Nat} {v:TV} {n:Nat} {xs:List TV} (h:Rd sz v n xs):TVF.lenS v=n:=by
 rcases h with⟨rfl,rfl,_⟩ | ⟨tip,rfl⟩<;>rfl
theorem Rd.lenZ {sz:Nat} {v:TV} {n:Nat} {xs:List TV} (h:Rd sz v n xs):TVF.lenZ sz v=n:=by
 rcases h with⟨rfl,rfl,_⟩ | ⟨tip,rfl⟩
 ·rfl
 ·simp[TVF.lenZ]
theorem Rd.isLst {sz:Nat} {v:TV} {n:Nat} {xs:List TV} (h:Rd sz v n xs):TVF.isLst sz v=true:=by
 rcases h with⟨rfl,rfl,_⟩ | ⟨tip,rfl⟩
 ·rfl
 ·simp[TVF.isLst]
theorem Rd.one {sz:Nat} {v:TV} {n:Nat} {xs:List TV} (h:Rd sz v n xs):Ah v=true:=by
 rcases h with⟨rfl,rfl,_⟩ | ⟨tip,rfl⟩<;>rfl
theorem Rd.ld {sz:Nat} {v:TV} {n:Nat} {xs:List TV} (h:Rd sz v n xs) (st:St) (i j:Nat) (hi:i*sz+j<xs.length):Ac st [] (.t (ixT sz v i)) j=some xs[i*sz+j]:=by
 rcases h with⟨rfl,rfl,rfl⟩ | ⟨tip,rfl⟩
 ·simp at hi
 ·simp[Ac,ixT,hi]
theorem Rd.ldf {sz:Nat} {v:TV} {n:Nat} {xs:List TV} (h:Rd sz v n xs) (st:St) (i f:Nat) (hi:i*sz+f<xs.length):Ac st [] (.t (At (ixT sz v i) f)) 0=some xs[i*sz+f]:=by
 rcases h with⟨rfl,rfl,rfl⟩ | ⟨tip,rfl⟩
 ·simp at hi
 ·simp[Ac,ixT,At,hi]
theorem Ix {T b sz bytes:Nat} {st0 st:St} {v:TV} {n k:Nat} {xs ys:List TV} {K:TV->St->Prop} (e:Aj st0 st) (hb:b=st0.nt) (h:Own b sz st v n xs) (hby:(n+k)*bytes<=140737488355328) (hys:k=0->ys=[])
  (hK:∀v' st',Aj st0 st'->st'.box=st.box->Own b sz st' v' (n+k) (xs++ys)->K v' st'):Cl T sz bytes v k ys st K:=by
 subst hb
 rcases h with⟨rfl,rfl,rfl⟩ | ⟨tip,rfl,ht⟩
 ·simp only[Cl]
  cases k with
  | zero=>rw[hys rfl]at hK;exact hK _ _ e rfl (.nil _ _ _)
  | succ m=>
   simp only[Ak]
   refine⟨by simpa using hby,hK _ _ (e.fresh _) rfl ?_⟩
   simp only[List.nil_append,Nat.zero_add]
   exact Own.fresh _ _ e.nt
 ·simp only[Cl,Nat.beq_refl]
  refine⟨hby,?_⟩
  rcases ht with rfl | ⟨id,rfl,h1,h2,h3⟩
  ·cases k with
   | zero=>rw[hys rfl]at hK;simp only[List.append_nil]at hK;exact hK _ _ e rfl (Own.full _ _ _ _ _)
   | succ m=>exact hK _ _ (e.fresh _) rfl (Own.fresh _ _ e.nt)
  ·exact⟨h3,hK _ _ ((e.retire h1).fresh _) rfl (Own.fresh (st:=st.retire id) _ _ e.nt)⟩
theorem Aa {b:Bool} {k:Prop} (h:b=true) (hk:k):need b k:=Ak.2 ⟨h,hk⟩
theorem Ad {α:Type} {o:Option α} {x:α} {k:α->Prop} (h:o=some x) (hk:k x):Ai o k:=by rw[h];exact hk
theorem Am (x:Int) (h1: -9223372036854775808<=x) (h2:x<=9223372036854775807):IntKind.wrap .i64 x=x:=by
 unfold IntKind.wrap
 simp only[IntKind.signed,IntKind.bits]
 simp
 omega
theorem wrapU8 (x:Int) (h1:0<=x) (h2:x<=255):IntKind.wrap .u8 x=x:=by
 unfold IntKind.wrap
 simp only[IntKind.signed,IntKind.bits]
 simp
 omega
end Go.TVF
end
section
namespace Go.TVF
open Go.IntKind(i64 u8)
open Go.RowKit (Below)
theorem U2 {r:TV} {st':St} (h:EW [.one .bool] r (fun (b:Bool) (_:St)=>b=true) (fun p=>p st')):r= .bool true:=by
 cases r<;>simp only[EW,FK,AE]at h<;>first | exact h.elim | skip
 subst h;rfl
theorem calls_law {P:Program} {f:FuncId} {args:List TV} (hcall:∀(vs:Array Value) (w:World),(callFunc f vs).run P w= .ok (.enter f vs) w) (h:CallT P f args [.one .bool] St.zero (fun r _=>r=true)) (w:World) (hG:∀w',Below w.heap.size w w'->Pd w') (vargs:List Value) (hr:AH (Ghost.start w) w args vargs):
  Calls P f vargs.toArray w fun e w'=>e= .returned (.bool true)/\Below w.heap.size w w':=
 RN hcall (DK.mono h fun r st' hd=>U2 hd) w hG vargs hr
theorem L9 (g:Ghost) (w:World) (s:ByteArray):Rel g w (.str s.data.toList) (.string s):=by
 have:=Rel.str (g:=g) (w:=w) s.data.toList
 simpa using this
def Mz:List CTy->List TV->Prop
 | [],xs=>xs=[]
 | .int k::cs,xs=>∃n ys,xs= .int k n::ys/\(Lit.int k n).wf=true/\Mz cs ys
 | .str::cs,xs=>∃l ys,xs= .str l::ys/\l.length<=maxLen/\Mz cs ys
 | .bool::cs,xs=>∃b ys,xs= .bool b::ys/\Mz cs ys
 | .tv::_,_=>False
def Vh (P:Program):CTy->TypeId->Prop
 | .int k,t=>P.underlying t=some (.int k)
 | .bool,t=>P.underlying t=some .bool
 | .str,t=>P.underlying t=some .string
 | .tv,_=>False
section
variable {H:Type} {enc:TypeId×Value->H} {P:Program} {w:World} {base:Nat} {sp:Nat->Bool} {held:Bool}
theorem Ta {c:CTy} {t:TypeId} {fuel:Nat} {cs:List Value} {x:DataW H×List MemPlace} (g:Ghost) (hc:Vh P c t) (h:DataW.trod enc P w base sp held fuel t cs=some x):
  ∃v u,cs=[u]/\Rel g w v u/\Mz [c] [v]:=by
 cases c with
 | int k=>
  obtain⟨n,rfl,_,hw⟩:=DataW.trod_int hc h
  exact⟨_,_,rfl,.int k n,n,[],rfl,hw,rfl⟩
 | bool=>
  obtain⟨b,rfl,_⟩:=DataW.trod_bool hc h
  exact⟨_,_,rfl,.bool b,b,[],rfl,rfl⟩
 | str=>
  obtain⟨s,rfl,_,hs⟩:=DataW.trod_string hc h
  exact⟨_,_,rfl,L9 g w s,_,[],rfl,by rw[Array.length_toList];exact hs,rfl⟩
 | tv=>exact hc.elim
theorem RW (b off i:Nat):(⟨b,off,none⟩:Addr).add i=⟨b,off+i,none⟩:=by
 unfold Addr.add;split
 ·rename_i h;subst h;rfl
 ·rfl
end
end Go.TVF
end
namespace Go.TVF
open Go.IntKind(i64 u8)
open Go Go.Proofs
theorem mixed:Tryz.prog.follows .mixedOrders=true:=by kernel_rfl
noncomputable def PR:Program:=Tryz.prog
abbrev V13(X:Type):=Int->Bool->Bool->B8->Int->Int->Int->Int->Int->B8->TV->TV->TV->X
abbrev sV:RTy:=.agg [.int .i64,.bool,.bool,.str,.int .i64,.int .i64,.int .i64,.int .i64,.int .i64,.str,.tv,.tv,.tv]
abbrev cV(a:Int)(b c:Bool)(d:B8)(e f g h i:Int)(j:B8)(k l m:TV):List TV:=[.int .i64 a,.bool b,.bool c,.str d,.int .i64 e,.int .i64 f,.int .i64 g,.int .i64 h,.int .i64 i,.str j,k,l,m]
abbrev BId(p:Prop)[Decidable p](a b:Prop):Prop:=BIf (decide p) a b
def fn_datakitlaw25_SectionWhere:Nat:=5
def C0:Nat:=7
def Bl:Nat:=8
def Er:Nat:=9
def Dt:Nat:=11
def CR:Nat:=13
def Ep:Nat:=19
def CQ:Nat:=20
def DF:Nat:=21
def AX:Nat:=23
def Df:Nat:=24
def DP:Nat:=25
def Ao:Nat:=26
def DE:Nat:=27
def Bc:Nat:=28
def Bg:Nat:=29
def AK:Nat:=30
def CU:Nat:=32
def EA:Nat:=36
def Gq:Nat:=37
def A8:Nat:=38
def BX:Nat:=39
def CS:Nat:=40
def Di:Nat:=41
def Dh:Nat:=42
def Ea:Nat:=44
def CO:Nat:=45
def B4:Nat:=46
def CH:Nat:=47
def Eg:Nat:=48
def Dg:Nat:=49
def De:Nat:=50
def Cf:Nat:=53
def Bs:Nat:=55
def Dj:Nat:=59
def D9:Nat:=60
def Hg:Nat:=61
def AP:Nat:=62
def BY:Nat:=63
def AC:Nat:=70
def C7:Nat:=71
def Cj:Nat:=72
def BU:Nat:=73
def B3:Nat:=74
def AO:Nat:=75
def Gl:Nat:=76
def FF:Nat:=77
def Ay:Nat:=78
def Be:Nat:=79
def Bz:Nat:=80
def BK:Nat:=81
def CP:Nat:=82
def Ce:Nat:=83
def Bf:Nat:=84
def Az:Nat:=85
def AQ:Nat:=86
def A4:Nat:=87
def FE:Nat:=88
def Es:Nat:=89
def DS:Nat:=90
def Gk:Nat:=91
def DH:Nat:=93
def JD:Nat:=96
def FG:Nat:=97
def BV:Nat:=98
def CI:Nat:=103
def Ex:Nat:=104
def Ez:Nat:=105
def BE:Nat:=106
def E3:Nat:=107
def Bk:Nat:=108
def CT:Nat:=109
def EU:Nat:=110
def ET:Nat:=111
def He:Nat:=112
def DG:Nat:=113
def CX:Nat:=114
def CW:Nat:=115
def Br:Nat:=116
def Gn:Nat:=117
def Ir:Nat:=118
def EV:Nat:=119
def BM:Nat:=120
def Ey:Nat:=123
def Gp:Nat:=125
def EI:Nat:=126
def CZ:Nat:=127
def CY:Nat:=128
def CV:Nat:=129
def Bw:Nat:=130
def Iq:Nat:=131
def Gm:Nat:=132
def Hf:Nat:=133
def BL:Nat:=134
def A3:Nat:=138
def CE:Nat:=143
def B5:Nat:=144
def Nb:B8:=[97]
def str1:B8:=[98]
def str2:B8:=[120]
def str3:B8:=[121]
def str4:B8:=[122]
def str5:B8:=[49]
def str6:B8:=[48]
theorem EQ (l:TV) (p:TV) (st:St) (K:Bool->St->Prop) (h:CallT PR C0 [l] [.one .bool] st (fun (b1:Bool) f=>BIf (!b1) (CallT PR Bl [] [.one .bool] f (fun (b2:Bool) j=>K b2 j)) (need (isSl p) (BId ((60:Int)<(lenS p:Int)) (CallT PR Bl [] [.one .bool] f (fun (b3:Bool) i=>K b3 i)) (CallT PR Ep [l,p] [.one (.int .i64),.one .tv,.one (.int .i64)] f (fun (n1:Int) (v1:TV) (n2:Int) g=>CallT PR CQ [l,p] [.one (.int .i64),.one .tv,.one (.int .i64)] g (fun (n3:Int) (v2:TV) (n4:Int) e=>BId (n1≠n3) (K false e) (need (isSl v1) (need (isSl v2) (BId ((lenS v1:Int)≠(lenS v2:Int)) (K false e) (BId (n2≠n4) (K false e) (∃(I1:Int->TV->TV->St->Prop) (M1:Int->TV->TV->St->Nat),(I1 0 v1 v2 e)/\∀a c d b,I1 a c d b->(need (isSl c) (BId (a<(lenS c:Int)) (((0<=a/\a<(lenZ 3 c:Int))/\Ai ((Al b [] (.t (ixT 3 c a.toNat)) 0 3).map TV.agg) (fun (x1:TV)=>BG [.bool,.str,.int .i64] x1 (fun (b4:Bool) (s1:B8) (n5:Int)=>((0<=a/\a<(lenZ 3 d:Int))/\Ai ((Al b [] (.t (ixT 3 d a.toNat)) 0 3).map TV.agg) (fun (x2:TV)=>BG [.bool,.str,.int .i64] x2 (fun (b5:Bool) (s2:B8) (n6:Int)=>BIf (!((b4==b5)&&(decide (s1=s2)&&(decide (n5=n6)&&true)))) (K false b) ((I1 ((i64.wrap (a+(1:Int)))) c d b/\M1 ((i64.wrap (a+(1:Int)))) c d b<M1 a c d b))))))))) (CallT PR Bl [] [.one .bool] b (fun (b6:Bool) k=>K b6 k)))))))))))))))):CallT PR fn_datakitlaw25_SectionWhere [l,p] [.one .bool] st K:=
 Af (cfg:=⟨[],[],[]⟩) (h:=(.seq .none (.seq .none (.seq .none (.seq .none (.seq .none (.seq (.seq .none (.block (.loop ⟨[(11,.int .i64),(6,.tv),(9,.tv)],[],[],[]⟩ .none))) .none))))))) mixed (fun _ _=>Tryz.call5 _ _) Tryz.func5 (by kernel_rfl) (by kernel_rfl) h
theorem HK (l:TV) (st:St) (K:Bool->St->Prop) (h:∃(I1:Int->TV->St->Prop) (M1:Int->TV->St->Nat),(I1 0 l st)/\∀c e g,I1 c e g->(need (isSl e) (BId (c<(lenS e:Int)) (BId ((30:Int)<=c) (K false g) (((0<=c/\c<(lenZ 16 e:Int))/\need (isPtr (ixT 16 e c.toNat)) (Ai (Ac g [] (.t (At (ixT 16 e c.toNat) 2)) 0) (fun (v1:TV)=>need (isSl v1) (BId ((60:Int)<(lenS v1:Int)) (K false g) (((0<=c/\c<(lenZ 16 e:Int))/\need (isPtr (ixT 16 e c.toNat)) (Ai ((Al g [] (.t (At (ixT 16 e c.toNat) 3)) 0 13).map TV.agg) (fun (x2:TV)=>BG [.int .i64,.bool,.bool,.str,.int .i64,.int .i64,.int .i64,.int .i64,.int .i64,.str,.tv,.tv,.tv] x2 (fun (n1:Int) (b1 b2:Bool) (s1:B8) (n2 n3 n4 n5 n6:Int) (s2:B8) (v2 v3 v4:TV)=>CallT PR CR [(.agg (cV n1 b1 b2 s1 n2 n3 n4 n5 n6 s2 v2 v3 v4))] [.one .bool] g (fun (b3:Bool) j=>BIf (!b3) (K false j) (∃(I2:Int->Int->TV->Int->St->Prop) (M2:Int->Int->TV->Int->St->Nat),(I2 0 0 e c j)/\∀i f b a d,I2 i f b a d->(((0<=a/\a<(lenZ 16 b:Int))/\need (isPtr (ixT 16 b a.toNat)) (Ai (Ac d [] (.t (At (ixT 16 b a.toNat) 2)) 0) (fun (v5:TV)=>need (isSl v5) (BId (f<(lenS v5:Int)) (((0<=a/\a<(lenZ 16 b:Int))/\need (isPtr (ixT 16 b a.toNat)) (Ai (Ac d [] (.t (At (ixT 16 b a.toNat) 2)) 0) (fun (v6:TV)=>((0<=f/\f<(lenZ 1 v6:Int))/\Ai (Ac d [] (.t (ixT 1 v6 f.toNat)) 0) (fun (x5:TV)=>AE .str x5 (fun (s3:B8)=>BId ((i64.wrap ((2000:Int)-i))<(s3.length:Int)) (K false d) (((0<=a/\a<(lenZ 16 b:Int))/\need (isPtr (ixT 16 b a.toNat)) (Ai (Ac d [] (.t (At (ixT 16 b a.toNat) 2)) 0) (fun (v7:TV)=>((0<=f/\f<(lenZ 1 v7:Int))/\Ai (Ac d [] (.t (ixT 1 v7 f.toNat)) 0) (fun (x7:TV)=>AE .str x7 (fun (s4:B8)=>(I2 ((i64.wrap (i+(s4.length:Int)))) ((i64.wrap (f+(1:Int)))) b a d/\M2 ((i64.wrap (i+(s4.length:Int)))) ((i64.wrap (f+(1:Int)))) b a d<M2 i f b a d))))))))))))))) ((I1 ((i64.wrap (a+(1:Int)))) b d/\M1 ((i64.wrap (a+(1:Int)))) b d<M1 c e g)))))))))))))))))))) (K true g)))):CallT PR C0 [l] [.one .bool] st K:=
 Af (cfg:=⟨[],[],[]⟩) (h:=(.seq .none (.seq (.seq .none (.block (.loop ⟨[(3,.int .i64),(0,.tv)],[],[],[]⟩ (.seq .none (.seq (.block (.seq .none (.seq .none (.seq .none (.block (.loop ⟨[(4,.int .i64),(5,.int .i64),(0,.tv),(3,.int .i64)],[],[],[]⟩ .none)))))) .none))))) .none))) mixed (fun _ _=>Tryz.call7 _ _) Tryz.func7 (by kernel_rfl) (by kernel_rfl) h
theorem HM (st:St) (K:Bool->St->Prop) (h:CallT PR AX [(.list 1 .full 2 [.str Nb,.str str1])] [.agg [.bool,.bool,.tv,.int .i64,.bool,.bool,.str,.int .i64,.int .i64,.int .i64,.int .i64,.int .i64,.str,.tv,.tv,.tv]] st (fun (b1 b2:Bool) (v1:TV) (n1:Int) (b3 b4:Bool) (s1:B8) (n2 n3 n4 n5 n6:Int) (s2:B8) (v2 v3 v4:TV) e5=>CallT PR AX [(.list 1 .full 1 [.str str4])] [.agg [.bool,.bool,.tv,.int .i64,.bool,.bool,.str,.int .i64,.int .i64,.int .i64,.int .i64,.int .i64,.str,.tv,.tv,.tv]] e5 (fun (b5 b6:Bool) (v5:TV) (n7:Int) (b7 b8:Bool) (s3:B8) (n8 n9 q c6 f2:Int) (s4:B8) (v6 v7 v8:TV) c2=>CallT PR Er [(.list 16 .full 3 [.bool b1,.bool b2,v1,.int .i64 n1,.bool b3,.bool b4,.str s1,.int .i64 n2,.int .i64 n3,.int .i64 n4,.int .i64 n5,.int .i64 n6,.str s2,v2,v3,v4,.bool true,.bool false,(.list 1 .full 2 [.str str2,.str str3]),.int .i64 0,.bool false,.bool false,(.str []),.int .i64 0,.int .i64 0,.int .i64 0,.int .i64 0,.int .i64 0,(.str []),.nilSlice,.nilSlice,.nilSlice,.bool b5,.bool b6,v5,.int .i64 n7,.bool b7,.bool b8,.str s3,.int .i64 n8,.int .i64 n9,.int .i64 q,.int .i64 c6,.int .i64 f2,.str s4,v6,v7,v8])] [sV,.one (.int .i64),.one (.int .i64)] c2 (fun (d6:Int) (b9 f5:Bool) (s5:B8) (b0 d1 a7 c4 y:Int) (s6:B8) (v9 a3 a:TV) (f9 d5:Int) s=>need (List.all (cV d6 b9 f5 s5 b0 d1 a7 c4 y s6 v9 a3 a) Ah) (CallT PR AX [(.list 1 .full 1 [.str Nb])] [.agg [.bool,.bool,.tv,.int .i64,.bool,.bool,.str,.int .i64,.int .i64,.int .i64,.int .i64,.int .i64,.str,.tv,.tv,.tv]] s (fun (e7 e6:Bool) (f0:TV) (r:Int) (c0 a0:Bool) (s7:B8) (f4 f8 o n p:Int) (s8:B8) (i e3 f3:TV) d2=>CallT PR AX [(.list 1 .full 2 [.str Nb,.str str1])] [.agg [.bool,.bool,.tv,.int .i64,.bool,.bool,.str,.int .i64,.int .i64,.int .i64,.int .i64,.int .i64,.str,.tv,.tv,.tv]] d2 (fun (a5 w:Bool) (d3:TV) (f7:Int) (g a8:Bool) (s9:B8) (a6 c9 e8 x d8:Int) (d9:B8) (k d4 a1:TV) m=>CallT PR Dt [(.list 16 .full 2 [.bool e7,.bool e6,f0,.int .i64 r,.bool c0,.bool a0,.str s7,.int .i64 f4,.int .i64 f8,.int .i64 o,.int .i64 n,.int .i64 p,.str s8,i,e3,f3,.bool a5,.bool w,d3,.int .i64 f7,.bool g,.bool a8,.str s9,.int .i64 a6,.int .i64 c9,.int .i64 e8,.int .i64 x,.int .i64 d8,.str d9,k,d4,a1])] [.one (.int .i64),.one (.int .i64)] m (fun (a4 e4:Int) e0=>CallT PR AX [(.list 1 .full 1 [.str Nb])] [.agg [.bool,.bool,.tv,.int .i64,.bool,.bool,.str,.int .i64,.int .i64,.int .i64,.int .i64,.int .i64,.str,.tv,.tv,.tv]] e0 (fun (c3 a2:Bool) (d7:TV) (a9:Int) (f j:Bool) (e2:B8) (z u e1 f1 v:Int) (l:B8) (c7 e9 c8:TV) c5=>CallT PR Dt [(.list 16 .full 2 [.bool c3,.bool a2,d7,.int .i64 a9,.bool f,.bool j,.str e2,.int .i64 z,.int .i64 u,.int .i64 e1,.int .i64 f1,.int .i64 v,.str l,c7,e9,c8,.bool true,.bool true,(.list 1 .full 1 [.str Nb]),.int .i64 0,.bool false,.bool false,(.str []),.int .i64 0,.int .i64 0,.int .i64 0,.int .i64 0,.int .i64 0,(.str []),.nilSlice,.nilSlice,.nilSlice])] [.one (.int .i64),.one (.int .i64)] c5 (fun (d0 f6:Int) b=>BId (d5=0) (need (isSl a) (BId ((lenS a:Int)=(2:Int)) (((0<=(1:Int)/\(1:Int)<(lenZ 14 a:Int))/\need (isPtr (ixT 14 a (Int.toNat (1:Int)))) (Ai (Ac b [] (.t (At (ixT 14 a (Int.toNat (1:Int))) 0)) 0) (fun (x1:TV)=>AE .str x1 (fun (c1:B8)=>BId (c1=str2) (((0<=(1:Int)/\(1:Int)<(lenZ 14 a:Int))/\need (isPtr (ixT 14 a (Int.toNat (1:Int)))) (need (isPtr (At (ixT 14 a (Int.toNat (1:Int))) 1)) (Ai (Ac b [] (.t (At (At (ixT 14 a (Int.toNat (1:Int))) 1) 12)) 0) (fun (d:TV)=>need (isSl d) (BId ((lenS d:Int)=(1:Int)) (((0<=(1:Int)/\(1:Int)<(lenZ 14 a:Int))/\need (isPtr (ixT 14 a (Int.toNat (1:Int)))) (need (isPtr (At (ixT 14 a (Int.toNat (1:Int))) 1)) (Ai (Ac b [] (.t (At (At (ixT 14 a (Int.toNat (1:Int))) 1) 12)) 0) (fun (c:TV)=>((0<=(0:Int)/\(0:Int)<(lenZ 14 c:Int))/\need (isPtr (ixT 14 c (Int.toNat (0:Int)))) (need (isPtr (At (ixT 14 c (Int.toNat (0:Int))) 1)) (Ai (Ac b [] (.t (At (At (ixT 14 c (Int.toNat (0:Int))) 1) 12)) 0) (fun (e:TV)=>need (isSl e) (BId ((lenS e:Int)=(1:Int)) (BId (a4=1) (BId (e4=8) (BId (d0=1) (K ((decide (f6=6))) b) (K false b)) (K false b)) (K false b)) (K false b))))))))))) (K false b))))))) (K false b)))))) (K false b))) (K false b))))))))))):CallT PR Bl [] [.one .bool] st K:=
 Af (cfg:=⟨[1],[],[]⟩) (h:= .none) mixed (fun _ _=>Tryz.call8 _ _) Tryz.func8 (by kernel_rfl) (by kernel_rfl) h
theorem Kp (l:TV) (st:St) (K:V13 (Int->Int->St->Prop)) (h:CallT PR Df [l] [.one .tv,.one (.int .i64),.one (.int .i64)] st (fun (v1:TV) (n1 n2:Int) a=>BId (n2≠0) (K 0 false false [] 0 0 0 0 0 [] .nilSlice .nilSlice .nilSlice n1 n2 a) (need (isPtr v1) (need (isPtr v1) (Ai (Ac a [] (.t (At v1 0)) 0) (fun (v2:TV)=>CallT PR Ao [v1,v2] [sV] a (fun (n3:Int) (b1 b2:Bool) (s1:B8) (n4 n5 n6 n7 n8:Int) (s2:B8) (v3 v4 v5:TV) i=>CallT PR DP [(.agg (cV n3 b1 b2 s1 n4 n5 n6 n7 n8 s2 v3 v4 v5))] [sV] i (fun (n9:Int) (b3 b4:Bool) (s3:B8) (c f d e b:Int) (s4:B8) (v6 v7 v8:TV) g=>need (List.all (cV n9 b3 b4 s3 c f d e b s4 v6 v7 v8) Ah) (K n9 b3 b4 s3 c f d e b s4 v6 v7 v8 0 0 g))))))))):CallT PR Er [l] [sV,.one (.int .i64),.one (.int .i64)] st K:=
 Af (cfg:=⟨[2],[],[]⟩) (h:= .none) mixed (fun _ _=>Tryz.call9 _ _) Tryz.func9 (by kernel_rfl) (by kernel_rfl) h
theorem Ko (l:TV) (st:St) (K:Int->Int->St->Prop) (h:CallT PR Df [l] [.one .tv,.one (.int .i64),.one (.int .i64)] st (fun (v1:TV) (n1 n2:Int) a=>K n1 n2 a)):CallT PR Dt [l] [.one (.int .i64),.one (.int .i64)] st K:=
 Af (cfg:=⟨[],[],[]⟩) (h:= .none) mixed (fun _ _=>Tryz.call11 _ _) Tryz.func11 (by kernel_rfl) (by kernel_rfl) h
theorem Hy (v_0:Int) (v_1:Bool) (v_2:Bool) (v_3:B8) (v_4:Int) (v_5:Int) (v_6:Int) (v_7:Int) (v_8:Int) (v_9:B8) (v_10:TV) (v_11:TV) (v_12:TV) (st:St) (K:Bool->St->Prop) (h:CallT PR Bc [(.agg (cV v_0 v_1 v_2 v_3 v_4 v_5 v_6 v_7 v_8 v_9 v_10 v_11 v_12)),.int .i64 60,.int .i64 150,.int .i64 3000] [.one (.int .i64)] st (fun (n1:Int) a=>BId ((0:Int)<=n1) (CallT PR Bg [(.agg (cV v_0 v_1 v_2 v_3 v_4 v_5 v_6 v_7 v_8 v_9 v_10 v_11 v_12))] [.one (.int .i64)] a (fun (n2:Int) b=>K ((decide (n2<=20000))) b)) (K false a))):CallT PR CR [(.agg (cV v_0 v_1 v_2 v_3 v_4 v_5 v_6 v_7 v_8 v_9 v_10 v_11 v_12))] [.one .bool] st K:=
 Af (cfg:=⟨[1],[],[]⟩) (h:= .none) mixed (fun _ _=>Tryz.call13 _ _) Tryz.func13 (by kernel_rfl) (by kernel_rfl) h
theorem Km (l:TV) (p:TV) (st:St) (K:Int->TV->Int->St->Prop) (h:CallT PR Df [l] [.one .tv,.one (.int .i64),.one (.int .i64)] st (fun (v1:TV) (n1 n2:Int) o=>BId (n2≠0) (K 0 .nilSlice n2 o) (CallT PR EA [p] [.one .bool] o (fun (b1:Bool) g=>BIf (!b1) (K 0 .nilSlice 1 g) (need (isPtr v1) (need (isPtr v1) (Ai (Ac g [] (.t (At v1 0)) 0) (fun (v2:TV)=>CallT PR Ao [v1,v2] [sV] g (fun (n3:Int) (b2 b3:Bool) (s1:B8) (n4 n5 n6 n7 n8:Int) (s2:B8) (v3 v4 v5:TV) v=>CallT PR Gq [(.agg (cV n3 b2 b3 s1 n4 n5 n6 n7 n8 s2 v3 v4 v5)),p] [sV,.one (.int .i64)] v (fun (n9:Int) (b4 b5:Bool) (s3:B8) (u y a2 a0 x:Int) (s4:B8) (v6 v7 v8:TV) (k:Int) f=>need (List.all (cV n9 b4 b5 s3 u y a2 a0 x s4 v6 v7 v8) Ah) (BId (k≠0) (K 0 .nilSlice k f) (need (isPtr v1) (need (isPtr v1) (Ai (Ac f [] (.t (At v1 0)) 0) (fun (v9:TV)=>∃(I1:TV->Int->TV->St->Prop) (M1:TV->Int->TV->St->Nat),(I1 v9 0 p f)/\∀d b a c,I1 d b a c->(need (isSl a) (BId (b<(lenS a:Int)) (need (isPtr d) (need (isPtr d) (Ai (Ac c [] (.t (At d 1)) 0) (fun (w:TV)=>((0<=b/\b<(lenZ 3 a:Int))/\need (isPtr (ixT 3 a b.toNat)) (Ai (Ac c [] (.t (At (ixT 3 a b.toNat) 1)) 0) (fun (x4:TV)=>AE .str x4 (fun (s5:B8)=>Ai (ED c w) (fun (es1:List (B8×TV))=>need (isPtr (Ar .nilPtr (Av s5 es1))) (need (isPtr (Ar .nilPtr (Av s5 es1))) (Ai (Ac c [] (.t (At (Ar .nilPtr (Av s5 es1)) 0)) 0) (fun (s:TV)=>need (FC s) (BIf (!CN s) (need (isPtr (Ar .nilPtr (Av s5 es1))) (need (isPtr (Ar .nilPtr (Av s5 es1))) (Ai (Ac c [] (.t (At (Ar .nilPtr (Av s5 es1)) 0)) 0) (fun (q:TV)=>(I1 q ((i64.wrap (b+(1:Int)))) a c/\M1 q ((i64.wrap (b+(1:Int)))) a c<M1 d b a c))))) (need (isPtr (Ar .nilPtr (Av s5 es1))) (need (isPtr (Ar .nilPtr (Av s5 es1))) (Ai (Ac c [] (.t (At (Ar .nilPtr (Av s5 es1)) 1)) 0) (fun (i:TV)=>need (isSl i) (BId ((lenS i:Int)=(0:Int)) (need (isPtr (Ar .nilPtr (Av s5 es1))) (need (isPtr (Ar .nilPtr (Av s5 es1))) (Ai (Ac c [] (.t (At (Ar .nilPtr (Av s5 es1)) 15)) 0) (fun (x8:TV)=>AE (.int .i64) x8 (fun (j:Int)=>((isLst 3 a=true/\0<=(i64.wrap (b+(1:Int)))/\(i64.wrap (b+(1:Int)))<=(lenS a:Int))/\CallT PR A8 [(slT 3 .non a (Int.toNat (i64.wrap (b+(1:Int)))) (lenS a))] [.one .tv] c (fun (a1:TV) n=>(Ac n [] (.t (At (Ar .nilPtr (Av s5 es1)) 15)) 0=some (.int .i64 j)/\K j a1 0 n)))))))) (need (isSl a) (BId ((i64.wrap (b+(1:Int)))<(lenS a:Int)) (need (isPtr (Ar .nilPtr (Av s5 es1))) (need (isPtr (Ar .nilPtr (Av s5 es1))) (Ai (Ac c [] (.t (At (Ar .nilPtr (Av s5 es1)) 1)) 0) (fun (r:TV)=>((0<=(i64.wrap (b+(1:Int)))/\(i64.wrap (b+(1:Int)))<(lenZ 3 a:Int))/\need (isPtr (ixT 3 a (Int.toNat (i64.wrap (b+(1:Int)))))) (Ai (Ac c [] (.t (At (ixT 3 a (Int.toNat (i64.wrap (b+(1:Int))))) 2)) 0) (fun (z:TV)=>AE (.int .i64) z (fun (e:Int)=>((0<=e/\e<(lenZ 1 r:Int))/\Ai (Ac c [] (.t (ixT 1 r e.toNat)) 0) (fun (m:TV)=>(I1 m ((i64.wrap ((i64.wrap (b+(1:Int)))+(1:Int)))) a c/\M1 m ((i64.wrap ((i64.wrap (b+(1:Int)))+(1:Int)))) a c<M1 d b a c))))))))))) ((I1 d ((i64.wrap (b+(1:Int)))) a c/\M1 d ((i64.wrap (b+(1:Int)))) a c<M1 d b a c)))))))))))))))))))))) (K 0 .nilSlice 26 c)))))))))))))))))):CallT PR Ep [l,p] [.one (.int .i64),.one .tv,.one (.int .i64)] st K:=
 Af (cfg:=⟨[10],[],[81]⟩) (h:=(.seq .none (.seq .none (.seq .none (.seq .none (.seq .none (.seq .none (.seq (.seq .none (.block (.loop ⟨[(12,.tv),(13,.int .i64),(1,.tv)],[],[],[]⟩ .none))) .none)))))))) mixed (fun _ _=>Tryz.call19 _ _) Tryz.func19 (by kernel_rfl) (by kernel_rfl) h
theorem Hw (l:TV) (p:TV) (st:St) (K:Int->TV->Int->St->Prop) (h:CallT PR DE [l] [.agg [.int .i64,.bool,.bool,.str,.int .i64,.int .i64,.int .i64,.int .i64,.int .i64,.str,.tv,.tv,.tv,.tv,.tv],.one (.int .i64),.one (.int .i64)] st (fun (n1:Int) (b1 b2:Bool) (s1:B8) (n2 n3 n4 n5 n6:Int) (s2:B8) (v1 v2 v3 v4 v5:TV) (n7 n8:Int) v=>need (List.all [.int .i64 n1,.bool b1,.bool b2,.str s1,.int .i64 n2,.int .i64 n3,.int .i64 n4,.int .i64 n5,.int .i64 n6,.str s2,v1,v2,v3,v4,v5] Ah) (BId (n8≠0) (K 0 .nilSlice n8 v) (CallT PR BX [p] [.one .bool] v (fun (b3:Bool) w=>BIf (!b3) (K 0 .nilSlice 1 w) (CallT PR DF [(.agg (cV n1 b1 b2 s1 n2 n3 n4 n5 n6 s2 v1 v2 v3)),p] [sV,.one (.int .i64)] w (fun (n9:Int) (b4 b5:Bool) (s3:B8) (x z a4 a1 y:Int) (s4:B8) (v6 v7 v8:TV) (u:Int) s=>need (List.all (cV n9 b4 b5 s3 x z a4 a1 y s4 v6 v7 v8) Ah) (BId (u≠0) (K 0 .nilSlice u s) (∃(I1:Int->TV->V13 (TV->TV->St->Prop)) (M1:Int->TV->V13 (TV->TV->St->Nat)),(I1 0 p n1 b1 b2 s1 n2 n3 n4 n5 n6 s2 v1 v2 v3 v4 v5 s)/\∀a c i b6 b7 s5 j f m k e s6 v9 g o n b d,I1 a c i b6 b7 s5 j f m k e s6 v9 g o n b d->(need (isSl b) (BId (a<(lenS b:Int)) (((0<=a/\a<(lenZ 3 b:Int))/\need (isPtr (ixT 3 b a.toNat)) (Ai (Ac d [] (.t (At (ixT 3 b a.toNat) 1)) 0) (fun (x1:TV)=>AE (.int .i64) x1 (fun (a5:Int)=>BId (a5=1) (((0<=a/\a<(lenZ 3 b:Int))/\need (isPtr (ixT 3 b a.toNat)) (Ai (Ac d [] (.t (At (ixT 3 b a.toNat) 0)) 0) (fun (a3:TV)=>CallT PR CS [c,a3] [.one .bool] d (fun (b8:Bool) q=>BIf b8 (((0<=a/\a<(lenZ 3 b:Int))/\need (isPtr (ixT 3 b a.toNat)) (Ai (Ac q [] (.t (At (ixT 3 b a.toNat) 2)) 0) (fun (x3:TV)=>AE (.int .i64) x3 (fun (a6:Int)=>((0<=a/\a<(lenZ 3 b:Int))/\need (isPtr (ixT 3 b a.toNat)) (Ai (Ac q [] (.t (At (ixT 3 b a.toNat) 0)) 0) (fun (r:TV)=>need (isSl r) (((isLst 3 c=true/\0<=(lenS r:Int)/\(lenS r:Int)<=(lenS c:Int))/\Ai (Cu q 3 (slT 3 .non c (Int.toNat (lenS r:Int)) (lenS c))) (fun (q1:Nat×List TV)=>need (List.all q1.2 Ah) (Cl 56 3 32 (.list 3 .full 0 []) q1.1 q1.2 q (fun (a0:TV) a2=>K a6 a0 0 a2))))))))))))) ((I1 ((i64.wrap (a+(1:Int)))) c i b6 b7 s5 j f m k e s6 v9 g o n b q/\M1 ((i64.wrap (a+(1:Int)))) c i b6 b7 s5 j f m k e s6 v9 g o n b q<M1 a c i b6 b7 s5 j f m k e s6 v9 g o n b d))))))) ((I1 ((i64.wrap (a+(1:Int)))) c i b6 b7 s5 j f m k e s6 v9 g o n b d/\M1 ((i64.wrap (a+(1:Int)))) c i b6 b7 s5 j f m k e s6 v9 g o n b d<M1 a c i b6 b7 s5 j f m k e s6 v9 g o n b d))))))) (K 0 .nilSlice 26 d)))))))))))):CallT PR CQ [l,p] [.one (.int .i64),.one .tv,.one (.int .i64)] st K:=
 Af (cfg:=⟨[7,10],[],[]⟩) (h:=(.seq .none (.seq .none (.seq .none (.seq .none (.seq .none (.seq (.seq .none (.block (.loop ⟨[(12,.int .i64),(1,.tv)],[(7,0,0)],[(0,15)],[(0,0,.int .i64),(0,1,.bool),(0,2,.bool),(0,3,.str),(0,4,.int .i64),(0,5,.int .i64),(0,6,.int .i64),(0,7,.int .i64),(0,8,.int .i64),(0,9,.str),(0,10,.tv),(0,11,.tv),(0,12,.tv),(0,13,.tv),(0,14,.tv)]⟩ .none))) .none))))))) mixed (fun _ _=>Tryz.call20 _ _) Tryz.func20 (by kernel_rfl) (by kernel_rfl) h
theorem IZ (v_0:Int) (v_1:Bool) (v_2:Bool) (v_3:B8) (v_4:Int) (v_5:Int) (v_6:Int) (v_7:Int) (v_8:Int) (v_9:B8) (v_10:TV) (v_11:TV) (v_12:TV) (p:TV) (st:St) (K:V13 (Int->St->Prop)) (h:CallT PR BX [p] [.one .bool] st (fun (b1:Bool) n=>BIf (!b1) (K 0 false false [] 0 0 0 0 0 [] .nilSlice .nilSlice .nilSlice 1 n) (∃(I1:Int->TV->V13 (V13 (St->Prop))) (M1:Int->TV->V13 (V13 (St->Nat))),(I1 0 p v_0 v_1 v_2 v_3 v_4 v_5 v_6 v_7 v_8 v_9 v_10 v_11 v_12 0 false false [] 0 0 0 0 0 [] .nilSlice .nilSlice .nilSlice n)/\∀a b n1 b2 b3 s1 n2 n3 n4 n5 n6 s2 v1 v2 v3 n7 b4 b5 s3 n8 n9 d f e s4 v4 v5 v6 c,I1 a b n1 b2 b3 s1 n2 n3 n4 n5 n6 s2 v1 v2 v3 n7 b4 b5 s3 n8 n9 d f e s4 v4 v5 v6 c->(need (isSl b) (BId (a<(lenS b:Int)) (((0<=a/\a<(lenZ 3 b:Int))/\Ai ((Al c [] (.t (ixT 3 b a.toNat)) 0 3).map TV.agg) (fun (x1:TV)=>BG [.bool,.str,.int .i64] x1 (fun (b6:Bool) (s5:B8) (u:Int)=>CallT PR Di [(.agg (cV n1 b2 b3 s1 n2 n3 n4 n5 n6 s2 v1 v2 v3)),(.agg [.bool b6,.str s5,.int .i64 u])] [.one (.int .i64),.one (.int .i64)] c (fun (s o:Int) r=>BId (o≠0) (K 0 false false [] 0 0 0 0 0 [] .nilSlice .nilSlice .nilSlice o r) (CallT PR Dh [(.agg (cV n1 b2 b3 s1 n2 n3 n4 n5 n6 s2 v1 v2 v3)),.int .i64 s] [sV] r (fun (g:Int) (b7 b8:Bool) (s6:B8) (k l m j i:Int) (s7:B8) (v7 v8 v9:TV) q=>need (List.all (cV g b7 b8 s6 k l m j i s7 v7 v8 v9) Ah) ((I1 ((i64.wrap (a+(1:Int)))) b g b7 b8 s6 k l m j i s7 v7 v8 v9 n7 b4 b5 s3 n8 n9 d f e s4 v4 v5 v6 q/\M1 ((i64.wrap (a+(1:Int)))) b g b7 b8 s6 k l m j i s7 v7 v8 v9 n7 b4 b5 s3 n8 n9 d f e s4 v4 v5 v6 q<M1 a b n1 b2 b3 s1 n2 n3 n4 n5 n6 s2 v1 v2 v3 n7 b4 b5 s3 n8 n9 d f e s4 v4 v5 v6 c))))))))) (need (List.all (cV n1 b2 b3 s1 n2 n3 n4 n5 n6 s2 v1 v2 v3) Ah) (K n1 b2 b3 s1 n2 n3 n4 n5 n6 s2 v1 v2 v3 0 c))))))):CallT PR DF [(.agg (cV v_0 v_1 v_2 v_3 v_4 v_5 v_6 v_7 v_8 v_9 v_10 v_11 v_12)),p] [sV,.one (.int .i64)] st K:=
 Af (cfg:=⟨[2,4],[],[24]⟩) (h:=(.seq .none (.seq .none (.seq (.seq .none (.block (.loop ⟨[(6,.int .i64),(1,.tv)],[(2,0,0),(4,1,0)],[(0,13),(1,13)],[(0,0,.int .i64),(0,1,.bool),(0,2,.bool),(0,3,.str),(0,4,.int .i64),(0,5,.int .i64),(0,6,.int .i64),(0,7,.int .i64),(0,8,.int .i64),(0,9,.str),(0,10,.tv),(0,11,.tv),(0,12,.tv),(1,0,.int .i64),(1,1,.bool),(1,2,.bool),(1,3,.str),(1,4,.int .i64),(1,5,.int .i64),(1,6,.int .i64),(1,7,.int .i64),(1,8,.int .i64),(1,9,.str),(1,10,.tv),(1,11,.tv),(1,12,.tv)]⟩ .none))) .none)))) mixed (fun _ _=>Tryz.call21 _ _) Tryz.func21 (by kernel_rfl) (by kernel_rfl) h
theorem HL (keys:TV) (st:St) (K:Bool->Bool->TV->V13 (St->Prop)) (h:CallT PR Ea [] [sV] st (fun (n1:Int) (b1 b2:Bool) (s1:B8) (n2 n3 n4 n5 n6:Int) (s2:B8) (v1 v2 v3:TV) a=>need (List.all [keys] Ah) (need (List.all [.bool false,.bool false,keys,.int .i64 n1,.bool b1,.bool b2,.str s1,.int .i64 n2,.int .i64 n3,.int .i64 n4,.int .i64 n5,.int .i64 n6,.str s2,v1,v2,v3] Ah) (K false false keys n1 b1 b2 s1 n2 n3 n4 n5 n6 s2 v1 v2 v3 a)))):CallT PR AX [keys] [.agg [.bool,.bool,.tv,.int .i64,.bool,.bool,.str,.int .i64,.int .i64,.int .i64,.int .i64,.int .i64,.str,.tv,.tv,.tv]] st K:=
 Af (cfg:=⟨[2],[],[]⟩) (h:= .none) mixed (fun _ _=>Tryz.call23 _ _) Tryz.func23 (by kernel_rfl) (by kernel_rfl) h
theorem LR (l:TV) (st:St) (K:TV->Int->Int->St->Prop) (h:CallT PR CO [] [.one .tv] st (fun (v1:TV) g=>need (isSl l) (∃(I1:Int->TV->TV->Int->St->Prop) (M1:Int->TV->TV->Int->St->Nat),(I1 0 v1 l ((lenS l:Int)) g)/\∀a c b e d,I1 a c b e d->(BId (a<e) (((0<=a/\a<(lenZ 16 b:Int))/\Ai ((Al d [] (.t (ixT 16 b a.toNat)) 0 16).map TV.agg) (fun (x1:TV)=>BG [.bool,.bool,.tv,.int .i64,.bool,.bool,.str,.int .i64,.int .i64,.int .i64,.int .i64,.int .i64,.str,.tv,.tv,.tv] x1 (fun (b1 b2:Bool) (v2:TV) (n1:Int) (b3 b4:Bool) (s1:B8) (n2 n3 n4 n5 n6:Int) (s2:B8) (v3 v4 v5:TV)=>need (List.all [.bool b1,.bool b2,v2,.int .i64 n1,.bool b3,.bool b4,.str s1,.int .i64 n2,.int .i64 n3,.int .i64 n4,.int .i64 n5,.int .i64 n6,.str s2,v3,v4,v5] Ah) (CallT PR B4 [c,(.agg [.bool b1,.bool b2,v2,.int .i64 n1,.bool b3,.bool b4,.str s1,.int .i64 n2,.int .i64 n3,.int .i64 n4,.int .i64 n5,.int .i64 n6,.str s2,v3,v4,v5]),.int .i64 a] [.one (.int .i64)] d (fun (n7:Int) f=>BId (n7≠0) (K .nilPtr a n7 f) ((I1 ((i64.wrap (a+(1:Int)))) c b e f/\M1 ((i64.wrap (a+(1:Int)))) c b e f<M1 a c b e d)))))))) (K c 0 0 d))))):CallT PR Df [l] [.one .tv,.one (.int .i64),.one (.int .i64)] st K:=
 Af (cfg:=⟨[7],[],[]⟩) (h:=(.seq .none (.seq .none (.seq (.seq .none (.block (.loop ⟨[(12,.int .i64),(5,.tv),(10,.tv),(11,.int .i64)],[],[],[]⟩ .none))) .none)))) mixed (fun _ _=>Tryz.call24 _ _) Tryz.func24 (by kernel_rfl) (by kernel_rfl) h
theorem M0 (v_0:Int) (v_1:Bool) (v_2:Bool) (v_3:B8) (v_4:Int) (v_5:Int) (v_6:Int) (v_7:Int) (v_8:Int) (v_9:B8) (v_10:TV) (v_11:TV) (v_12:TV) (st:St) (K:V13 (St->Prop)) (h:CallT PR CH [(.agg (cV v_0 v_1 v_2 v_3 v_4 v_5 v_6 v_7 v_8 v_9 v_10 v_11 v_12)),.int .i64 65536] [sV] st (fun (n1:Int) (b1 b2:Bool) (s1:B8) (n2 n3 n4 n5 n6:Int) (s2:B8) (v1 v2 v3:TV) a=>need (List.all (cV n1 b1 b2 s1 n2 n3 n4 n5 n6 s2 v1 v2 v3) Ah) (K n1 b1 b2 s1 n2 n3 n4 n5 n6 s2 v1 v2 v3 a))):CallT PR DP [(.agg (cV v_0 v_1 v_2 v_3 v_4 v_5 v_6 v_7 v_8 v_9 v_10 v_11 v_12))] [sV] st K:=
 Af (cfg:=⟨[1,2],[],[]⟩) (h:= .none) mixed (fun _ _=>Tryz.call25 _ _) Tryz.func25 (by kernel_rfl) (by kernel_rfl) h
theorem Gd (b:Nat) (t:Nat) (st:St) (K:V13 (St->Prop)) (h:Ai (Ac st [] (.t (.box t 0)) 0) (fun (v1:TV)=>need (isSl v1) (∃(I1:Int->TV->TV->TV->Int->V13 (V13 (St->Prop))) (M1:Int->TV->TV->TV->Int->V13 (V13 (St->Nat))),(I1 0 ((.box b 0)) ((.box t 0)) v1 ((lenS v1:Int)) 0 false false [] 0 0 0 0 0 [] .nilSlice .nilSlice .nilSlice 7 false false [] 0 0 0 0 0 [] .nilSlice .nilSlice .nilSlice st)/\∀c k d g j n1 b1 b2 s1 n2 n3 n4 n5 n6 s2 v2 v3 v4 n7 b3 b4 s3 n8 n9 f i e s4 v5 v6 v7 a,I1 c k d g j n1 b1 b2 s1 n2 n3 n4 n5 n6 s2 v2 v3 v4 n7 b3 b4 s3 n8 n9 f i e s4 v5 v6 v7 a->(BId (c<j) (((0<=c/\c<(lenZ 1 g:Int))/\Ai (Ac a [] (.t (ixT 1 g c.toNat)) 0) (fun (x2:TV)=>AE .str x2 (fun (s5:B8)=>need (isPtr d) (need (isPtr d) (Ai (Ac a [] (.t (At d 1)) 0) (fun (v8:TV)=>Ai (ED a v8) (fun (es1:List (B8×TV))=>need (isPtr (Ar .nilPtr (Av s5 es1))) (need (isPtr (Ar .nilPtr (Av s5 es1))) (Ai ((Al a [] (.t (At (Ar .nilPtr (Av s5 es1)) 2)) 0 13).map TV.agg) (fun (x4:TV)=>BG [.int .i64,.bool,.bool,.str,.int .i64,.int .i64,.int .i64,.int .i64,.int .i64,.str,.tv,.tv,.tv] x4 (fun (f1:Int) (b5 b6:Bool) (s6:B8) (f9 g1 f8 g0 e5:Int) (s7:B8) (v9 e9 f6:TV)=>need (List.all (cV f1 b5 b6 s6 f9 g1 f8 g0 e5 s7 v9 e9 f6) Ah) (need (isPtr (Ar .nilPtr (Av s5 es1))) (need (isPtr (Ar .nilPtr (Av s5 es1))) (Ai (Ac a [] (.t (At (Ar .nilPtr (Av s5 es1)) 0)) 0) (fun (i2:TV)=>need (FC i2) (BIf (!CN i2) (need (isPtr (Ar .nilPtr (Av s5 es1))) (need (isPtr (Ar .nilPtr (Av s5 es1))) (Ai (Ac a [] (.t (At (Ar .nilPtr (Av s5 es1)) 0)) 0) (fun (i4:TV)=>CallT PR Ao [k,i4] [sV] a (fun (f5:Int) (b7 b8:Bool) (s8:B8) (f0 f7 f3 g4 e8:Int) (s9:B8) (g3 f2 g2:TV) i7=>need (List.all (cV f5 b7 b8 s8 f0 f7 f3 g4 e8 s9 g3 f2 g2) Ah) (need (List.all [.str s5,.int .i64 f5,.bool b7,.bool b8,.str s8,.int .i64 f0,.int .i64 f7,.int .i64 f3,.int .i64 g4,.int .i64 e8,.str s9,g3,f2,g2] Ah) (Cl 65 14 184 v7 1 [.str s5,.int .i64 f5,.bool b7,.bool b8,.str s8,.int .i64 f0,.int .i64 f7,.int .i64 f3,.int .i64 g4,.int .i64 e8,.str s9,g3,f2,g2] i7 (fun (f4:TV) h4=>need (List.all [f4] Ah) ((I1 ((i64.wrap (c+(1:Int)))) k d g j n1 b1 b2 s1 n2 n3 n4 n5 n6 s2 v2 v3 v4 n7 b3 b4 s3 n8 n9 f i e s4 v5 v6 f4 h4/\M1 ((i64.wrap (c+(1:Int)))) k d g j n1 b1 b2 s1 n2 n3 n4 n5 n6 s2 v2 v3 v4 n7 b3 b4 s3 n8 n9 f i e s4 v5 v6 f4 h4<M1 c k d g j n1 b1 b2 s1 n2 n3 n4 n5 n6 s2 v2 v3 v4 n7 b3 b4 s3 n8 n9 f i e s4 v5 v6 v7 a)))))))))) (need (isPtr (Ar .nilPtr (Av s5 es1))) (need (isPtr (Ar .nilPtr (Av s5 es1))) (Ai (Ac a [] (.t (At (Ar .nilPtr (Av s5 es1)) 1)) 0) (fun (g8:TV)=>need (isSl g8) (BId ((0:Int)<(lenS g8:Int)) (need (isPtr (Ar .nilPtr (Av s5 es1))) (need (isPtr (Ar .nilPtr (Av s5 es1))) (Ai (Ac a [] (.t (At (Ar .nilPtr (Av s5 es1)) 1)) 0) (fun (e6:TV)=>need (isSl e6) (∃(I2:Int->TV->TV->B8->TV->Int->Int->TV->Int->V13 (V13 (V13 (St->Prop)))) (M2:Int->TV->TV->B8->TV->Int->Int->TV->Int->V13 (V13 (V13 (St->Nat)))),(I2 0 k d s5 g j c e6 ((lenS e6:Int)) n1 b1 b2 s1 n2 n3 n4 n5 n6 s2 v2 v3 v4 n7 b3 b4 s3 n8 n9 f i e s4 v5 v6 v7 6 false false [] 0 0 0 0 0 [] .nilSlice .nilSlice .nilSlice a)/\∀l m a7 c5 d0 r c8 b0 d9 a0 b9 y d4 a6 a5 d2 a3 w v c6 c2 d8 d1 d7 d6 c9 a4 a1 d5 a9 p c0 u a2 e0 n c1 o d3 c7 x a8 c3 z q s e1 c4 e2,I2 l m a7 c5 d0 r c8 b0 d9 a0 b9 y d4 a6 a5 d2 a3 w v c6 c2 d8 d1 d7 d6 c9 a4 a1 d5 a9 p c0 u a2 e0 n c1 o d3 c7 x a8 c3 z q s e1 c4 e2->(BId (l<d9) (((0<=l/\l<(lenZ 1 b0:Int))/\Ai (Ac e2 [] (.t (ixT 1 b0 l.toNat)) 0) (fun (i6:TV)=>CallT PR Ao [m,i6] [sV] e2 (fun (h0:Int) (h6 h5:Bool) (h9:B8) (i0 i3 h2 h1 g6:Int) (h7:B8) (i1 h3 g5:TV) i5=>need (List.all (cV h0 h6 h5 h9 i0 i3 h2 h1 g6 h7 i1 h3 g5) Ah) (Cl 33 13 168 e1 1 (cV h0 h6 h5 h9 i0 i3 h2 h1 g6 h7 i1 h3 g5) i5 (fun (e3:TV) g9=>need (List.all [e3] Ah) ((I2 ((i64.wrap (l+(1:Int)))) m a7 c5 d0 r c8 b0 d9 a0 b9 y d4 a6 a5 d2 a3 w v c6 c2 d8 d1 d7 d6 c9 a4 a1 d5 a9 p c0 u a2 e0 n c1 o d3 c7 x a8 c3 z q s e3 c4 g9/\M2 ((i64.wrap (l+(1:Int)))) m a7 c5 d0 r c8 b0 d9 a0 b9 y d4 a6 a5 d2 a3 w v c6 c2 d8 d1 d7 d6 c9 a4 a1 d5 a9 p c0 u a2 e0 n c1 o d3 c7 x a8 c3 z q s e3 c4 g9<M2 l m a7 c5 d0 r c8 b0 d9 a0 b9 y d4 a6 a5 d2 a3 w v c6 c2 d8 d1 d7 d6 c9 a4 a1 d5 a9 p c0 u a2 e0 n c1 o d3 c7 x a8 c3 z q s e1 c4 e2)))))))) (need (List.all [.str c5,.int .i64 n,.bool c1,.bool o,.str d3,.int .i64 c7,.int .i64 x,.int .i64 a8,.int .i64 c3,.int .i64 z,.str q,s,e1,c4] Ah) (Cl 65 14 184 e0 1 [.str c5,.int .i64 n,.bool c1,.bool o,.str d3,.int .i64 c7,.int .i64 x,.int .i64 a8,.int .i64 c3,.int .i64 z,.str q,s,e1,c4] e2 (fun (e4:TV) g7=>need (List.all [e4] Ah) ((I1 ((i64.wrap (c8+(1:Int)))) m a7 d0 r a0 b9 y d4 a6 a5 d2 a3 w v c6 c2 d8 d1 d7 d6 c9 a4 a1 d5 a9 p c0 u a2 e4 g7/\M1 ((i64.wrap (c8+(1:Int)))) m a7 d0 r a0 b9 y d4 a6 a5 d2 a3 w v c6 c2 d8 d1 d7 d6 c9 a4 a1 d5 a9 p c0 u a2 e4 g7<M1 c k d g j n1 b1 b2 s1 n2 n3 n4 n5 n6 s2 v2 v3 v4 n7 b3 b4 s3 n8 n9 f i e s4 v5 v6 v7 a))))))))))) (need (List.all [.str s5,.int .i64 f1,.bool b5,.bool b6,.str s6,.int .i64 f9,.int .i64 g1,.int .i64 f8,.int .i64 g0,.int .i64 e5,.str s7,v9,e9,f6] Ah) (Cl 65 14 184 v7 1 [.str s5,.int .i64 f1,.bool b5,.bool b6,.str s6,.int .i64 f9,.int .i64 g1,.int .i64 f8,.int .i64 g0,.int .i64 e5,.str s7,v9,e9,f6] a (fun (e7:TV) h8=>need (List.all [e7] Ah) ((I1 ((i64.wrap (c+(1:Int)))) k d g j n1 b1 b2 s1 n2 n3 n4 n5 n6 s2 v2 v3 v4 n7 b3 b4 s3 n8 n9 f i e s4 v5 v6 e7 h8/\M1 ((i64.wrap (c+(1:Int)))) k d g j n1 b1 b2 s1 n2 n3 n4 n5 n6 s2 v2 v3 v4 n7 b3 b4 s3 n8 n9 f i e s4 v5 v6 e7 h8<M1 c k d g j n1 b1 b2 s1 n2 n3 n4 n5 n6 s2 v2 v3 v4 n7 b3 b4 s3 n8 n9 f i e s4 v5 v6 v7 a))))))))))))))))))))))))))) (need (List.all (cV n7 b3 b4 s3 n8 n9 f i e s4 v5 v6 v7) Ah) (K n7 b3 b4 s3 n8 n9 f i e s4 v5 v6 v7 a)))))):CallT PR Ao [(.box b 0),(.box t 0)] [sV] st K:=
 Af (cfg:=⟨[4,5,9],[],[]⟩) (h:=(.seq .none (.seq .none (.seq (.seq .none (.block (.loop ⟨[(18,.int .i64),(0,.tv),(1,.tv),(16,.tv),(17,.int .i64)],[(4,0,0),(5,1,0)],[(0,13),(1,13)],[(0,0,.int .i64),(0,1,.bool),(0,2,.bool),(0,3,.str),(0,4,.int .i64),(0,5,.int .i64),(0,6,.int .i64),(0,7,.int .i64),(0,8,.int .i64),(0,9,.str),(0,10,.tv),(0,11,.tv),(0,12,.tv),(1,0,.int .i64),(1,1,.bool),(1,2,.bool),(1,3,.str),(1,4,.int .i64),(1,5,.int .i64),(1,6,.int .i64),(1,7,.int .i64),(1,8,.int .i64),(1,9,.str),(1,10,.tv),(1,11,.tv),(1,12,.tv)]⟩ (.seq .none (.seq .none (.seq (.block (.seq .none (.seq .none (.seq .none (.seq (.seq .none (.cond .none (.seq .none (.cond (.seq .none (.seq .none (.block (.loop ⟨[(55,.int .i64),(0,.tv),(1,.tv),(7,.str),(16,.tv),(17,.int .i64),(18,.int .i64),(53,.tv),(54,.int .i64)],[(4,0,0),(5,1,0),(9,2,0)],[(0,13),(1,13),(2,13)],[(0,0,.int .i64),(0,1,.bool),(0,2,.bool),(0,3,.str),(0,4,.int .i64),(0,5,.int .i64),(0,6,.int .i64),(0,7,.int .i64),(0,8,.int .i64),(0,9,.str),(0,10,.tv),(0,11,.tv),(0,12,.tv),(1,0,.int .i64),(1,1,.bool),(1,2,.bool),(1,3,.str),(1,4,.int .i64),(1,5,.int .i64),(1,6,.int .i64),(1,7,.int .i64),(1,8,.int .i64),(1,9,.str),(1,10,.tv),(1,11,.tv),(1,12,.tv),(2,0,.int .i64),(2,1,.bool),(2,2,.bool),(2,3,.str),(2,4,.int .i64),(2,5,.int .i64),(2,6,.int .i64),(2,7,.int .i64),(2,8,.int .i64),(2,9,.str),(2,10,.tv),(2,11,.tv),(2,12,.tv)]⟩ .none)))) .none)))) .none))))) .none)))))) .none)))) mixed (fun _ _=>Tryz.call26 _ _) Tryz.func26 (by kernel_rfl) (by kernel_rfl) h
theorem IY (l:TV) (st:St) (K:V13 (TV->TV->Int->Int->St->Prop)) (h:CallT PR Eg [] [.agg [.int .i64,.bool,.bool,.str,.int .i64,.int .i64,.int .i64,.int .i64,.int .i64,.str,.tv,.tv,.tv,.tv,.tv]] st (fun (n1:Int) (b1 b2:Bool) (s1:B8) (n2 n3 n4 n5 n6:Int) (s2:B8) (v1 v2 v3 v4 v5:TV) d0=>need (List.all [.int .i64 n1,.bool b1,.bool b2,.str s1,.int .i64 n2,.int .i64 n3,.int .i64 n4,.int .i64 n5,.int .i64 n6,.str s2,v1,v2,v3,v4,v5] Ah) (∃(I1:Int->TV->V13 (TV->TV->V13 (TV->TV->St->Prop))) (M1:Int->TV->V13 (TV->TV->V13 (TV->TV->St->Nat))),(I1 0 l 0 false false [] 0 0 0 0 0 [] .nilSlice .nilSlice .nilSlice .nilSlice .nilSlice n1 b1 b2 s1 n2 n3 n4 n5 n6 s2 v1 v2 v3 v4 v5 d0)/\∀a b n7 b3 b4 s3 n8 n9 a2 a5 a7 s4 v6 v7 v8 v9 a3 k b5 b6 s5 f j e g d s6 i n c m o a8,I1 a b n7 b3 b4 s3 n8 n9 a2 a5 a7 s4 v6 v7 v8 v9 a3 k b5 b6 s5 f j e g d s6 i n c m o a8->(need (isSl b) (BId (a<(lenS b:Int)) (((0<=a/\a<(lenZ 16 b:Int))/\Ai ((Al a8 [] (.t (ixT 16 b a.toNat)) 0 16).map TV.agg) (fun (x1:TV)=>BG [.bool,.bool,.tv,.int .i64,.bool,.bool,.str,.int .i64,.int .i64,.int .i64,.int .i64,.int .i64,.str,.tv,.tv,.tv] x1 (fun (b7 b8:Bool) (c6:TV) (c9:Int) (b9 d2:Bool) (s7:B8) (c8 c4 d1 d3 c3:Int) (s8:B8) (c2 c7 c5:TV)=>CallT PR Dg [(.agg [.int .i64 k,.bool b5,.bool b6,.str s5,.int .i64 f,.int .i64 j,.int .i64 e,.int .i64 g,.int .i64 d,.str s6,i,n,c,m,o]),.int .i64 a,(.agg [.bool b7,.bool b8,c6,.int .i64 c9,.bool b9,.bool d2,.str s7,.int .i64 c8,.int .i64 c4,.int .i64 d1,.int .i64 d3,.int .i64 c3,.str s8,c2,c7,c5])] [.agg [.int .i64,.bool,.bool,.str,.int .i64,.int .i64,.int .i64,.int .i64,.int .i64,.str,.tv,.tv,.tv,.tv,.tv],.one .tv,.one (.int .i64)] a8 (fun (q:Int) (y x:Bool) (s9:B8) (p a1 r u z:Int) (w:B8) (v s a0 a6 a4 d4:TV) (b0:Int) a9=>need (List.all [.int .i64 q,.bool y,.bool x,.str s9,.int .i64 p,.int .i64 a1,.int .i64 r,.int .i64 u,.int .i64 z,.str w,v,s,a0,a6,a4] Ah) (BId (b0=0) (CallT PR CU [(.agg (cV q y x s9 p a1 r u z w v s a0))] [.one (.int .i64)] a9 (fun (c1:Int) c0=>BId (c1≠0) (need (List.all [.int .i64 k,.bool b5,.bool b6,.str s5,.int .i64 f,.int .i64 j,.int .i64 e,.int .i64 g,.int .i64 d,.str s6,i,n,c,m,o] Ah) (K k b5 b6 s5 f j e g d s6 i n c m o a c1 c0)) (need (List.all [.int .i64 q,.bool y,.bool x,.str s9,.int .i64 p,.int .i64 a1,.int .i64 r,.int .i64 u,.int .i64 z,.str w,v,s,a0,a6,a4] Ah) ((I1 ((i64.wrap (a+(1:Int)))) b n7 b3 b4 s3 n8 n9 a2 a5 a7 s4 v6 v7 v8 v9 a3 q y x s9 p a1 r u z w v s a0 a6 a4 c0/\M1 ((i64.wrap (a+(1:Int)))) b n7 b3 b4 s3 n8 n9 a2 a5 a7 s4 v6 v7 v8 v9 a3 q y x s9 p a1 r u z w v s a0 a6 a4 c0<M1 a b n7 b3 b4 s3 n8 n9 a2 a5 a7 s4 v6 v7 v8 v9 a3 k b5 b6 s5 f j e g d s6 i n c m o a8))))) (BId (b0≠0) (need (List.all [.int .i64 k,.bool b5,.bool b6,.str s5,.int .i64 f,.int .i64 j,.int .i64 e,.int .i64 g,.int .i64 d,.str s6,i,n,c,m,o] Ah) (K k b5 b6 s5 f j e g d s6 i n c m o a b0 a9)) (need (List.all [.int .i64 q,.bool y,.bool x,.str s9,.int .i64 p,.int .i64 a1,.int .i64 r,.int .i64 u,.int .i64 z,.str w,v,s,a0,a6,a4] Ah) ((I1 ((i64.wrap (a+(1:Int)))) b n7 b3 b4 s3 n8 n9 a2 a5 a7 s4 v6 v7 v8 v9 a3 q y x s9 p a1 r u z w v s a0 a6 a4 a9/\M1 ((i64.wrap (a+(1:Int)))) b n7 b3 b4 s3 n8 n9 a2 a5 a7 s4 v6 v7 v8 v9 a3 q y x s9 p a1 r u z w v s a0 a6 a4 a9<M1 a b n7 b3 b4 s3 n8 n9 a2 a5 a7 s4 v6 v7 v8 v9 a3 k b5 b6 s5 f j e g d s6 i n c m o a8)))))))))) (need (List.all [.int .i64 k,.bool b5,.bool b6,.str s5,.int .i64 f,.int .i64 j,.int .i64 e,.int .i64 g,.int .i64 d,.str s6,i,n,c,m,o] Ah) (K k b5 b6 s5 f j e g d s6 i n c m o 0 0 a8))))))):CallT PR DE [l] [.agg [.int .i64,.bool,.bool,.str,.int .i64,.int .i64,.int .i64,.int .i64,.int .i64,.str,.tv,.tv,.tv,.tv,.tv],.one (.int .i64),.one (.int .i64)] st K:=
 Af (cfg:=⟨[2,5,7],[],[23]⟩) (h:=(.seq .none (.seq .none (.seq (.seq .none (.block (.loop ⟨[(6,.int .i64),(0,.tv)],[(2,0,0),(5,1,0)],[(0,15),(1,15)],[(0,0,.int .i64),(0,1,.bool),(0,2,.bool),(0,3,.str),(0,4,.int .i64),(0,5,.int .i64),(0,6,.int .i64),(0,7,.int .i64),(0,8,.int .i64),(0,9,.str),(0,10,.tv),(0,11,.tv),(0,12,.tv),(0,13,.tv),(0,14,.tv),(1,0,.int .i64),(1,1,.bool),(1,2,.bool),(1,3,.str),(1,4,.int .i64),(1,5,.int .i64),(1,6,.int .i64),(1,7,.int .i64),(1,8,.int .i64),(1,9,.str),(1,10,.tv),(1,11,.tv),(1,12,.tv),(1,13,.tv),(1,14,.tv)]⟩ .none))) .none)))) mixed (fun _ _=>Tryz.call27 _ _) Tryz.func27 (by kernel_rfl) (by kernel_rfl) h
theorem HT (v_0:Int) (v_1:Bool) (v_2:Bool) (v_3:B8) (v_4:Int) (v_5:Int) (v_6:Int) (v_7:Int) (v_8:Int) (v_9:B8) (v_10:TV) (v_11:TV) (v_12:TV) (depth:Int) (n:Int) (bytes:Int) (st:St) (K:Int->St->Prop) (h:BId (depth<1) (K (-1) st) (BId (n<1) (K (-1) st) (BId (bytes<(v_9.length:Int)) (K (-1) st) (need (isSl v_10) (BId (bytes<(lenS v_10:Int)) (K (-1) st) (BId (bytes<(v_3.length:Int)) (K (-1) st) (need (isSl v_11) (BId (n<(lenS v_11:Int)) (K (-1) st) (need (isSl v_12) (BId (n<(lenS v_12:Int)) (K (-1) st) (∃(I1:Int->Int->Int->Int->V13 (St->Prop)) (M1:Int->Int->Int->Int->V13 (St->Nat)),(I1 ((i64.wrap (n-(1:Int)))) 0 depth bytes v_0 v_1 v_2 v_3 v_4 v_5 v_6 v_7 v_8 v_9 v_10 v_11 v_12 st)/\∀r m b a n1 b1 b2 s1 n2 n3 n4 n5 n6 s2 v1 v2 v3 q,I1 r m b a n1 b1 b2 s1 n2 n3 n4 n5 n6 s2 v1 v2 v3 q->(need (isSl v2) (BId (m<(lenS v2:Int)) (BId ((0:Int)<=r) (((0<=m/\m<(lenZ 13 v2:Int))/\Ai ((Al q [] (.t (ixT 13 v2 m.toNat)) 0 13).map TV.agg) (fun (x1:TV)=>BG [.int .i64,.bool,.bool,.str,.int .i64,.int .i64,.int .i64,.int .i64,.int .i64,.str,.tv,.tv,.tv] x1 (fun (n7:Int) (b3 b4:Bool) (s3:B8) (n8 n9 c9 d7 e8:Int) (s4:B8) (v4 v5 v6:TV)=>CallT PR Bc [(.agg (cV n7 b3 b4 s3 n8 n9 c9 d7 e8 s4 v4 v5 v6)),(.int .i64 (i64.wrap (b-(1:Int)))),.int .i64 r,.int .i64 a] [.one (.int .i64)] q (fun (c2:Int) c0=>(I1 c2 ((i64.wrap (m+(1:Int)))) b a n1 b1 b2 s1 n2 n3 n4 n5 n6 s2 v1 v2 v3 c0/\M1 c2 ((i64.wrap (m+(1:Int)))) b a n1 b1 b2 s1 n2 n3 n4 n5 n6 s2 v1 v2 v3 c0<M1 r m b a n1 b1 b2 s1 n2 n3 n4 n5 n6 s2 v1 v2 v3 q)))))) (∃(I2:Int->Int->Int->Int->V13 (St->Prop)) (M2:Int->Int->Int->Int->V13 (St->Nat)),(I2 r 0 b a n1 b1 b2 s1 n2 n3 n4 n5 n6 s2 v1 v2 v3 q)/\∀o f e c y b5 b6 s5 a1 x z v a4 s6 v7 v8 v9 l,I2 o f e c y b5 b6 s5 a1 x z v a4 s6 v7 v8 v9 l->(need (isSl v9) (BId (f<(lenS v9:Int)) (BId ((0:Int)<=o) (((0<=f/\f<(lenZ 14 v9:Int))/\need (isPtr (ixT 14 v9 f.toNat)) (Ai (Ac l [] (.t (At (ixT 14 v9 f.toNat) 0)) 0) (fun (x2:TV)=>AE .str x2 (fun (s7:B8)=>BId (c<(s7.length:Int)) (K (-1) l) (((0<=f/\f<(lenZ 14 v9:Int))/\need (isPtr (ixT 14 v9 f.toNat)) (Ai ((Al l [] (.t (At (ixT 14 v9 f.toNat) 1)) 0 13).map TV.agg) (fun (x3:TV)=>BG [.int .i64,.bool,.bool,.str,.int .i64,.int .i64,.int .i64,.int .i64,.int .i64,.str,.tv,.tv,.tv] x3 (fun (e1:Int) (b7 b8:Bool) (s8:B8) (d0 e9 f0 c8 c7:Int) (s9:B8) (d3 d8 e7:TV)=>CallT PR Bc [(.agg (cV e1 b7 b8 s8 d0 e9 f0 c8 c7 s9 d3 d8 e7)),(.int .i64 (i64.wrap (e-(1:Int)))),.int .i64 o,.int .i64 c] [.one (.int .i64)] l (fun (b0:Int) c1=>(I2 b0 ((i64.wrap (f+(1:Int)))) e c y b5 b6 s5 a1 x z v a4 s6 v7 v8 v9 c1/\M2 b0 ((i64.wrap (f+(1:Int)))) e c y b5 b6 s5 a1 x z v a4 s6 v7 v8 v9 c1<M2 o f e c y b5 b6 s5 a1 x z v a4 s6 v7 v8 v9 l)))))))))))) (K o l)) (K o l))))) (∃(I3:Int->Int->Int->Int->V13 (St->Prop)) (M3:Int->Int->Int->Int->V13 (St->Nat)),(I3 r 0 b a n1 b1 b2 s1 n2 n3 n4 n5 n6 s2 v1 v2 v3 q)/\∀p g i d a9 b9 a8 a2 w a0 a7 u a3 a5 s a6 j k,I3 p g i d a9 b9 a8 a2 w a0 a7 u a3 a5 s a6 j k->(need (isSl j) (BId (g<(lenS j:Int)) (BId ((0:Int)<=p) (((0<=g/\g<(lenZ 14 j:Int))/\need (isPtr (ixT 14 j g.toNat)) (Ai (Ac k [] (.t (At (ixT 14 j g.toNat) 0)) 0) (fun (x4:TV)=>AE .str x4 (fun (c6:B8)=>BId (d<(c6.length:Int)) (K (-1) k) (((0<=g/\g<(lenZ 14 j:Int))/\need (isPtr (ixT 14 j g.toNat)) (Ai ((Al k [] (.t (At (ixT 14 j g.toNat) 1)) 0 13).map TV.agg) (fun (x5:TV)=>BG [.int .i64,.bool,.bool,.str,.int .i64,.int .i64,.int .i64,.int .i64,.int .i64,.str,.tv,.tv,.tv] x5 (fun (d4:Int) (e6 e5:Bool) (d6:B8) (e4 d5 d2 d1 e3:Int) (e2:B8) (d9 c5 e0:TV)=>CallT PR Bc [(.agg (cV d4 e6 e5 d6 e4 d5 d2 d1 e3 e2 d9 c5 e0)),(.int .i64 (i64.wrap (i-(1:Int)))),.int .i64 p,.int .i64 d] [.one (.int .i64)] k (fun (c4:Int) c3=>(I3 c4 ((i64.wrap (g+(1:Int)))) i d a9 b9 a8 a2 w a0 a7 u a3 a5 s a6 j c3/\M3 c4 ((i64.wrap (g+(1:Int)))) i d a9 b9 a8 a2 w a0 a7 u a3 a5 s a6 j c3<M3 p g i d a9 b9 a8 a2 w a0 a7 u a3 a5 s a6 j k)))))))))))) (K p k)) (K p k))))))))))))))))):CallT PR Bc [(.agg (cV v_0 v_1 v_2 v_3 v_4 v_5 v_6 v_7 v_8 v_9 v_10 v_11 v_12)),.int .i64 depth,.int .i64 n,.int .i64 bytes] [.one (.int .i64)] st K:=
 Af (cfg:=⟨[4],[],[]⟩) (h:=(.seq .none (.seq .none (.seq .none (.seq (.seq .none (.block (.loop ⟨[(2,.int .i64),(9,.int .i64),(1,.int .i64),(3,.int .i64)],[(4,0,0)],[(0,13)],[(0,0,.int .i64),(0,1,.bool),(0,2,.bool),(0,3,.str),(0,4,.int .i64),(0,5,.int .i64),(0,6,.int .i64),(0,7,.int .i64),(0,8,.int .i64),(0,9,.str),(0,10,.tv),(0,11,.tv),(0,12,.tv)]⟩ .none))) (.seq (.seq .none (.block (.loop ⟨[(2,.int .i64),(10,.int .i64),(1,.int .i64),(3,.int .i64)],[(4,0,0)],[(0,13)],[(0,0,.int .i64),(0,1,.bool),(0,2,.bool),(0,3,.str),(0,4,.int .i64),(0,5,.int .i64),(0,6,.int .i64),(0,7,.int .i64),(0,8,.int .i64),(0,9,.str),(0,10,.tv),(0,11,.tv),(0,12,.tv)]⟩ .none))) .none)))))) mixed (fun _ _=>Tryz.call28 _ _) Tryz.func28 (by kernel_rfl) (by kernel_rfl) h
theorem GV (v_0:Int) (v_1:Bool) (v_2:Bool) (v_3:B8) (v_4:Int) (v_5:Int) (v_6:Int) (v_7:Int) (v_8:Int) (v_9:B8) (v_10:TV) (v_11:TV) (v_12:TV) (st:St) (K:Int->St->Prop) (h:need (isSl v_10) (∃(I1:Int->Int->V13 (St->Prop)) (M1:Int->Int->V13 (St->Nat)),(I1 ((i64.wrap ((i64.wrap ((v_9.length:Int)+(lenS v_10:Int)))+(v_3.length:Int)))) 0 v_0 v_1 v_2 v_3 v_4 v_5 v_6 v_7 v_8 v_9 v_10 v_11 v_12 st)/\∀f b n1 b1 b2 s1 n2 n3 n4 n5 n6 s2 v1 v2 v3 e,I1 f b n1 b1 b2 s1 n2 n3 n4 n5 n6 s2 v1 v2 v3 e->(need (isSl v2) (BId (b<(lenS v2:Int)) (((0<=b/\b<(lenZ 13 v2:Int))/\Ai ((Al e [] (.t (ixT 13 v2 b.toNat)) 0 13).map TV.agg) (fun (x1:TV)=>BG [.int .i64,.bool,.bool,.str,.int .i64,.int .i64,.int .i64,.int .i64,.int .i64,.str,.tv,.tv,.tv] x1 (fun (n7:Int) (b3 b4:Bool) (s3:B8) (n8 n9 v x a0:Int) (s4:B8) (v4 v5 v6:TV)=>CallT PR Bg [(.agg (cV n7 b3 b4 s3 n8 n9 v x a0 s4 v4 v5 v6))] [.one (.int .i64)] e (fun (p:Int) q=>(I1 ((i64.wrap (f+p))) ((i64.wrap (b+(1:Int)))) n1 b1 b2 s1 n2 n3 n4 n5 n6 s2 v1 v2 v3 q/\M1 ((i64.wrap (f+p))) ((i64.wrap (b+(1:Int)))) n1 b1 b2 s1 n2 n3 n4 n5 n6 s2 v1 v2 v3 q<M1 f b n1 b1 b2 s1 n2 n3 n4 n5 n6 s2 v1 v2 v3 e)))))) (∃(I2:Int->Int->V13 (St->Prop)) (M2:Int->Int->V13 (St->Nat)),(I2 f 0 n1 b1 b2 s1 n2 n3 n4 n5 n6 s2 v1 v2 v3 e)/\∀d a j b5 b6 s5 l i k g m s6 v7 v8 v9 c,I2 d a j b5 b6 s5 l i k g m s6 v7 v8 v9 c->(need (isSl v9) (BId (a<(lenS v9:Int)) (((0<=a/\a<(lenZ 14 v9:Int))/\need (isPtr (ixT 14 v9 a.toNat)) (Ai (Ac c [] (.t (At (ixT 14 v9 a.toNat) 0)) 0) (fun (x2:TV)=>AE .str x2 (fun (s7:B8)=>((0<=a/\a<(lenZ 14 v9:Int))/\need (isPtr (ixT 14 v9 a.toNat)) (Ai ((Al c [] (.t (At (ixT 14 v9 a.toNat) 1)) 0 13).map TV.agg) (fun (x3:TV)=>BG [.int .i64,.bool,.bool,.str,.int .i64,.int .i64,.int .i64,.int .i64,.int .i64,.str,.tv,.tv,.tv] x3 (fun (y:Int) (b7 b8:Bool) (s8:B8) (u a1 a3 s r:Int) (s9:B8) (w a2 z:TV)=>CallT PR Bg [(.agg (cV y b7 b8 s8 u a1 a3 s r s9 w a2 z))] [.one (.int .i64)] c (fun (o:Int) n=>(Ac n [] (.t (At (ixT 14 v9 a.toNat) 0)) 0=some (.str s7)/\(I2 ((i64.wrap ((i64.wrap (d+(s7.length:Int)))+o))) ((i64.wrap (a+(1:Int)))) j b5 b6 s5 l i k g m s6 v7 v8 v9 n/\M2 ((i64.wrap ((i64.wrap (d+(s7.length:Int)))+o))) ((i64.wrap (a+(1:Int)))) j b5 b6 s5 l i k g m s6 v7 v8 v9 n<M2 d a j b5 b6 s5 l i k g m s6 v7 v8 v9 c)))))))))))) (K d c)))))))):CallT PR Bg [(.agg (cV v_0 v_1 v_2 v_3 v_4 v_5 v_6 v_7 v_8 v_9 v_10 v_11 v_12))] [.one (.int .i64)] st K:=
 Af (cfg:=⟨[1],[],[46,54]⟩) (h:=(.seq .none (.seq .none (.seq (.seq .none (.block (.loop ⟨[(3,.int .i64),(4,.int .i64)],[(1,0,0)],[(0,13)],[(0,0,.int .i64),(0,1,.bool),(0,2,.bool),(0,3,.str),(0,4,.int .i64),(0,5,.int .i64),(0,6,.int .i64),(0,7,.int .i64),(0,8,.int .i64),(0,9,.str),(0,10,.tv),(0,11,.tv),(0,12,.tv)]⟩ .none))) (.seq (.seq .none (.block (.loop ⟨[(3,.int .i64),(5,.int .i64)],[(1,0,0)],[(0,13)],[(0,0,.int .i64),(0,1,.bool),(0,2,.bool),(0,3,.str),(0,4,.int .i64),(0,5,.int .i64),(0,6,.int .i64),(0,7,.int .i64),(0,8,.int .i64),(0,9,.str),(0,10,.tv),(0,11,.tv),(0,12,.tv)]⟩ .none))) .none))))) mixed (fun _ _=>Tryz.call29 _ _) Tryz.func29 (by kernel_rfl) (by kernel_rfl) h
theorem LP (v_0:Int) (v_1:Bool) (v_2:Bool) (v_3:B8) (v_4:Int) (v_5:Int) (v_6:Int) (v_7:Int) (v_8:Int) (v_9:B8) (v_10:TV) (v_11:TV) (v_12:TV) (st:St) (K:Int->St->Prop) (h:stB (st.push (.cells [.int .i64 0]) (some 3)) (.box st.nb 0) [.int .i64 0] (fun b=>CallT PR De [(.agg (cV v_0 v_1 v_2 v_3 v_4 v_5 v_6 v_7 v_8 v_9 v_10 v_11 v_12)),.int .i64 1,(.box st.nb 0)] [.one (.int .i64)] b (fun (n1:Int) a=>K n1 a))):CallT PR AK [(.agg (cV v_0 v_1 v_2 v_3 v_4 v_5 v_6 v_7 v_8 v_9 v_10 v_11 v_12))] [.one (.int .i64)] st K:=
 Af (cfg:=⟨[1],[],[]⟩) (h:= .none) mixed (fun _ _=>Tryz.call30 _ _) Tryz.func30 (by kernel_rfl) (by kernel_rfl) h
theorem HD (v_0:Int) (v_1:Bool) (v_2:Bool) (v_3:B8) (v_4:Int) (v_5:Int) (v_6:Int) (v_7:Int) (v_8:Int) (v_9:B8) (v_10:TV) (v_11:TV) (v_12:TV) (st:St) (K:Int->St->Prop) (h:CallT PR Cf [(.agg (cV v_0 v_1 v_2 v_3 v_4 v_5 v_6 v_7 v_8 v_9 v_10 v_11 v_12)),.int .i64 1,.int .i64 0] [.one (.int .i64),.one (.int .i64)] st (fun (n1 n2:Int) a=>K n2 a)):CallT PR CU [(.agg (cV v_0 v_1 v_2 v_3 v_4 v_5 v_6 v_7 v_8 v_9 v_10 v_11 v_12))] [.one (.int .i64)] st K:=
 Af (cfg:=⟨[1],[],[]⟩) (h:= .none) mixed (fun _ _=>Tryz.call32 _ _) Tryz.func32 (by kernel_rfl) (by kernel_rfl) h
theorem M6 (p:TV) (st:St) (K:Bool->St->Prop) (h:need (isSl p) (BId ((48:Int)<(lenS p:Int)) (K false st) (need (isSl p) (∃(I1:Int->TV->Int->St->Prop) (M1:Int->TV->Int->St->Nat),(I1 0 p ((lenS p:Int)) st)/\∀b c d a,I1 b c d a->(BId (b<d) (((0<=b/\b<(lenZ 3 c:Int))/\Ai ((Al a [] (.t (ixT 3 c b.toNat)) 0 3).map TV.agg) (fun (x1:TV)=>BG [.bool,.str,.int .i64] x1 (fun (b1:Bool) (s1:B8) (n1:Int)=>BIf b1 (BId (s1≠([]:B8)) (K false a) (BId (n1<0) (K false a) (BId ((65536:Int)<n1) (K false a) ((I1 ((i64.wrap (b+(1:Int)))) c d a/\M1 ((i64.wrap (b+(1:Int)))) c d a<M1 b c d a))))) (BId (n1≠0) (K false a) (BId ((1024:Int)<(s1.length:Int)) (K false a) (CallT PR D9 [.str s1] [.one .bool] a (fun (b2:Bool) e=>BIf (!b2) (K false e) ((I1 ((i64.wrap (b+(1:Int)))) c d e/\M1 ((i64.wrap (b+(1:Int)))) c d e<M1 b c d a)))))))))) (K true a)))))):CallT PR EA [p] [.one .bool] st K:=
 Af (cfg:=⟨[4],[],[]⟩) (h:=(.seq .none (.seq .none (.seq (.seq .none (.block (.loop ⟨[(10,.int .i64),(8,.tv),(9,.int .i64)],[],[],[]⟩ .none))) .none)))) mixed (fun _ _=>Tryz.call36 _ _) Tryz.func36 (by kernel_rfl) (by kernel_rfl) h
theorem M8 (v_0:Int) (v_1:Bool) (v_2:Bool) (v_3:B8) (v_4:Int) (v_5:Int) (v_6:Int) (v_7:Int) (v_8:Int) (v_9:B8) (v_10:TV) (v_11:TV) (v_12:TV) (p:TV) (st:St) (K:V13 (Int->St->Prop)) (h:CallT PR EA [p] [.one .bool] st (fun (b1:Bool) a=>BIf (!b1) (K 0 false false [] 0 0 0 0 0 [] .nilSlice .nilSlice .nilSlice 1 a) (CallT PR Hg [(.agg (cV v_0 v_1 v_2 v_3 v_4 v_5 v_6 v_7 v_8 v_9 v_10 v_11 v_12)),p] [sV,.one (.int .i64)] a (fun (n1:Int) (b2 b3:Bool) (s1:B8) (n2 n3 n4 n5 n6:Int) (s2:B8) (v1 v2 v3:TV) (n7:Int) e=>need (List.all (cV n1 b2 b3 s1 n2 n3 n4 n5 n6 s2 v1 v2 v3) Ah) (BId (n7≠0) (K 0 false false [] 0 0 0 0 0 [] .nilSlice .nilSlice .nilSlice n7 e) (CallT PR DP [(.agg (cV n1 b2 b3 s1 n2 n3 n4 n5 n6 s2 v1 v2 v3))] [sV] e (fun (n8:Int) (b4 b5:Bool) (s3:B8) (n9 b f c d:Int) (s4:B8) (v4 v5 v6:TV) g=>need (List.all (cV n8 b4 b5 s3 n9 b f c d s4 v4 v5 v6) Ah) (K n8 b4 b5 s3 n9 b f c d s4 v4 v5 v6 0 g)))))))):CallT PR Gq [(.agg (cV v_0 v_1 v_2 v_3 v_4 v_5 v_6 v_7 v_8 v_9 v_10 v_11 v_12)),p] [sV,.one (.int .i64)] st K:=
 Af (cfg:=⟨[2,4,6],[],[]⟩) (h:= .none) mixed (fun _ _=>Tryz.call37 _ _) Tryz.func37 (by kernel_rfl) (by kernel_rfl) h
theorem DB (s:TV) (st:St) (K:TV->St->Prop) (h:need (isSl s) (BIf (CN s) (K .nilSlice st) (Ai (Cu st 3 s) (fun (q1:Nat×List TV)=>need (List.all q1.2 Ah) (Cl 56 3 32 (.list 3 .full 0 []) q1.1 q1.2 st (fun (v1:TV) a=>K v1 a)))))):CallT PR A8 [s] [.one .tv] st K:=
 Af (cfg:=⟨[],[],[]⟩) (h:= .none) mixed (fun _ _=>Tryz.call38 _ _) Tryz.func38 (by kernel_rfl) (by kernel_rfl) h
theorem Hz (p:TV) (st:St) (K:Bool->St->Prop) (h:need (isSl p) (BId ((48:Int)<(lenS p:Int)) (K false st) (∃(I1:Int->TV->St->Prop) (M1:Int->TV->St->Nat),(I1 0 p st)/\∀a b c,I1 a b c->(need (isSl b) (BId (a<(lenS b:Int)) (((0<=a/\a<(lenZ 3 b:Int))/\need (isPtr (ixT 3 b a.toNat)) (Ai (Ac c [] (.t (At (ixT 3 b a.toNat) 0)) 0) (fun (x1:TV)=>AE .bool x1 (fun (b1:Bool)=>BIf b1 (((0<=a/\a<(lenZ 3 b:Int))/\need (isPtr (ixT 3 b a.toNat)) (Ai (Ac c [] (.t (At (ixT 3 b a.toNat) 1)) 0) (fun (x2:TV)=>AE .str x2 (fun (s1:B8)=>BId (s1≠([]:B8)) (K false c) (((0<=a/\a<(lenZ 3 b:Int))/\need (isPtr (ixT 3 b a.toNat)) (Ai (Ac c [] (.t (At (ixT 3 b a.toNat) 2)) 0) (fun (x3:TV)=>AE (.int .i64) x3 (fun (n1:Int)=>BId (n1<0) (K false c) (((0<=a/\a<(lenZ 3 b:Int))/\need (isPtr (ixT 3 b a.toNat)) (Ai (Ac c [] (.t (At (ixT 3 b a.toNat) 2)) 0) (fun (x4:TV)=>AE (.int .i64) x4 (fun (n2:Int)=>BId ((65536:Int)<n2) (K false c) (((0<=a/\a<(lenZ 3 b:Int))/\need (isPtr (ixT 3 b a.toNat)) (Ai (Ac c [] (.t (At (ixT 3 b a.toNat) 0)) 0) (fun (x5:TV)=>AE .bool x5 (fun (b2:Bool)=>BIf (!b2) (((0<=a/\a<(lenZ 3 b:Int))/\need (isPtr (ixT 3 b a.toNat)) (Ai (Ac c [] (.t (At (ixT 3 b a.toNat) 2)) 0) (fun (x6:TV)=>AE (.int .i64) x6 (fun (n3:Int)=>BId (n3≠0) (K false c) (((0<=a/\a<(lenZ 3 b:Int))/\need (isPtr (ixT 3 b a.toNat)) (Ai (Ac c [] (.t (At (ixT 3 b a.toNat) 1)) 0) (fun (x7:TV)=>AE .str x7 (fun (s2:B8)=>BId ((1024:Int)<(s2.length:Int)) (K false c) (((0<=a/\a<(lenZ 3 b:Int))/\need (isPtr (ixT 3 b a.toNat)) (Ai (Ac c [] (.t (At (ixT 3 b a.toNat) 1)) 0) (fun (x8:TV)=>AE .str x8 (fun (s3:B8)=>CallT PR AP [.str s3] [.one .bool] c (fun (b3:Bool) e=>BIf (!b3) (K false e) ((I1 ((i64.wrap (a+(1:Int)))) b e/\M1 ((i64.wrap (a+(1:Int)))) b e<M1 a b c)))))))))))))))))) ((I1 ((i64.wrap (a+(1:Int)))) b c/\M1 ((i64.wrap (a+(1:Int)))) b c<M1 a b c)))))))))))))))))))))) (((0<=a/\a<(lenZ 3 b:Int))/\need (isPtr (ixT 3 b a.toNat)) (Ai (Ac c [] (.t (At (ixT 3 b a.toNat) 0)) 0) (fun (x9:TV)=>AE .bool x9 (fun (b4:Bool)=>BIf (!b4) (((0<=a/\a<(lenZ 3 b:Int))/\need (isPtr (ixT 3 b a.toNat)) (Ai (Ac c [] (.t (At (ixT 3 b a.toNat) 2)) 0) (fun (g:TV)=>AE (.int .i64) g (fun (n4:Int)=>BId (n4≠0) (K false c) (((0<=a/\a<(lenZ 3 b:Int))/\need (isPtr (ixT 3 b a.toNat)) (Ai (Ac c [] (.t (At (ixT 3 b a.toNat) 1)) 0) (fun (i:TV)=>AE .str i (fun (s4:B8)=>BId ((1024:Int)<(s4.length:Int)) (K false c) (((0<=a/\a<(lenZ 3 b:Int))/\need (isPtr (ixT 3 b a.toNat)) (Ai (Ac c [] (.t (At (ixT 3 b a.toNat) 1)) 0) (fun (f:TV)=>AE .str f (fun (s5:B8)=>CallT PR AP [.str s5] [.one .bool] c (fun (b5:Bool) d=>BIf (!b5) (K false d) ((I1 ((i64.wrap (a+(1:Int)))) b d/\M1 ((i64.wrap (a+(1:Int)))) b d<M1 a b c)))))))))))))))))) ((I1 ((i64.wrap (a+(1:Int)))) b c/\M1 ((i64.wrap (a+(1:Int)))) b c<M1 a b c)))))))))))) (K true c)))))):CallT PR BX [p] [.one .bool] st K:=
 Af (cfg:=⟨[],[],[]⟩) (h:=(.seq .none (.seq .none (.seq (.seq .none (.block (.loop ⟨[(3,.int .i64),(0,.tv)],[],[],[]⟩ .none))) .none)))) mixed (fun _ _=>Tryz.call39 _ _) Tryz.func39 (by kernel_rfl) (by kernel_rfl) h
theorem HA (p:TV) (base:TV) (st:St) (K:Bool->St->Prop) (h:need (isSl p) (need (isSl base) (BId ((lenS base:Int)<=(lenS p:Int)) (need (isSl base) (((isLst 3 p=true/\0<=(lenS base:Int)/\(lenS base:Int)<=(lenS p:Int))/\CallT PR BY [(slT 3 .non p 0 (Int.toNat (lenS base:Int))),base] [.one .bool] st (fun (b1:Bool) a=>K b1 a)))) (K false st)))):CallT PR CS [p,base] [.one .bool] st K:=
 Af (cfg:=⟨[],[],[]⟩) (h:= .none) mixed (fun _ _=>Tryz.call40 _ _) Tryz.func40 (by kernel_rfl) (by kernel_rfl) h
theorem HV (v_0:Int) (v_1:Bool) (v_2:Bool) (v_3:B8) (v_4:Int) (v_5:Int) (v_6:Int) (v_7:Int) (v_8:Int) (v_9:B8) (v_10:TV) (v_11:TV) (v_12:TV) (s_0:Bool) (s_1:B8) (s_2:Int) (st:St) (K:Int->Int->St->Prop) (h:BIf s_0 (BId (v_0≠6) (K 0 6 st) (BId (s_2<0) (K 0 7 st) (need (isSl v_11) (BId ((lenS v_11:Int)<=s_2) (K 0 7 st) (K s_2 0 st))))) (BId (v_0≠7) (K 0 6 st) (∃(I1:Int->V13 (Bool->B8->Int->St->Prop)) (M1:Int->V13 (Bool->B8->Int->St->Nat)),(I1 0 v_0 v_1 v_2 v_3 v_4 v_5 v_6 v_7 v_8 v_9 v_10 v_11 v_12 s_0 s_1 s_2 st)/\∀a n1 b1 b2 s1 n2 n3 n4 n5 n6 s2 v1 v2 v3 b3 s3 n7 b,I1 a n1 b1 b2 s1 n2 n3 n4 n5 n6 s2 v1 v2 v3 b3 s3 n7 b->(need (isSl v3) (BId (a<(lenS v3:Int)) (((0<=a/\a<(lenZ 14 v3:Int))/\need (isPtr (ixT 14 v3 a.toNat)) (Ai (Ac b [] (.t (At (ixT 14 v3 a.toNat) 0)) 0) (fun (x1:TV)=>AE .str x1 (fun (s4:B8)=>BId (s4=s3) (K a 0 b) ((I1 ((i64.wrap (a+(1:Int)))) n1 b1 b2 s1 n2 n3 n4 n5 n6 s2 v1 v2 v3 b3 s3 n7 b/\M1 ((i64.wrap (a+(1:Int)))) n1 b1 b2 s1 n2 n3 n4 n5 n6 s2 v1 v2 v3 b3 s3 n7 b<M1 a n1 b1 b2 s1 n2 n3 n4 n5 n6 s2 v1 v2 v3 b3 s3 n7 b))))))) (K 0 7 b)))))):CallT PR Di [(.agg (cV v_0 v_1 v_2 v_3 v_4 v_5 v_6 v_7 v_8 v_9 v_10 v_11 v_12)),(.agg [.bool s_0,.str s_1,.int .i64 s_2])] [.one (.int .i64),.one (.int .i64)] st K:=
 Af (cfg:=⟨[2,3],[],[]⟩) (h:=(.seq .none (.seq .none (.seq .none (.seq (.seq .none (.block (.loop ⟨[(6,.int .i64)],[(2,0,0),(3,1,0)],[(0,13),(1,3)],[(0,0,.int .i64),(0,1,.bool),(0,2,.bool),(0,3,.str),(0,4,.int .i64),(0,5,.int .i64),(0,6,.int .i64),(0,7,.int .i64),(0,8,.int .i64),(0,9,.str),(0,10,.tv),(0,11,.tv),(0,12,.tv),(1,0,.bool),(1,1,.str),(1,2,.int .i64)]⟩ .none))) .none))))) mixed (fun _ _=>Tryz.call41 _ _) Tryz.func41 (by kernel_rfl) (by kernel_rfl) h
theorem HU (v_0:Int) (v_1:Bool) (v_2:Bool) (v_3:B8) (v_4:Int) (v_5:Int) (v_6:Int) (v_7:Int) (v_8:Int) (v_9:B8) (v_10:TV) (v_11:TV) (v_12:TV) (i:Int) (st:St) (K:V13 (St->Prop)) (h:BId (v_0=6) (((0<=i/\i<(lenZ 13 v_11:Int))/\Ai ((Al st [] (.t (ixT 13 v_11 i.toNat)) 0 13).map TV.agg) (fun (x1:TV)=>BG [.int .i64,.bool,.bool,.str,.int .i64,.int .i64,.int .i64,.int .i64,.int .i64,.str,.tv,.tv,.tv] x1 (fun (n1:Int) (b1 b2:Bool) (s1:B8) (n2 n3 n4 n5 n6:Int) (s2:B8) (v1 v2 v3:TV)=>need (List.all (cV n1 b1 b2 s1 n2 n3 n4 n5 n6 s2 v1 v2 v3) Ah) (K n1 b1 b2 s1 n2 n3 n4 n5 n6 s2 v1 v2 v3 st))))) (((0<=i/\i<(lenZ 14 v_12:Int))/\need (isPtr (ixT 14 v_12 i.toNat)) (Ai ((Al st [] (.t (At (ixT 14 v_12 i.toNat) 1)) 0 13).map TV.agg) (fun (x2:TV)=>BG [.int .i64,.bool,.bool,.str,.int .i64,.int .i64,.int .i64,.int .i64,.int .i64,.str,.tv,.tv,.tv] x2 (fun (n7:Int) (b3 b4:Bool) (s3:B8) (n8 n9 a b c:Int) (s4:B8) (v4 v5 v6:TV)=>need (List.all (cV n7 b3 b4 s3 n8 n9 a b c s4 v4 v5 v6) Ah) (K n7 b3 b4 s3 n8 n9 a b c s4 v4 v5 v6 st))))))):CallT PR Dh [(.agg (cV v_0 v_1 v_2 v_3 v_4 v_5 v_6 v_7 v_8 v_9 v_10 v_11 v_12)),.int .i64 i] [sV] st K:=
 Af (cfg:=⟨[2,4],[],[]⟩) (h:= .none) mixed (fun _ _=>Tryz.call42 _ _) Tryz.func42 (by kernel_rfl) (by kernel_rfl) h
theorem GZ (st:St) (K:V13 (St->Prop)) (h:K 2 false false str5 0 0 0 0 0 [] .nilSlice .nilSlice .nilSlice st):CallT PR Ea [] [sV] st K:=
 Af (cfg:=⟨[0],[],[]⟩) (h:= .none) mixed (fun _ _=>Tryz.call44 _ _) Tryz.func44 (by kernel_rfl) (by kernel_rfl) h
theorem Ht (st:St) (K:TV->St->Prop) (h:need (List.all [(.map st.nb)] Ah) (CallT PR AC [(.box (st.push (.pmap []) none).nb 0),.int .i64 1] [.one .tv] ((st.push (.pmap []) none).push (.cells [.nilPtr,.nilPtr,(.map st.nb),.int .i64 0]) (some 74)) (fun (v1:TV) b=>need (List.all [v1] Ah) (stB b (.box (st.push (.pmap []) none).nb 0) [v1] (fun a=>Ai (Ac a [] (.t (.box (st.push (.pmap []) none).nb 0)) 0) (fun (v2:TV)=>need (List.all [v2] Ah) (stB a (.box (st.push (.pmap []) none).nb 1) [v2] (fun c=>K ((.box (st.push (.pmap []) none).nb 0)) c)))))))):CallT PR CO [] [.one .tv] st K:=
 Af (cfg:=⟨[],[],[]⟩) (h:= .none) mixed (fun _ _=>Tryz.call45 _ _) Tryz.func45 (by kernel_rfl) (by kernel_rfl) h
theorem FS (b:Nat) (a_0:Bool) (a_1:Bool) (a_2:TV) (a_3:Int) (a_4:Bool) (a_5:Bool) (a_6:B8) (a_7:Int) (a_8:Int) (a_9:Int) (a_10:Int) (a_11:Int) (a_12:B8) (a_13:TV) (a_14:TV) (a_15:TV) (atx:Int) (st:St) (K:Int->St->Prop) (h:CallT PR C7 [(.agg [.bool a_0,.bool a_1,a_2,.int .i64 a_3,.bool a_4,.bool a_5,.str a_6,.int .i64 a_7,.int .i64 a_8,.int .i64 a_9,.int .i64 a_10,.int .i64 a_11,.str a_12,a_13,a_14,a_15])] [.one .bool] st (fun (b1:Bool) j=>BIf (!b1) (K 1 j) (Ai (Ac j [] (.t (.box b 1)) 0) (fun (v1:TV)=>∃(C1:TV->TV->Int->Bool->Bool->TV->V13 (St->Prop)),(BIf a_0 (Ai (Ac j [] (.t (.box b 0)) 0) (fun (v2:TV)=>C1 v2 ((.box b 0)) atx a_0 a_1 a_2 a_3 a_4 a_5 a_6 a_7 a_8 a_9 a_10 a_11 a_12 a_13 a_14 a_15 j)) (C1 v1 ((.box b 0)) atx a_0 a_1 a_2 a_3 a_4 a_5 a_6 a_7 a_8 a_9 a_10 a_11 a_12 a_13 a_14 a_15 j))/\∀i a o b2 b3 v3 n1 b4 b5 s1 n2 n3 n4 n5 n6 s2 v4 v5 v6 u,C1 i a o b2 b3 v3 n1 b4 b5 s1 n2 n3 n4 n5 n6 s2 v4 v5 v6 u->(CallT PR Cj [a,i,(.agg [.bool b2,.bool b3,v3,.int .i64 n1,.bool b4,.bool b5,.str s1,.int .i64 n2,.int .i64 n3,.int .i64 n4,.int .i64 n5,.int .i64 n6,.str s2,v4,v5,v6])] [.one .tv,.one .bool] u (fun (v7:TV) (b6:Bool) c=>BIf (!b6) (K 8 c) (need (isSl v3) (((0<=(i64.wrap ((lenS v3:Int)-(1:Int)))/\(i64.wrap ((lenS v3:Int)-(1:Int)))<(lenZ 1 v3:Int))/\Ai (Ac c [] (.t (ixT 1 v3 (Int.toNat (i64.wrap ((lenS v3:Int)-(1:Int)))))) 0) (fun (x3:TV)=>AE .str x3 (fun (s3:B8)=>need (isPtr v7) (need (isPtr v7) (Ai (Ac c [] (.t (At v7 2)) 0) (fun (x4:TV)=>AE (.int .i64) x4 (fun (n7:Int)=>BIf b3 (CallT PR BU [a,v7,.str s3] [.one (.int .i64)] c (fun (n8:Int) f=>BId (n8≠0) (K n8 f) (BId ((48:Int)<(i64.wrap (n7+(2:Int)))) (need (isPtr a) (need (isPtr a) (Ai (Ac f [] (.t (At a 0)) 0) (fun (v8:TV)=>CallT PR Ao [a,v8] [sV] f (fun (n9:Int) (b7 b8:Bool) (s4:B8) (h0 i3 f8 i7 q5:Int) (s5:B8) (v9 h6 o9:TV) c5=>CallT PR AK [(.agg (cV n9 b7 b8 s4 h0 i3 f8 i7 q5 s5 v9 h6 o9))] [.one (.int .i64)] c5 (fun (r1:Int) f3=>K r1 f3)))))) (need (isPtr a) (need (isPtr a) (Ai (Ac f [] (.t (At a 3)) 0) (fun (x6:TV)=>AE (.int .i64) x6 (fun (q2:Int)=>BId ((65536:Int)<q2) (need (isPtr a) (need (isPtr a) (Ai (Ac f [] (.t (At a 0)) 0) (fun (o6:TV)=>CallT PR Ao [a,o6] [sV] f (fun (r0:Int) (b9 f9:Bool) (s6:B8) (c8 o0 i6 p4 j4:Int) (s7:B8) (c2 s0 j2:TV) e4=>CallT PR AK [(.agg (cV r0 b9 f9 s6 c8 o0 i6 p4 j4 s7 c2 s0 j2))] [.one (.int .i64)] e4 (fun (t4:Int) l9=>K t4 l9)))))) (CallT PR Ay [v3,(.func Be [])] [.one .bool] f (fun (t2:Bool) n=>BIf t2 (need (isPtr a) (need (isPtr a) (Ai (Ac n [] (.t (At a 0)) 0) (fun (r3:TV)=>CallT PR Ao [a,r3] [sV] n (fun (g9:Int) (t1 l2:Bool) (s8:B8) (g8 k3 j6 q0 i5:Int) (s9:B8) (k1 e9 d3:TV) b0=>CallT PR AK [(.agg (cV g9 t1 l2 s8 g8 k3 j6 q0 i5 s9 k1 e9 d3))] [.one (.int .i64)] b0 (fun (f6:Int) a5=>K f6 a5)))))) (K 0 n))))))))))) (BIf b2 (CallT PR B3 [a,v7,.str s3] [.one (.int .i64)] c (fun (s:Int) d=>BId (s≠0) (K s d) (BId ((48:Int)<(i64.wrap (n7+(2:Int)))) (need (isPtr a) (need (isPtr a) (Ai (Ac d [] (.t (At a 0)) 0) (fun (m9:TV)=>CallT PR Ao [a,m9] [sV] d (fun (i8:Int) (d2 k9:Bool) (r7:B8) (h7 t0 l1 c9 c7:Int) (f4:B8) (l7 t3 e5:TV) w=>CallT PR AK [(.agg (cV i8 d2 k9 r7 h7 t0 l1 c9 c7 f4 l7 t3 e5))] [.one (.int .i64)] w (fun (n0:Int) a2=>K n0 a2)))))) (need (isPtr a) (need (isPtr a) (Ai (Ac d [] (.t (At a 3)) 0) (fun (r5:TV)=>AE (.int .i64) r5 (fun (f7:Int)=>BId ((65536:Int)<f7) (need (isPtr a) (need (isPtr a) (Ai (Ac d [] (.t (At a 0)) 0) (fun (i1:TV)=>CallT PR Ao [a,i1] [sV] d (fun (k5:Int) (k6 j9:Bool) (p3:B8) (m1 g1 f5 o3 q8:Int) (l3:B8) (k8 e2 o2:TV) a3=>CallT PR AK [(.agg (cV k5 k6 j9 p3 m1 g1 f5 o3 q8 l3 k8 e2 o2))] [.one (.int .i64)] a3 (fun (h2:Int) a8=>K h2 a8)))))) (CallT PR Ay [v3,(.func Be [])] [.one .bool] d (fun (q3:Bool) l=>BIf q3 (need (isPtr a) (need (isPtr a) (Ai (Ac l [] (.t (At a 0)) 0) (fun (m4:TV)=>CallT PR Ao [a,m4] [sV] l (fun (h1:Int) (l5 h5:Bool) (r4:B8) (d4 m5 e7 d1 o1:Int) (d6:B8) (l6 o4 j7:TV) a9=>CallT PR AK [(.agg (cV h1 l5 h5 r4 d4 m5 e7 d1 o1 d6 l6 o4 j7))] [.one (.int .i64)] a9 (fun (c4:Int) a0=>K c4 a0)))))) (K 0 l))))))))))) (need (isPtr v7) (need (isPtr v7) (Ai (Ac c [] (.t (At v7 1)) 0) (fun (d0:TV)=>Ai (ED c d0) (fun (es1:List (B8×TV))=>need (FC (Ar .nilPtr (Av s3 es1))) (BIf (!CN (Ar .nilPtr (Av s3 es1))) (K 8 c) (CallT PR AO [v7,.str s3,(.box c.nb 0)] [] (c.push (.cells [.nilPtr,.nilSlice,.int .i64 n1,.bool b4,.bool b5,.str s1,.int .i64 n2,.int .i64 n3,.int .i64 n4,.int .i64 n5,.int .i64 n6,.str s2,v4,v5,v6,.int .i64 o]) (some 92)) (fun (c0:St)=>CallT PR AK [(.agg (cV n1 b4 b5 s1 n2 n3 n4 n5 n6 s2 v4 v5 v6))] [.one (.int .i64)] c0 (fun (j0:Int) g=>BId (j0≠0) (need (isPtr a) (need (isPtr a) (Ai (Ac g [] (.t (At a 0)) 0) (fun (c1:TV)=>CallT PR Ao [a,c1] [sV] g (fun (d9:Int) (g5 g7:Bool) (m2:B8) (p7 p5 q7 d8 m3:Int) (l8:B8) (c6 f1 p1:TV) a4=>CallT PR AK [(.agg (cV d9 g5 g7 m2 p7 p5 q7 d8 m3 l8 c6 f1 p1))] [.one (.int .i64)] a4 (fun (i4:Int) a7=>K i4 a7)))))) (need (isPtr a) (need (isPtr a) (Ai (Ac g [] (.t (At a 3)) 0) (fun (r9:TV)=>AE (.int .i64) r9 (fun (q:Int)=>CallT PR Gl [(.agg (cV n1 b4 b5 s1 n2 n3 n4 n5 n6 s2 v4 v5 v6))] [.one (.int .i64)] g (fun (e6:Int) m=>(Ac m [] (.t (At a 3)) 0=some (.int .i64 q)/\need (isPtr a) (need (isPtr a) (stB m (At a 3) [(.int .i64 (i64.wrap (q+e6)))] (fun p=>need (isPtr v7) (need (isPtr v7) (Ai (Ac p [] (.t (At v7 2)) 0) (fun (h9:TV)=>AE (.int .i64) h9 (fun (r:Int)=>CallT PR FF [(.agg (cV n1 b4 b5 s1 n2 n3 n4 n5 n6 s2 v4 v5 v6))] [.one (.int .i64)] p (fun (p6:Int) e=>(Ac e [] (.t (At v7 2)) 0=some (.int .i64 r)/\BId ((48:Int)<(i64.wrap (r+p6))) (need (isPtr a) (need (isPtr a) (Ai (Ac e [] (.t (At a 0)) 0) (fun (e8:TV)=>CallT PR Ao [a,e8] [sV] e (fun (k7:Int) (q4 p8:Bool) (f0:B8) (j1 c3 g2 d7 j5:Int) (q1:B8) (k2 o8 r8:TV) v=>CallT PR AK [(.agg (cV k7 q4 p8 f0 j1 c3 g2 d7 j5 q1 k2 o8 r8))] [.one (.int .i64)] v (fun (f2:Int) x=>K f2 x)))))) (need (isPtr a) (need (isPtr a) (Ai (Ac e [] (.t (At a 3)) 0) (fun (q6:TV)=>AE (.int .i64) q6 (fun (l4:Int)=>BId ((65536:Int)<l4) (need (isPtr a) (need (isPtr a) (Ai (Ac e [] (.t (At a 0)) 0) (fun (i0:TV)=>CallT PR Ao [a,i0] [sV] e (fun (h3:Int) (m0 r2:Bool) (g4:B8) (e0 m8 h8 r6 o7:Int) (j3:B8) (e1 m7 h4:TV) a6=>CallT PR AK [(.agg (cV h3 m0 r2 g4 e0 m8 h8 r6 o7 j3 e1 m7 h4))] [.one (.int .i64)] a6 (fun (l0:Int) y=>K l0 y)))))) (CallT PR Ay [v3,(.func Be [])] [.one .bool] e (fun (g6:Bool) k=>BIf g6 (need (isPtr a) (need (isPtr a) (Ai (Ac k [] (.t (At a 0)) 0) (fun (g0:TV)=>CallT PR Ao [a,g0] [sV] k (fun (p0:Int) (p9 k4:Bool) (j8:B8) (q9 i9 p2 k0 g3:Int) (o5:B8) (d5 i2 e3:TV) z=>CallT PR AK [(.agg (cV p0 p9 k4 j8 q9 i9 p2 k0 g3 o5 d5 i2 e3))] [.one (.int .i64)] z (fun (m6:Int) a1=>K m6 a1)))))) (K 0 k))))))))))))))))))))))))))))))))))))))))))))))))):CallT PR B4 [(.box b 0),(.agg [.bool a_0,.bool a_1,a_2,.int .i64 a_3,.bool a_4,.bool a_5,.str a_6,.int .i64 a_7,.int .i64 a_8,.int .i64 a_9,.int .i64 a_10,.int .i64 a_11,.str a_12,a_13,a_14,a_15]),.int .i64 atx] [.one (.int .i64)] st K:=
 Af (cfg:=⟨[4],[],[71,81]⟩) (h:=(.seq .none (.seq .none (.seq .none (.cut ⟨[(7,.tv),(0,.tv),(2,.int .i64)],[(4,0,0)],[(0,16)],[(0,0,.bool),(0,1,.bool),(0,2,.tv),(0,3,.int .i64),(0,4,.bool),(0,5,.bool),(0,6,.str),(0,7,.int .i64),(0,8,.int .i64),(0,9,.int .i64),(0,10,.int .i64),(0,11,.int .i64),(0,12,.str),(0,13,.tv),(0,14,.tv),(0,15,.tv)]⟩ .none .none))))) mixed (fun _ _=>Tryz.call46 _ _) Tryz.func46 (by kernel_rfl) (by kernel_rfl) h
theorem Lf (v_0:Int) (b:Bool) (d:Bool) (v_3:B8) (v_4:Int) (v_5:Int) (v_6:Int) (v_7:Int) (v_8:Int) (v_9:B8) (v_10:TV) (v_11:TV) (v_12:TV) (left:Int) (st:St) (K:V13 (St->Prop)) (h:CallT PR Bz [v_10] [.one .tv] st (fun (v1:TV) h0=>need (List.all [v1] Ah) (BId (left<1) (need (List.all (cV v_0 b d v_3 v_4 v_5 v_6 v_7 v_8 v_9 v1 .nilSlice .nilSlice) Ah) (K v_0 b d v_3 v_4 v_5 v_6 v_7 v_8 v_9 v1 .nilSlice .nilSlice h0)) (need (isSl v_11) (∃(I1:TV->Int->Int->TV->Int->V13 (V13 (St->Prop))) (M1:TV->Int->Int->TV->Int->V13 (V13 (St->Nat))),(I1 .nilSlice 0 left v_11 ((lenS v_11:Int)) v_0 b d v_3 v_4 v_5 v_6 v_7 v_8 v_9 v1 v_11 v_12 0 false false [] 0 0 0 0 0 [] .nilSlice .nilSlice .nilSlice h0)/\∀a5 f a b x n1 b1 b2 s1 n2 n3 n4 n5 n6 s2 v2 v3 v4 n7 b3 b4 s3 n8 n9 w y v s4 v5 v6 v7 z,I1 a5 f a b x n1 b1 b2 s1 n2 n3 n4 n5 n6 s2 v2 v3 v4 n7 b3 b4 s3 n8 n9 w y v s4 v5 v6 v7 z->(BId (f<x) (((0<=f/\f<(lenZ 13 b:Int))/\Ai ((Al z [] (.t (ixT 13 b f.toNat)) 0 13).map TV.agg) (fun (x1:TV)=>BG [.int .i64,.bool,.bool,.str,.int .i64,.int .i64,.int .i64,.int .i64,.int .i64,.str,.tv,.tv,.tv] x1 (fun (e4:Int) (b5 b6:Bool) (s5:B8) (g3 g6 g2 g5 c8:Int) (s6:B8) (v8 v9 e1:TV)=>need (List.all (cV e4 b5 b6 s5 g3 g6 g2 g5 c8 s6 v8 v9 e1) Ah) (CallT PR CH [(.agg (cV e4 b5 b6 s5 g3 g6 g2 g5 c8 s6 v8 v9 e1)),(.int .i64 (i64.wrap (a-(1:Int))))] [sV] z (fun (f6:Int) (b7 b8:Bool) (s7:B8) (e3 g1 e5 h2 d8:Int) (s8:B8) (g0 f9 c6:TV) h4=>need (List.all (cV f6 b7 b8 s7 e3 g1 e5 h2 d8 s8 g0 f9 c6) Ah) (Gu 33 13 168 a5 1 (cV f6 b7 b8 s7 e3 g1 e5 h2 d8 s8 g0 f9 c6) h4 (fun (g9:TV) g7=>(I1 g9 ((i64.wrap (f+(1:Int)))) a b x n1 b1 b2 s1 n2 n3 n4 n5 n6 s2 v2 v3 v4 n7 b3 b4 s3 n8 n9 w y v s4 v5 v6 v7 g7/\M1 g9 ((i64.wrap (f+(1:Int)))) a b x n1 b1 b2 s1 n2 n3 n4 n5 n6 s2 v2 v3 v4 n7 b3 b4 s3 n8 n9 w y v s4 v5 v6 v7 g7<M1 a5 f a b x n1 b1 b2 s1 n2 n3 n4 n5 n6 s2 v2 v3 v4 n7 b3 b4 s3 n8 n9 w y v s4 v5 v6 v7 z))))))))) (need (isSl v4) (∃(I2:TV->Int->Int->TV->TV->Int->V13 (V13 (St->Prop))) (M2:TV->Int->Int->TV->TV->Int->V13 (V13 (St->Nat))),(I2 .nilSlice 0 a a5 v4 ((lenS v4:Int)) n1 b1 b2 s1 n2 n3 n4 n5 n6 s2 v2 v3 v4 n7 b3 b4 s3 n8 n9 w y v s4 v5 v6 v7 z)/\∀p e c g d u k b9 j s9 o n q l i r m c1 a7 c0 c4 c3 a3 a6 a4 c2 a8 a0 b0 a2 a1 a9 s,I2 p e c g d u k b9 j s9 o n q l i r m c1 a7 c0 c4 c3 a3 a6 a4 c2 a8 a0 b0 a2 a1 a9 s->(BId (e<u) (((0<=e/\e<(lenZ 14 d:Int))/\Ai ((Al s [] (.t (ixT 14 d e.toNat)) 0 14).map TV.agg) (fun (x2:TV)=>BG [.str,.int .i64,.bool,.bool,.str,.int .i64,.int .i64,.int .i64,.int .i64,.int .i64,.str,.tv,.tv,.tv] x2 (fun (c5:B8) (c7:Int) (f0 c9:Bool) (g8:B8) (f5 d6 e6 f3 d7:Int) (d1:B8) (f1 h1 d4:TV)=>need (List.all [.str c5,.int .i64 c7,.bool f0,.bool c9,.str g8,.int .i64 f5,.int .i64 d6,.int .i64 e6,.int .i64 f3,.int .i64 d7,.str d1,f1,h1,d4] Ah) (CallT PR CH [(.agg (cV c7 f0 c9 g8 f5 d6 e6 f3 d7 d1 f1 h1 d4)),(.int .i64 (i64.wrap (c-(1:Int))))] [sV] s (fun (d5:Int) (e9 e7:Bool) (f4:B8) (f8 g4 e0 d9 d0:Int) (f2:B8) (e2 e8 d2:TV) h3=>need (List.all [.str c5,.int .i64 d5,.bool e9,.bool e7,.str f4,.int .i64 f8,.int .i64 g4,.int .i64 e0,.int .i64 d9,.int .i64 d0,.str f2,e2,e8,d2] Ah) (Gu 65 14 184 p 1 [.str c5,.int .i64 d5,.bool e9,.bool e7,.str f4,.int .i64 f8,.int .i64 g4,.int .i64 e0,.int .i64 d9,.int .i64 d0,.str f2,e2,e8,d2] h3 (fun (f7:TV) d3=>(I2 f7 ((i64.wrap (e+(1:Int)))) c g d u k b9 j s9 o n q l i r m c1 a7 c0 c4 c3 a3 a6 a4 c2 a8 a0 b0 a2 a1 a9 d3/\M2 f7 ((i64.wrap (e+(1:Int)))) c g d u k b9 j s9 o n q l i r m c1 a7 c0 c4 c3 a3 a6 a4 c2 a8 a0 b0 a2 a1 a9 d3<M2 p e c g d u k b9 j s9 o n q l i r m c1 a7 c0 c4 c3 a3 a6 a4 c2 a8 a0 b0 a2 a1 a9 s))))))))) (need (List.all [g] Ah) (need (List.all [p] Ah) (need (List.all (cV k b9 j s9 o n q l i r m g p) Ah) (K k b9 j s9 o n q l i r m g p s))))))))))))):CallT PR CH [(.agg (cV v_0 b d v_3 v_4 v_5 v_6 v_7 v_8 v_9 v_10 v_11 v_12)),.int .i64 left] [sV] st K:=
 Af (cfg:=⟨[2,4,7,10],[33,52],[]⟩) (h:=(.seq .none (.seq .none (.seq .none (.seq .none (.seq (.seq .none (.block (.loop ⟨[(5,.tv),(23,.int .i64),(1,.int .i64),(21,.tv),(22,.int .i64)],[(2,0,0),(4,1,0)],[(0,13),(1,13)],[(0,0,.int .i64),(0,1,.bool),(0,2,.bool),(0,3,.str),(0,4,.int .i64),(0,5,.int .i64),(0,6,.int .i64),(0,7,.int .i64),(0,8,.int .i64),(0,9,.str),(0,10,.tv),(0,11,.tv),(0,12,.tv),(1,0,.int .i64),(1,1,.bool),(1,2,.bool),(1,3,.str),(1,4,.int .i64),(1,5,.int .i64),(1,6,.int .i64),(1,7,.int .i64),(1,8,.int .i64),(1,9,.str),(1,10,.tv),(1,11,.tv),(1,12,.tv)]⟩ .none))) (.seq .none (.seq (.seq .none (.block (.loop ⟨[(8,.tv),(38,.int .i64),(1,.int .i64),(5,.tv),(36,.tv),(37,.int .i64)],[(2,0,0),(4,1,0)],[(0,13),(1,13)],[(0,0,.int .i64),(0,1,.bool),(0,2,.bool),(0,3,.str),(0,4,.int .i64),(0,5,.int .i64),(0,6,.int .i64),(0,7,.int .i64),(0,8,.int .i64),(0,9,.str),(0,10,.tv),(0,11,.tv),(0,12,.tv),(1,0,.int .i64),(1,1,.bool),(1,2,.bool),(1,3,.str),(1,4,.int .i64),(1,5,.int .i64),(1,6,.int .i64),(1,7,.int .i64),(1,8,.int .i64),(1,9,.str),(1,10,.tv),(1,11,.tv),(1,12,.tv)]⟩ .none))) .none)))))))) mixed (fun _ _=>Tryz.call47 _ _) Tryz.func47 (by kernel_rfl) (by kernel_rfl) h
theorem Hx (st:St) (K:V13 (TV->TV->St->Prop)) (h:K 7 false false [] 0 0 0 0 0 [] .nilSlice .nilSlice .nilSlice .nilSlice .nilSlice st):CallT PR Eg [] [.agg [.int .i64,.bool,.bool,.str,.int .i64,.int .i64,.int .i64,.int .i64,.int .i64,.str,.tv,.tv,.tv,.tv,.tv]] st K:=
 Af (cfg:=⟨[0],[],[]⟩) (h:= .none) mixed (fun _ _=>Tryz.call48 _ _) Tryz.func48 (by kernel_rfl) (by kernel_rfl) h
theorem HS (x_0:Int) (x_1:Bool) (x_2:Bool) (x_3:B8) (x_4:Int) (x_5:Int) (x_6:Int) (x_7:Int) (x_8:Int) (x_9:B8) (x_10:TV) (x_11:TV) (x_12:TV) (x_13:TV) (x_14:TV) (i:Int) (a_0:Bool) (a_1:Bool) (a_2:TV) (a_3:Int) (a_4:Bool) (a_5:Bool) (a_6:B8) (a_7:Int) (a_8:Int) (a_9:Int) (a_10:Int) (a_11:Int) (a_12:B8) (a_13:TV) (a_14:TV) (a_15:TV) (st:St) (K:V13 (TV->TV->TV->Int->St->Prop)) (h:CallT PR BK [(.agg [.bool a_0,.bool a_1,a_2,.int .i64 a_3,.bool a_4,.bool a_5,.str a_6,.int .i64 a_7,.int .i64 a_8,.int .i64 a_9,.int .i64 a_10,.int .i64 a_11,.str a_12,a_13,a_14,a_15])] [.one .bool] st (fun (b1:Bool) w6=>BIf (!b1) (need (List.all [.int .i64 x_0,.bool x_1,.bool x_2,.str x_3,.int .i64 x_4,.int .i64 x_5,.int .i64 x_6,.int .i64 x_7,.int .i64 x_8,.str x_9,x_10,x_11,x_12,x_13,x_14] Ah) (K x_0 x_1 x_2 x_3 x_4 x_5 x_6 x_7 x_8 x_9 x_10 x_11 x_12 x_13 x_14 .nilSlice 1 w6)) (∃(C1:TV->Int->V13 (TV->TV->Bool->Bool->TV->V13 (V13 (TV->TV->St->Prop)))),(BIf a_0 (C1 .nilSlice i x_0 x_1 x_2 x_3 x_4 x_5 x_6 x_7 x_8 x_9 x_10 x_11 x_12 x_13 x_14 a_0 a_1 a_2 a_3 a_4 a_5 a_6 a_7 a_8 a_9 a_10 a_11 a_12 a_13 a_14 a_15 0 false false [] 0 0 0 0 0 [] .nilSlice .nilSlice .nilSlice .nilSlice .nilSlice w6) (C1 x_13 i x_0 x_1 x_2 x_3 x_4 x_5 x_6 x_7 x_8 x_9 x_10 x_11 x_12 x_13 x_14 a_0 a_1 a_2 a_3 a_4 a_5 a_6 a_7 a_8 a_9 a_10 a_11 a_12 a_13 a_14 a_15 0 false false [] 0 0 0 0 0 [] .nilSlice .nilSlice .nilSlice .nilSlice .nilSlice w6))/\∀d5 y1 n1 b2 b3 s1 n2 n3 n4 n5 n6 s2 v1 v2 v3 v4 v5 b4 b5 v6 n7 b6 b7 s3 n8 n9 p6 p9 u6 s4 v7 v8 v9 x3 b8 b9 s5 t8 r2 y2 t9 w8 s6 x2 t5 q7 w7 r4 st2,C1 d5 y1 n1 b2 b3 s1 n2 n3 n4 n5 n6 s2 v1 v2 v3 v4 v5 b4 b5 v6 n7 b6 b7 s3 n8 n9 p6 p9 u6 s4 v7 v8 v9 x3 b8 b9 s5 t8 r2 y2 t9 w8 s6 x2 t5 q7 w7 r4 st2->(CallT PR CP [(.agg [.int .i64 n1,.bool b2,.bool b3,.str s1,.int .i64 n2,.int .i64 n3,.int .i64 n4,.int .i64 n5,.int .i64 n6,.str s2,v1,v2,v3,v4,v5]),d5,v6,.bool b4] [.agg [.int .i64,.bool,.bool,.str,.int .i64,.int .i64,.int .i64,.int .i64,.int .i64,.str,.tv,.tv,.tv,.tv,.tv],.one .tv,.one (.int .i64)] st2 (fun (a8:Int) (e8 e5:Bool) (s7:B8) (c8 a9 f1 g4 g8:Int) (s8:B8) (d0 f8 d2 o4 o7 m5:TV) (n25:Int) st3=>need (List.all [.int .i64 a8,.bool e8,.bool e5,.str s7,.int .i64 c8,.int .i64 a9,.int .i64 f1,.int .i64 g4,.int .i64 g8,.str s8,d0,f8,d2,o4,o7] Ah) (BId (n25≠0) (need (List.all [.int .i64 n1,.bool b2,.bool b3,.str s1,.int .i64 n2,.int .i64 n3,.int .i64 n4,.int .i64 n5,.int .i64 n6,.str s2,v1,v2,v3,v4,v5] Ah) (K n1 b2 b3 s1 n2 n3 n4 n5 n6 s2 v1 v2 v3 v4 v5 .nilSlice n25 st3)) (CallT PR Ce [(.agg (cV a8 e8 e5 s7 c8 a9 f1 g4 g8 s8 d0 f8 d2)),m5] [sV,.one .bool] st3 (fun (x8:Int) (u3 q1:Bool) (s9:B8) (x6 r0 v0 u5 t7:Int) (u2:B8) (w3 r6 r9:TV) (r8:Bool) st4=>need (List.all (cV x8 u3 q1 s9 x6 r0 v0 u5 t7 u2 w3 r6 r9) Ah) (CallT PR Bf [(.agg [.int .i64 a8,.bool e8,.bool e5,.str s7,.int .i64 c8,.int .i64 a9,.int .i64 f1,.int .i64 g4,.int .i64 g8,.str s8,d0,f8,d2,o4,o7]),m5] [.one (.int .i64),.one (.int .i64)] st4 (fun (n32 n33:Int) st5=>∃(C2:Bool->Int->TV->Bool->Int->Int->V13 (TV->TV->Bool->Bool->TV->V13 (V13 (TV->TV->V13 (TV->TV->V13 (St->Prop)))))),(BIf (!b4) (C2 r8 y1 m5 r8 n32 n33 n1 b2 b3 s1 n2 n3 n4 n5 n6 s2 v1 v2 v3 v4 v5 b4 b5 v6 n7 b6 b7 s3 n8 n9 p6 p9 u6 s4 v7 v8 v9 x3 b8 b9 s5 t8 r2 y2 t9 w8 s6 x2 t5 q7 w7 r4 a8 e8 e5 s7 c8 a9 f1 g4 g8 s8 d0 f8 d2 o4 o7 x8 u3 q1 s9 x6 r0 v0 u5 t7 u2 w3 r6 r9 st5) (C2 false y1 m5 r8 n32 n33 n1 b2 b3 s1 n2 n3 n4 n5 n6 s2 v1 v2 v3 v4 v5 b4 b5 v6 n7 b6 b7 s3 n8 n9 p6 p9 u6 s4 v7 v8 v9 x3 b8 b9 s5 t8 r2 y2 t9 w8 s6 x2 t5 q7 w7 r4 a8 e8 e5 s7 c8 a9 f1 g4 g8 s8 d0 f8 d2 o4 o7 x8 u3 q1 s9 x6 r0 v0 u5 t7 u2 w3 r6 r9 st5))/\∀b_1 h8 j g w_1 o0 x a0 z p s u t o y a2 q r v a1 n d1 e4 m1 d4 a6 c6 d7 d8 c5 a3 e0 c1 h9 e1 h1 c4 m9 o9 m8 l4 p0 l3 m4 o8 o2 o6 l1 l2 l6 o1 m7 h6 c0 b0 h4 e6 h0 g5 f5 f4 g7 h2 h7 g1 c7 g6 m6 m3 p4 p3 o3 p1 m0 l7 l5 l9 n0 o5 l8 m,C2 b_1 h8 j g w_1 o0 x a0 z p s u t o y a2 q r v a1 n d1 e4 m1 d4 a6 c6 d7 d8 c5 a3 e0 c1 h9 e1 h1 c4 m9 o9 m8 l4 p0 l3 m4 o8 o2 o6 l1 l2 l6 o1 m7 h6 c0 b0 h4 e6 h0 g5 f5 f4 g7 h2 h7 g1 c7 g6 m6 m3 p4 p3 o3 p1 m0 l7 l5 l9 n0 o5 l8 m->(BIf b_1 (need (List.all [.int .i64 x,.bool a0,.bool z,.str p,.int .i64 s,.int .i64 u,.int .i64 t,.int .i64 o,.int .i64 y,.str a2,q,r,v,a1,n] Ah) (K x a0 z p s u t o y a2 q r v a1 n .nilSlice 8 m)) (BIf (!d1) (CallT PR Bs [(.agg (cV d4 a6 c6 d7 d8 c5 a3 e0 c1 h9 e1 h1 c4))] [sV] m (fun (n64:Int) (b27 b28:Bool) (s21:B8) (n65 n66 n67 n68 n69:Int) (s22:B8) (v46 v47 v48:TV) st7=>CallT PR Az [(.agg (cV h6 c0 b0 h4 e6 h0 g5 f5 f4 g7 h2 h7 g1)),j,(.agg (cV n64 b27 b28 s21 n65 n66 n67 n68 n69 s22 v46 v47 v48))] [sV] st7 (fun (n70:Int) (z6 b30:Bool) (s23:B8) (n71 y8 z9 z0 n75:Int) (y6:B8) (v49 v50 v51:TV) st8=>need (List.all (cV n70 z6 b30 s23 n71 y8 z9 z0 n75 y6 v49 v50 v51) Ah) (CallT PR AQ [(.agg [.int .i64 n70,.bool z6,.bool b30,.str s23,.int .i64 n71,.int .i64 y8,.int .i64 z9,.int .i64 z0,.int .i64 n75,.str y6,v49,v50,v51,c7,g6]),j,.int .i64 1,.int .i64 h8] [.agg [.int .i64,.bool,.bool,.str,.int .i64,.int .i64,.int .i64,.int .i64,.int .i64,.str,.tv,.tv,.tv,.tv,.tv]] st8 (fun (n76:Int) (b31 b32:Bool) (z3:B8) (z2 n78 n79 z8 n81:Int) (s26:B8) (z4 v53 v54 v55 y9:TV) st9=>need (List.all [.int .i64 n76,.bool b31,.bool b32,.str z3,.int .i64 z2,.int .i64 n78,.int .i64 n79,.int .i64 z8,.int .i64 n81,.str s26,z4,v53,v54,v55,y9] Ah) (K n76 b31 b32 z3 z2 n78 n79 z8 n81 s26 z4 v53 v54 v55 y9 j 0 st9)))))) (∃(C3:Bool->Int->TV->Bool->Int->V13 (TV->TV->Bool->Bool->TV->V13 (V13 (TV->TV->V13 (TV->TV->V13 (St->Prop)))))),(BIf e4 (BIf g (C3 ((decide (w_1≠3))) h8 j g o0 x a0 z p s u t o y a2 q r v a1 n d1 e4 m1 d4 a6 c6 d7 d8 c5 a3 e0 c1 h9 e1 h1 c4 m9 o9 m8 l4 p0 l3 m4 o8 o2 o6 l1 l2 l6 o1 m7 h6 c0 b0 h4 e6 h0 g5 f5 f4 g7 h2 h7 g1 c7 g6 m6 m3 p4 p3 o3 p1 m0 l7 l5 l9 n0 o5 l8 m) (C3 false h8 j g o0 x a0 z p s u t o y a2 q r v a1 n d1 e4 m1 d4 a6 c6 d7 d8 c5 a3 e0 c1 h9 e1 h1 c4 m9 o9 m8 l4 p0 l3 m4 o8 o2 o6 l1 l2 l6 o1 m7 h6 c0 b0 h4 e6 h0 g5 f5 f4 g7 h2 h7 g1 c7 g6 m6 m3 p4 p3 o3 p1 m0 l7 l5 l9 n0 o5 l8 m)) (C3 false h8 j g o0 x a0 z p s u t o y a2 q r v a1 n d1 e4 m1 d4 a6 c6 d7 d8 c5 a3 e0 c1 h9 e1 h1 c4 m9 o9 m8 l4 p0 l3 m4 o8 o2 o6 l1 l2 l6 o1 m7 h6 c0 b0 h4 e6 h0 g5 f5 f4 g7 h2 h7 g1 c7 g6 m6 m3 p4 p3 o3 p1 m0 l7 l5 l9 n0 o5 l8 m))/\∀b_2 m2 a i6 z7 f6 c2 f9 h3 c9 e3 a5 e9 f3 h5 f2 a7 g9 f0 f7 b35 y7 v62 n88 b37 b38 s29 n89 n90 n91 n92 n93 s30 v63 v64 v65 n94 b39 b40 s31 n95 n96 n97 n98 n99 s32 v66 v67 v68 v69 v70 e e7 g2 d3 d f c l k a4 e2 g0 d9 p2 w n106 b43 b44 s35 n107 n108 n109 n110 n111 s36 v76 d6 v78 b,C3 b_2 m2 a i6 z7 f6 c2 f9 h3 c9 e3 a5 e9 f3 h5 f2 a7 g9 f0 f7 b35 y7 v62 n88 b37 b38 s29 n89 n90 n91 n92 n93 s30 v63 v64 v65 n94 b39 b40 s31 n95 n96 n97 n98 n99 s32 v66 v67 v68 v69 v70 e e7 g2 d3 d f c l k a4 e2 g0 d9 p2 w n106 b43 b44 s35 n107 n108 n109 n110 n111 s36 v76 d6 v78 b->(BIf b_2 (need (List.all [.int .i64 f6,.bool c2,.bool f9,.str h3,.int .i64 c9,.int .i64 e3,.int .i64 a5,.int .i64 e9,.int .i64 f3,.str h5,f2,a7,g9,f0,f7] Ah) (K f6 c2 f9 h3 c9 e3 a5 e9 f3 h5 f2 a7 g9 f0 f7 .nilSlice 6 b)) (BIf y7 (BIf (!i6) (CallT PR Az [(.agg (cV e e7 g2 d3 d f c l k a4 e2 g0 d9)),a,(.agg (cV 6 false false [] 0 0 0 0 0 [] .nilSlice .nilSlice .nilSlice))] [sV] b (fun (p8:Int) (b45 b46:Bool) (s37:B8) (w5 u4 u0 w1 r3:Int) (s38:B8) (v79 v80 z1:TV) st11=>need (List.all (cV p8 b45 b46 s37 w5 u4 u0 w1 r3 s38 v79 v80 z1) Ah) (CallT PR AQ [(.agg [.int .i64 p8,.bool b45,.bool b46,.str s37,.int .i64 w5,.int .i64 u4,.int .i64 u0,.int .i64 w1,.int .i64 r3,.str s38,v79,v80,z1,p2,w]),a,.int .i64 3,.int .i64 m2] [.agg [.int .i64,.bool,.bool,.str,.int .i64,.int .i64,.int .i64,.int .i64,.int .i64,.str,.tv,.tv,.tv,.tv,.tv]] st11 (fun (q6:Int) (b47 b48:Bool) (s39:B8) (u1 r7 q2 q9 x4:Int) (s40:B8) (v82 v83 v84 v85 w0:TV) st12=>need (List.all [.int .i64 q6,.bool b47,.bool b48,.str s39,.int .i64 u1,.int .i64 r7,.int .i64 q2,.int .i64 q9,.int .i64 x4,.str s40,v82,v83,v84,v85,w0] Ah) (need (isSl d6) (CallT PR A4 [a,(.agg [.bool true,(.str []),(.int .i64 (lenS d6:Int))])] [.one .tv] st12 (fun (g3:TV) st13=>CallT PR Az [(.agg (cV q6 b47 b48 s39 u1 r7 q2 q9 x4 s40 v82 v83 v84)),g3,(.agg (cV 7 false false [] 0 0 0 0 0 [] .nilSlice .nilSlice .nilSlice))] [sV] st13 (fun (k1:Int) (q3 x1:Bool) (t1:B8) (j8 i9 k2 i0 j9:Int) (y0:B8) (q4 t6 t0:TV) st14=>need (List.all (cV k1 q3 x1 t1 j8 i9 k2 i0 j9 y0 q4 t6 t0) Ah) (need (List.all [g3] Ah) (need (List.all [.int .i64 k1,.bool q3,.bool x1,.str t1,.int .i64 j8,.int .i64 i9,.int .i64 k2,.int .i64 i0,.int .i64 j9,.str y0,q4,t6,t0,g3,w0] Ah) (K k1 q3 x1 t1 j8 i9 k2 i0 j9 y0 q4 t6 t0 g3 w0 g3 0 st14))))))))))) (need (isSl d6) (CallT PR A4 [a,(.agg [.bool true,(.str []),(.int .i64 (lenS d6:Int))])] [.one .tv] b (fun (c3:TV) st15=>CallT PR Az [(.agg (cV e e7 g2 d3 d f c l k a4 e2 g0 d9)),c3,(.agg (cV 7 false false [] 0 0 0 0 0 [] .nilSlice .nilSlice .nilSlice))] [sV] st15 (fun (j7:Int) (q0 u8:Bool) (t4:B8) (j0 i8 i2 k0 k5:Int) (y4:B8) (t2 q5 r1:TV) st16=>need (List.all (cV j7 q0 u8 t4 j0 i8 i2 k0 k5 y4 t2 q5 r1) Ah) (need (List.all [c3] Ah) (need (List.all [.int .i64 j7,.bool q0,.bool u8,.str t4,.int .i64 j0,.int .i64 i8,.int .i64 i2,.int .i64 k0,.int .i64 k5,.str y4,t2,q5,r1,c3,w] Ah) (K j7 q0 u8 t4 j0 i8 i2 k0 k5 y4 t2 q5 r1 c3 w c3 0 st16)))))))) (BId ((0:Int)<=z7) (need (List.all [.int .i64 f6,.bool c2,.bool f9,.str h3,.int .i64 c9,.int .i64 e3,.int .i64 a5,.int .i64 e9,.int .i64 f3,.str h5,f2,a7,g9,f0,f7] Ah) (K f6 c2 f9 h3 c9 e3 a5 e9 f3 h5 f2 a7 g9 f0 f7 .nilSlice 8 b)) (BIf (!i6) (CallT PR Az [(.agg (cV e e7 g2 d3 d f c l k a4 e2 g0 d9)),a,(.agg (cV 7 false false [] 0 0 0 0 0 [] .nilSlice .nilSlice .nilSlice))] [sV] b (fun (x5:Int) (b53 b54:Bool) (s45:B8) (p5 w2 x7 r5 u7:Int) (s46:B8) (v95 z5 y5:TV) st17=>need (List.all (cV x5 b53 b54 s45 p5 w2 x7 r5 u7 s46 v95 z5 y5) Ah) (CallT PR AQ [(.agg [.int .i64 x5,.bool b53,.bool b54,.str s45,.int .i64 p5,.int .i64 w2,.int .i64 x7,.int .i64 r5,.int .i64 u7,.str s46,v95,z5,y5,p2,w]),a,.int .i64 2,.int .i64 m2] [.agg [.int .i64,.bool,.bool,.str,.int .i64,.int .i64,.int .i64,.int .i64,.int .i64,.str,.tv,.tv,.tv,.tv,.tv]] st17 (fun (i3:Int) (s0 w9:Bool) (u9:B8) (k9 k6 k8 l0 j6:Int) (y3:B8) (q8 x0 j1 v101 i5:TV) st18=>need (List.all [.int .i64 i3,.bool s0,.bool w9,.str u9,.int .i64 k9,.int .i64 k6,.int .i64 k8,.int .i64 l0,.int .i64 j6,.str y3,q8,x0,j1,v101,i5] Ah) (need (List.all [a] Ah) (need (List.all [.int .i64 i3,.bool s0,.bool w9,.str u9,.int .i64 k9,.int .i64 k6,.int .i64 k8,.int .i64 l0,.int .i64 j6,.str y3,q8,x0,j1,a,i5] Ah) (K i3 s0 w9 u9 k9 k6 k8 l0 j6 y3 q8 x0 j1 a i5 a 0 st18))))))) (CallT PR AQ [(.agg [.int .i64 e,.bool e7,.bool g2,.str d3,.int .i64 d,.int .i64 f,.int .i64 c,.int .i64 l,.int .i64 k,.str a4,e2,g0,d9,p2,w]),a,.int .i64 2,.int .i64 m2] [.agg [.int .i64,.bool,.bool,.str,.int .i64,.int .i64,.int .i64,.int .i64,.int .i64,.str,.tv,.tv,.tv,.tv,.tv]] b (fun (j3:Int) (w4 t3:Bool) (p7:B8) (k4 j4 k7 i4 k3:Int) (x9:B8) (i7 j2 j5 v106 i1:TV) st19=>need (List.all [.int .i64 j3,.bool w4,.bool t3,.str p7,.int .i64 k4,.int .i64 j4,.int .i64 k7,.int .i64 i4,.int .i64 k3,.str x9,i7,j2,j5,v106,i1] Ah) (need (List.all [a] Ah) (need (List.all [.int .i64 j3,.bool w4,.bool t3,.str p7,.int .i64 k4,.int .i64 j4,.int .i64 k7,.int .i64 i4,.int .i64 k3,.str x9,i7,j2,j5,a,i1] Ah) (K j3 w4 t3 p7 k4 j4 k7 i4 k3 x9 i7 j2 j5 a i1 a 0 st19)))))))))))))))))))))):CallT PR Dg [(.agg [.int .i64 x_0,.bool x_1,.bool x_2,.str x_3,.int .i64 x_4,.int .i64 x_5,.int .i64 x_6,.int .i64 x_7,.int .i64 x_8,.str x_9,x_10,x_11,x_12,x_13,x_14]),.int .i64 i,(.agg [.bool a_0,.bool a_1,a_2,.int .i64 a_3,.bool a_4,.bool a_5,.str a_6,.int .i64 a_7,.int .i64 a_8,.int .i64 a_9,.int .i64 a_10,.int .i64 a_11,.str a_12,a_13,a_14,a_15])] [.agg [.int .i64,.bool,.bool,.str,.int .i64,.int .i64,.int .i64,.int .i64,.int .i64,.str,.tv,.tv,.tv,.tv,.tv],.one .tv,.one (.int .i64)] st K:=
 Af (cfg:=⟨[3,5,6,10,13],[],[]⟩) (h:=(.seq .none (.seq .none (.seq .none (.cut ⟨[(9,.tv),(1,.int .i64)],[(3,0,0),(5,1,0),(6,2,0)],[(0,15),(1,16),(2,15)],[(0,0,.int .i64),(0,1,.bool),(0,2,.bool),(0,3,.str),(0,4,.int .i64),(0,5,.int .i64),(0,6,.int .i64),(0,7,.int .i64),(0,8,.int .i64),(0,9,.str),(0,10,.tv),(0,11,.tv),(0,12,.tv),(0,13,.tv),(0,14,.tv),(1,0,.bool),(1,1,.bool),(1,2,.tv),(1,3,.int .i64),(1,4,.bool),(1,5,.bool),(1,6,.str),(1,7,.int .i64),(1,8,.int .i64),(1,9,.int .i64),(1,10,.int .i64),(1,11,.int .i64),(1,12,.str),(1,13,.tv),(1,14,.tv),(1,15,.tv),(2,0,.int .i64),(2,1,.bool),(2,2,.bool),(2,3,.str),(2,4,.int .i64),(2,5,.int .i64),(2,6,.int .i64),(2,7,.int .i64),(2,8,.int .i64),(2,9,.str),(2,10,.tv),(2,11,.tv),(2,12,.tv),(2,13,.tv),(2,14,.tv)]⟩ .none (.seq .none (.seq .none (.seq .none (.seq .none (.seq (.block (.cut ⟨[(65,.bool),(1,.int .i64),(11,.tv),(14,.bool),(15,.int .i64),(16,.int .i64)],[(3,0,0),(5,1,0),(6,2,0),(10,3,0),(13,4,0)],[(0,15),(1,16),(2,15),(3,15),(4,13)],[(0,0,.int .i64),(0,1,.bool),(0,2,.bool),(0,3,.str),(0,4,.int .i64),(0,5,.int .i64),(0,6,.int .i64),(0,7,.int .i64),(0,8,.int .i64),(0,9,.str),(0,10,.tv),(0,11,.tv),(0,12,.tv),(0,13,.tv),(0,14,.tv),(1,0,.bool),(1,1,.bool),(1,2,.tv),(1,3,.int .i64),(1,4,.bool),(1,5,.bool),(1,6,.str),(1,7,.int .i64),(1,8,.int .i64),(1,9,.int .i64),(1,10,.int .i64),(1,11,.int .i64),(1,12,.str),(1,13,.tv),(1,14,.tv),(1,15,.tv),(2,0,.int .i64),(2,1,.bool),(2,2,.bool),(2,3,.str),(2,4,.int .i64),(2,5,.int .i64),(2,6,.int .i64),(2,7,.int .i64),(2,8,.int .i64),(2,9,.str),(2,10,.tv),(2,11,.tv),(2,12,.tv),(2,13,.tv),(2,14,.tv),(3,0,.int .i64),(3,1,.bool),(3,2,.bool),(3,3,.str),(3,4,.int .i64),(3,5,.int .i64),(3,6,.int .i64),(3,7,.int .i64),(3,8,.int .i64),(3,9,.str),(3,10,.tv),(3,11,.tv),(3,12,.tv),(3,13,.tv),(3,14,.tv),(4,0,.int .i64),(4,1,.bool),(4,2,.bool),(4,3,.str),(4,4,.int .i64),(4,5,.int .i64),(4,6,.int .i64),(4,7,.int .i64),(4,8,.int .i64),(4,9,.str),(4,10,.tv),(4,11,.tv),(4,12,.tv)]⟩ .none (.cond .none (.seq .none (.cond .none (.cut ⟨[(90,.bool),(1,.int .i64),(11,.tv),(14,.bool),(16,.int .i64)],[(3,0,0),(5,1,0),(6,2,0),(10,3,0),(13,4,0)],[(0,15),(1,16),(2,15),(3,15),(4,13)],[(0,0,.int .i64),(0,1,.bool),(0,2,.bool),(0,3,.str),(0,4,.int .i64),(0,5,.int .i64),(0,6,.int .i64),(0,7,.int .i64),(0,8,.int .i64),(0,9,.str),(0,10,.tv),(0,11,.tv),(0,12,.tv),(0,13,.tv),(0,14,.tv),(1,0,.bool),(1,1,.bool),(1,2,.tv),(1,3,.int .i64),(1,4,.bool),(1,5,.bool),(1,6,.str),(1,7,.int .i64),(1,8,.int .i64),(1,9,.int .i64),(1,10,.int .i64),(1,11,.int .i64),(1,12,.str),(1,13,.tv),(1,14,.tv),(1,15,.tv),(2,0,.int .i64),(2,1,.bool),(2,2,.bool),(2,3,.str),(2,4,.int .i64),(2,5,.int .i64),(2,6,.int .i64),(2,7,.int .i64),(2,8,.int .i64),(2,9,.str),(2,10,.tv),(2,11,.tv),(2,12,.tv),(2,13,.tv),(2,14,.tv),(3,0,.int .i64),(3,1,.bool),(3,2,.bool),(3,3,.str),(3,4,.int .i64),(3,5,.int .i64),(3,6,.int .i64),(3,7,.int .i64),(3,8,.int .i64),(3,9,.str),(3,10,.tv),(3,11,.tv),(3,12,.tv),(3,13,.tv),(3,14,.tv),(4,0,.int .i64),(4,1,.bool),(4,2,.bool),(4,3,.str),(4,4,.int .i64),(4,5,.int .i64),(4,6,.int .i64),(4,7,.int .i64),(4,8,.int .i64),(4,9,.str),(4,10,.tv),(4,11,.tv),(4,12,.tv)]⟩ .none .none)))))) .none)))))))))) mixed (fun _ _=>Tryz.call49 _ _) Tryz.func49 (by kernel_rfl) (by kernel_rfl) h
theorem LN (v_0:Int) (d:Bool) (e:Bool) (v_3:B8) (v_4:Int) (v_5:Int) (v_6:Int) (v_7:Int) (v_8:Int) (v_9:B8) (v_10:TV) (v_11:TV) (v_12:TV) (depth:Int) (n:Nat) (st:St) (K:Int->St->Prop) (h:Ai (Ac st [] (.t (.box n 0)) 0) (fun (x1:TV)=>AE (.int .i64) x1 (fun (n1:Int)=>stB st (.box n 0) [(.int .i64 (i64.wrap (n1+(1:Int))))] (fun r=>∃(C1:Int->TV->V13 (St->Prop)),(BId ((48:Int)<depth) (K 9 r) (Ai (Ac r [] (.t (.box n 0)) 0) (fun (x2:TV)=>AE (.int .i64) x2 (fun (n2:Int)=>BId ((65536:Int)<n2) (K 10 r) (∃(C2:Bool->Int->TV->V13 (St->Prop)),(BId (v_0<0) (C2 true depth ((.box n 0)) v_0 d e v_3 v_4 v_5 v_6 v_7 v_8 v_9 v_10 v_11 v_12 r) (BId ((8:Int)<=v_0) (C2 true depth ((.box n 0)) v_0 d e v_3 v_4 v_5 v_6 v_7 v_8 v_9 v_10 v_11 v_12 r) (CallT PR FE [(.agg (cV v_0 d e v_3 v_4 v_5 v_6 v_7 v_8 v_9 v_10 v_11 v_12))] [.one .bool] r (fun (b1:Bool) h0=>C2 b1 depth ((.box n 0)) v_0 d e v_3 v_4 v_5 v_6 v_7 v_8 v_9 v_10 v_11 v_12 h0))))/\∀e4 b p n3 b2 b3 s1 n4 n5 n6 n7 n8 s2 v1 v2 v3 w,C2 e4 b p n3 b2 b3 s1 n4 n5 n6 n7 n8 s2 v1 v2 v3 w->(BIf e4 (K 6 w) (∃(C3:Bool->Int->TV->V13 (St->Prop)),(BId (n3=2) (CallT PR Es [(.agg [.bool b3,.str s1,.int .i64 n4])] [.one .bool] w (fun (b4:Bool) c6=>BIf (!b4) (C3 true b p n3 b2 b3 s1 n4 n5 n6 n7 n8 s2 v1 v2 v3 c6) (BId (n3=3) (CallT PR DS [(.agg [.int .i64 n5,.int .i64 n6,.int .i64 n7,.int .i64 n8])] [.one .bool] c6 (fun (b5:Bool) g7=>C3 ((!b5)) b p n3 b2 b3 s1 n4 n5 n6 n7 n8 s2 v1 v2 v3 g7)) (C3 false b p n3 b2 b3 s1 n4 n5 n6 n7 n8 s2 v1 v2 v3 c6)))) (BId (n3=3) (CallT PR DS [(.agg [.int .i64 n5,.int .i64 n6,.int .i64 n7,.int .i64 n8])] [.one .bool] w (fun (b6:Bool) g8=>C3 ((!b6)) b p n3 b2 b3 s1 n4 n5 n6 n7 n8 s2 v1 v2 v3 g8)) (C3 false b p n3 b2 b3 s1 n4 n5 n6 n7 n8 s2 v1 v2 v3 w)))/\∀f4 f c1 n9 b7 b8 s3 c0 c2 b0 c3 c4 s4 v4 v5 v6 m,C3 f4 f c1 n9 b7 b8 s3 c0 c2 b0 c3 c4 s4 v4 v5 v6 m->(BIf f4 (K 2 m) (BId (n9=4) (CallT PR D9 [.str s4] [.one .bool] m (fun (b9:Bool) a6=>BIf (!b9) (K 5 a6) (BId ((65536:Int)<(s4.length:Int)) (K 10 a6) (need (isSl v4) (BId ((65536:Int)<(lenS v4:Int)) (K 10 a6) (C1 f c1 n9 b7 b8 s3 c0 c2 b0 c3 c4 s4 v4 v5 v6 a6)))))) (BId ((65536:Int)<(s4.length:Int)) (K 10 m) (need (isSl v4) (BId ((65536:Int)<(lenS v4:Int)) (K 10 m) (C1 f c1 n9 b7 b8 s3 c0 c2 b0 c3 c4 s4 v4 v5 v6 m)))))))))))))/\∀q e9 g1 d6 g6 s5 f9 g0 d0 f3 d9 s6 v7 v8 v9 c9,C1 q e9 g1 d6 g6 s5 f9 g0 d0 f3 d9 s6 v7 v8 v9 c9->(CallT PR Gk [v9] [.one (.int .i64)] c9 (fun (f6:Int) c5=>BId (f6≠0) (K f6 c5) (need (isSl v8) (∃(I1:Int->Int->TV->TV->Int->V13 (St->Prop)) (M1:Int->Int->TV->TV->Int->V13 (St->Nat)),(I1 0 q e9 v8 ((lenS v8:Int)) g1 d6 g6 s5 f9 g0 d0 f3 d9 s6 v7 v8 v9 c5)/\∀g a o d s a2 a8 a5 s7 a9 a0 z a4 a3 s8 a1 a7 l k,I1 g a o d s a2 a8 a5 s7 a9 a0 z a4 a3 s8 a1 a7 l k->(BId (g<s) (((0<=g/\g<(lenZ 13 d:Int))/\Ai ((Al k [] (.t (ixT 13 d g.toNat)) 0 13).map TV.agg) (fun (x3:TV)=>BG [.int .i64,.bool,.bool,.str,.int .i64,.int .i64,.int .i64,.int .i64,.int .i64,.str,.tv,.tv,.tv] x3 (fun (f8:Int) (d2 e7:Bool) (s9:B8) (d8 d4 f7 e0 d7:Int) (g3:B8) (c7 g4 e1:TV)=>need (List.all (cV f8 d2 e7 s9 d8 d4 f7 e0 d7 g3 c7 g4 e1) Ah) (CallT PR De [(.agg (cV f8 d2 e7 s9 d8 d4 f7 e0 d7 g3 c7 g4 e1)),(.int .i64 (i64.wrap (a+(1:Int)))),o] [.one (.int .i64)] k (fun (g5:Int) x=>BId (g5≠0) (K g5 x) ((I1 ((i64.wrap (g+(1:Int)))) a o d s a2 a8 a5 s7 a9 a0 z a4 a3 s8 a1 a7 l x/\M1 ((i64.wrap (g+(1:Int)))) a o d s a2 a8 a5 s7 a9 a0 z a4 a3 s8 a1 a7 l x<M1 g a o d s a2 a8 a5 s7 a9 a0 z a4 a3 s8 a1 a7 l k)))))))) (need (isSl l) (∃(I2:Int->Int->TV->TV->Int->St->Prop) (M2:Int->Int->TV->TV->Int->St->Nat),(I2 0 a o l ((lenS l:Int)) k)/\∀i c v e u j,I2 i c v e u j->(BId (i<u) (((0<=i/\i<(lenZ 14 e:Int))/\Ai ((Al j [] (.t (ixT 14 e i.toNat)) 0 14).map TV.agg) (fun (x4:TV)=>BG [.str,.int .i64,.bool,.bool,.str,.int .i64,.int .i64,.int .i64,.int .i64,.int .i64,.str,.tv,.tv,.tv] x4 (fun (g9:B8) (e8:Int) (e6 e2:Bool) (f5:B8) (d1 c8 f2 d5 e5:Int) (f0:B8) (g2 e3 d3:TV)=>need (List.all [.str g9,.int .i64 e8,.bool e6,.bool e2,.str f5,.int .i64 d1,.int .i64 c8,.int .i64 f2,.int .i64 d5,.int .i64 e5,.str f0,g2,e3,d3] Ah) (CallT PR De [(.agg (cV e8 e6 e2 f5 d1 c8 f2 d5 e5 f0 g2 e3 d3)),(.int .i64 (i64.wrap (c+(1:Int)))),v] [.one (.int .i64)] j (fun (f1:Int) y=>BId (f1≠0) (K f1 y) ((I2 ((i64.wrap (i+(1:Int)))) c v e u y/\M2 ((i64.wrap (i+(1:Int)))) c v e u y<M2 i c v e u j)))))))) (K 0 j))))))))))))):CallT PR De [(.agg (cV v_0 d e v_3 v_4 v_5 v_6 v_7 v_8 v_9 v_10 v_11 v_12)),.int .i64 depth,(.box n 0)] [.one (.int .i64)] st K:=
 Af (cfg:=⟨[3,9,12],[],[]⟩) (h:=(.seq .none (.seq .none (.cut ⟨[(1,.int .i64),(2,.tv)],[(3,0,0)],[(0,13)],[(0,0,.int .i64),(0,1,.bool),(0,2,.bool),(0,3,.str),(0,4,.int .i64),(0,5,.int .i64),(0,6,.int .i64),(0,7,.int .i64),(0,8,.int .i64),(0,9,.str),(0,10,.tv),(0,11,.tv),(0,12,.tv)]⟩ (.block (.seq .none (.cond .none (.seq .none (.cond .none (.cut ⟨[(27,.bool),(1,.int .i64),(2,.tv)],[(3,0,0)],[(0,13)],[(0,0,.int .i64),(0,1,.bool),(0,2,.bool),(0,3,.str),(0,4,.int .i64),(0,5,.int .i64),(0,6,.int .i64),(0,7,.int .i64),(0,8,.int .i64),(0,9,.str),(0,10,.tv),(0,11,.tv),(0,12,.tv)]⟩ .none (.cond .none (.cut ⟨[(40,.bool),(1,.int .i64),(2,.tv)],[(3,0,0)],[(0,13)],[(0,0,.int .i64),(0,1,.bool),(0,2,.bool),(0,3,.str),(0,4,.int .i64),(0,5,.int .i64),(0,6,.int .i64),(0,7,.int .i64),(0,8,.int .i64),(0,9,.str),(0,10,.tv),(0,11,.tv),(0,12,.tv)]⟩ .none .none)))))))) (.seq .none (.seq (.seq .none (.block (.loop ⟨[(91,.int .i64),(1,.int .i64),(2,.tv),(89,.tv),(90,.int .i64)],[(3,0,0)],[(0,13)],[(0,0,.int .i64),(0,1,.bool),(0,2,.bool),(0,3,.str),(0,4,.int .i64),(0,5,.int .i64),(0,6,.int .i64),(0,7,.int .i64),(0,8,.int .i64),(0,9,.str),(0,10,.tv),(0,11,.tv),(0,12,.tv)]⟩ .none))) (.seq (.seq .none (.block (.loop ⟨[(107,.int .i64),(1,.int .i64),(2,.tv),(105,.tv),(106,.int .i64)],[],[],[]⟩ .none))) .none))))))) mixed (fun _ _=>Tryz.call50 _ _) Tryz.func50 (by kernel_rfl) (by kernel_rfl) h
theorem HW (v_0:Int) (v_1:Bool) (v_2:Bool) (v_3:B8) (v_4:Int) (v_5:Int) (v_6:Int) (v_7:Int) (v_8:Int) (v_9:B8) (v_10:TV) (v_11:TV) (v_12:TV) (depth:Int) (seen:Int) (st:St) (K:Int->Int->St->Prop) (h:BId ((48:Int)<depth) (K seen 9 st) (BId ((65536:Int)<=seen) (K seen 10 st) (CallT PR DH [(.agg (cV v_0 v_1 v_2 v_3 v_4 v_5 v_6 v_7 v_8 v_9 v_10 v_11 v_12))] [.one (.int .i64)] st (fun (n1:Int) g=>BId (n1≠0) (K seen n1 g) (CallT PR Dj [(.agg (cV v_0 v_1 v_2 v_3 v_4 v_5 v_6 v_7 v_8 v_9 v_10 v_11 v_12))] [.one .tv] g (fun (v1:TV) i=>∃(I1:Int->Int->Int->TV->St->Prop) (M1:Int->Int->Int->TV->St->Nat),(I1 ((i64.wrap (seen+(1:Int)))) 0 depth v1 i)/\∀b c a d e,I1 b c a d e->(need (isSl d) (BId (c<(lenS d:Int)) (((0<=c/\c<(lenZ 13 d:Int))/\Ai ((Al e [] (.t (ixT 13 d c.toNat)) 0 13).map TV.agg) (fun (x1:TV)=>BG [.int .i64,.bool,.bool,.str,.int .i64,.int .i64,.int .i64,.int .i64,.int .i64,.str,.tv,.tv,.tv] x1 (fun (n2:Int) (b1 b2:Bool) (s1:B8) (n3 n4 n5 n6 n7:Int) (s2:B8) (v2 v3 v4:TV)=>CallT PR Cf [(.agg (cV n2 b1 b2 s1 n3 n4 n5 n6 n7 s2 v2 v3 v4)),(.int .i64 (i64.wrap (a+(1:Int)))),.int .i64 b] [.one (.int .i64),.one (.int .i64)] e (fun (n8 n9:Int) f=>BId (n9≠0) (K n8 n9 f) ((I1 n8 ((i64.wrap (c+(1:Int)))) a d f/\M1 n8 ((i64.wrap (c+(1:Int)))) a d f<M1 b c a d e))))))) (K b 0 e))))))))):CallT PR Cf [(.agg (cV v_0 v_1 v_2 v_3 v_4 v_5 v_6 v_7 v_8 v_9 v_10 v_11 v_12)),.int .i64 depth,.int .i64 seen] [.one (.int .i64),.one (.int .i64)] st K:=
 Af (cfg:=⟨[3],[],[]⟩) (h:=(.seq .none (.seq .none (.seq .none (.seq .none (.seq .none (.seq .none (.seq (.seq .none (.block (.loop ⟨[(2,.int .i64),(10,.int .i64),(1,.int .i64),(9,.tv)],[],[],[]⟩ .none))) .none)))))))) mixed (fun _ _=>Tryz.call53 _ _) Tryz.func53 (by kernel_rfl) (by kernel_rfl) h
theorem HZ (v_0:Int) (v_1:Bool) (v_2:Bool) (v_3:B8) (v_4:Int) (v_5:Int) (v_6:Int) (v_7:Int) (v_8:Int) (v_9:B8) (v_10:TV) (v_11:TV) (v_12:TV) (st:St) (K:V13 (St->Prop)) (h:need (List.all (cV v_0 v_1 v_2 v_3 v_4 v_5 v_6 v_7 v_8 v_9 v_10 v_11 v_12) Ah) (Ai (Cu st 1 v_10) (fun (q1:Nat×List TV)=>need (List.all q1.2 Ah) (Cl 5 1 1 (.list 1 .full 0 []) q1.1 q1.2 st (fun (v1:TV) j0=>need (List.all [v1] Ah) (∃(I1:Int->V13 (V13 (V13 (St->Prop)))) (M1:Int->V13 (V13 (V13 (St->Nat)))),(I1 0 v_0 v_1 v_2 v_3 v_4 v_5 v_6 v_7 v_8 v_9 v_10 v_11 v_12 0 false false [] 0 0 0 0 0 [] .nilSlice .nilSlice .nilSlice v_0 v_1 v_2 v_3 v_4 v_5 v_6 v_7 v_8 v_9 v1 .nilSlice .nilSlice j0)/\∀c n1 b1 b2 s1 n2 n3 n4 n5 n6 s2 v2 v3 v4 n7 b3 b4 s3 n8 n9 v x u s4 v5 v6 v7 y b5 b6 s5 a0 a2 z a1 r s6 v8 v9 w a3,I1 c n1 b1 b2 s1 n2 n3 n4 n5 n6 s2 v2 v3 v4 n7 b3 b4 s3 n8 n9 v x u s4 v5 v6 v7 y b5 b6 s5 a0 a2 z a1 r s6 v8 v9 w a3->(need (isSl v3) (BId (c<(lenS v3:Int)) (((0<=c/\c<(lenZ 13 v3:Int))/\Ai ((Al a3 [] (.t (ixT 13 v3 c.toNat)) 0 13).map TV.agg) (fun (x1:TV)=>BG [.int .i64,.bool,.bool,.str,.int .i64,.int .i64,.int .i64,.int .i64,.int .i64,.str,.tv,.tv,.tv] x1 (fun (i2:Int) (b7 b8:Bool) (s7:B8) (h4 i7 h6 j1 h3:Int) (s8:B8) (i6 i5 g8:TV)=>CallT PR Bs [(.agg (cV i2 b7 b8 s7 h4 i7 h6 j1 h3 s8 i6 i5 g8))] [sV] a3 (fun (e9:Int) (b9 e7:Bool) (s9:B8) (f6 f4 g2 f1 e6:Int) (g6:B8) (g7 f2 g5:TV) h8=>need (List.all (cV e9 b9 e7 s9 f6 f4 g2 f1 e6 g6 g7 f2 g5) Ah) (Cl 33 13 168 v9 1 (cV e9 b9 e7 s9 f6 f4 g2 f1 e6 g6 g7 f2 g5) h8 (fun (d9:TV) g4=>need (List.all [d9] Ah) ((I1 ((i64.wrap (c+(1:Int)))) n1 b1 b2 s1 n2 n3 n4 n5 n6 s2 v2 v3 v4 n7 b3 b4 s3 n8 n9 v x u s4 v5 v6 v7 y b5 b6 s5 a0 a2 z a1 r s6 v8 d9 w g4/\M1 ((i64.wrap (c+(1:Int)))) n1 b1 b2 s1 n2 n3 n4 n5 n6 s2 v2 v3 v4 n7 b3 b4 s3 n8 n9 v x u s4 v5 v6 v7 y b5 b6 s5 a0 a2 z a1 r s6 v8 d9 w g4<M1 c n1 b1 b2 s1 n2 n3 n4 n5 n6 s2 v2 v3 v4 n7 b3 b4 s3 n8 n9 v x u s4 v5 v6 v7 y b5 b6 s5 a0 a2 z a1 r s6 v8 v9 w a3))))))))) (∃(I2:Int->V13 (V13 (V13 (St->Prop)))) (M2:Int->V13 (V13 (V13 (St->Nat)))),(I2 0 n1 b1 b2 s1 n2 n3 n4 n5 n6 s2 v2 v3 v4 n7 b3 b4 s3 n8 n9 v x u s4 v5 v6 v7 y b5 b6 s5 a0 a2 z a1 r s6 v8 v9 w a3)/\∀a d2 d6 d5 b0 c3 c2 d4 c5 a6 d1 a9 a7 b a4 c6 a5 c7 d0 c0 c4 c9 c1 d3 c8 d7 a8 g n l f p q j i e o k m s d,I2 a d2 d6 d5 b0 c3 c2 d4 c5 a6 d1 a9 a7 b a4 c6 a5 c7 d0 c0 c4 c9 c1 d3 c8 d7 a8 g n l f p q j i e o k m s d->(need (isSl b) (BId (a<(lenS b:Int)) (((0<=a/\a<(lenZ 14 b:Int))/\need (isPtr (ixT 14 b a.toNat)) (Ai (Ac d [] (.t (At (ixT 14 b a.toNat) 0)) 0) (fun (x2:TV)=>AE .str x2 (fun (e0:B8)=>((0<=a/\a<(lenZ 14 b:Int))/\need (isPtr (ixT 14 b a.toNat)) (Ai ((Al d [] (.t (At (ixT 14 b a.toNat) 1)) 0 13).map TV.agg) (fun (x3:TV)=>BG [.int .i64,.bool,.bool,.str,.int .i64,.int .i64,.int .i64,.int .i64,.int .i64,.str,.tv,.tv,.tv] x3 (fun (i1:Int) (h7 i9:Bool) (h2:B8) (h1 h0 i3 g9 h5:Int) (i8:B8) (i4 i0 h9:TV)=>CallT PR Bs [(.agg (cV i1 h7 i9 h2 h1 h0 i3 g9 h5 i8 i4 i0 h9))] [sV] d (fun (e3:Int) (f7 f0:Bool) (e8:B8) (g1 g0 g3 e2 f8:Int) (f3:B8) (f9 f5 e1:TV) e5=>(Ac e5 [] (.t (At (ixT 14 b a.toNat) 0)) 0=some (.str e0)/\need (List.all [.str e0,.int .i64 e3,.bool f7,.bool f0,.str e8,.int .i64 g1,.int .i64 g0,.int .i64 g3,.int .i64 e2,.int .i64 f8,.str f3,f9,f5,e1] Ah) (Cl 65 14 184 s 1 [.str e0,.int .i64 e3,.bool f7,.bool f0,.str e8,.int .i64 g1,.int .i64 g0,.int .i64 g3,.int .i64 e2,.int .i64 f8,.str f3,f9,f5,e1] e5 (fun (d8:TV) e4=>need (List.all [d8] Ah) ((I2 ((i64.wrap (a+(1:Int)))) d2 d6 d5 b0 c3 c2 d4 c5 a6 d1 a9 a7 b a4 c6 a5 c7 d0 c0 c4 c9 c1 d3 c8 d7 a8 g n l f p q j i e o k m d8 e4/\M2 ((i64.wrap (a+(1:Int)))) d2 d6 d5 b0 c3 c2 d4 c5 a6 d1 a9 a7 b a4 c6 a5 c7 d0 c0 c4 c9 c1 d3 c8 d7 a8 g n l f p q j i e o k m d8 e4<M2 a d2 d6 d5 b0 c3 c2 d4 c5 a6 d1 a9 a7 b a4 c6 a5 c7 d0 c0 c4 c9 c1 d3 c8 d7 a8 g n l f p q j i e o k m s d))))))))))))))) (need (List.all (cV g n l f p q j i e o k m s) Ah) (K g n l f p q j i e o k m s d))))))))))))):CallT PR Bs [(.agg (cV v_0 v_1 v_2 v_3 v_4 v_5 v_6 v_7 v_8 v_9 v_10 v_11 v_12))] [sV] st K:=
 Af (cfg:=⟨[1,2,3],[],[27,46,52]⟩) (h:=(.seq .none (.seq .none (.seq .none (.seq .none (.seq .none (.seq (.seq .none (.block (.loop ⟨[(4,.int .i64)],[(1,0,0),(2,1,0),(3,2,0)],[(0,13),(1,13),(2,13)],[(0,0,.int .i64),(0,1,.bool),(0,2,.bool),(0,3,.str),(0,4,.int .i64),(0,5,.int .i64),(0,6,.int .i64),(0,7,.int .i64),(0,8,.int .i64),(0,9,.str),(0,10,.tv),(0,11,.tv),(0,12,.tv),(1,0,.int .i64),(1,1,.bool),(1,2,.bool),(1,3,.str),(1,4,.int .i64),(1,5,.int .i64),(1,6,.int .i64),(1,7,.int .i64),(1,8,.int .i64),(1,9,.str),(1,10,.tv),(1,11,.tv),(1,12,.tv),(2,0,.int .i64),(2,1,.bool),(2,2,.bool),(2,3,.str),(2,4,.int .i64),(2,5,.int .i64),(2,6,.int .i64),(2,7,.int .i64),(2,8,.int .i64),(2,9,.str),(2,10,.tv),(2,11,.tv),(2,12,.tv)]⟩ .none))) (.seq (.seq .none (.block (.loop ⟨[(5,.int .i64)],[(1,0,0),(2,1,0),(3,2,0)],[(0,13),(1,13),(2,13)],[(0,0,.int .i64),(0,1,.bool),(0,2,.bool),(0,3,.str),(0,4,.int .i64),(0,5,.int .i64),(0,6,.int .i64),(0,7,.int .i64),(0,8,.int .i64),(0,9,.str),(0,10,.tv),(0,11,.tv),(0,12,.tv),(1,0,.int .i64),(1,1,.bool),(1,2,.bool),(1,3,.str),(1,4,.int .i64),(1,5,.int .i64),(1,6,.int .i64),(1,7,.int .i64),(1,8,.int .i64),(1,9,.str),(1,10,.tv),(1,11,.tv),(1,12,.tv),(2,0,.int .i64),(2,1,.bool),(2,2,.bool),(2,3,.str),(2,4,.int .i64),(2,5,.int .i64),(2,6,.int .i64),(2,7,.int .i64),(2,8,.int .i64),(2,9,.str),(2,10,.tv),(2,11,.tv),(2,12,.tv)]⟩ .none))) .none)))))))) mixed (fun _ _=>Tryz.call55 _ _) Tryz.func55 (by kernel_rfl) (by kernel_rfl) h
theorem HX (v_0:Int) (v_1:Bool) (v_2:Bool) (v_3:B8) (v_4:Int) (v_5:Int) (v_6:Int) (v_7:Int) (v_8:Int) (v_9:B8) (v_10:TV) (v_11:TV) (v_12:TV) (st:St) (K:TV->St->Prop) (h:BId (v_0≠7) (K v_11 st) (∃(I1:TV->Int->V13 (St->Prop)) (M1:TV->Int->V13 (St->Nat)),(I1 .nilSlice 0 v_0 v_1 v_2 v_3 v_4 v_5 v_6 v_7 v_8 v_9 v_10 v_11 v_12 st)/\∀b a n1 b1 b2 s1 n2 n3 n4 n5 n6 s2 v1 v2 v3 c,I1 b a n1 b1 b2 s1 n2 n3 n4 n5 n6 s2 v1 v2 v3 c->(need (isSl v3) (BId (a<(lenS v3:Int)) (((0<=a/\a<(lenZ 14 v3:Int))/\need (isPtr (ixT 14 v3 a.toNat)) (Ai ((Al c [] (.t (At (ixT 14 v3 a.toNat) 1)) 0 13).map TV.agg) (fun (x1:TV)=>BG [.int .i64,.bool,.bool,.str,.int .i64,.int .i64,.int .i64,.int .i64,.int .i64,.str,.tv,.tv,.tv] x1 (fun (n7:Int) (b3 b4:Bool) (s3:B8) (n8 n9 d g e:Int) (s4:B8) (v4 v5 v6:TV)=>need (List.all (cV n7 b3 b4 s3 n8 n9 d g e s4 v4 v5 v6) Ah) (Cl 33 13 168 b 1 (cV n7 b3 b4 s3 n8 n9 d g e s4 v4 v5 v6) c (fun (v7:TV) f=>(I1 v7 ((i64.wrap (a+(1:Int)))) n1 b1 b2 s1 n2 n3 n4 n5 n6 s2 v1 v2 v3 f/\M1 v7 ((i64.wrap (a+(1:Int)))) n1 b1 b2 s1 n2 n3 n4 n5 n6 s2 v1 v2 v3 f<M1 b a n1 b1 b2 s1 n2 n3 n4 n5 n6 s2 v1 v2 v3 c)))))))) (K b c))))):CallT PR Dj [(.agg (cV v_0 v_1 v_2 v_3 v_4 v_5 v_6 v_7 v_8 v_9 v_10 v_11 v_12))] [.one .tv] st K:=
 Af (cfg:=⟨[1],[],[]⟩) (h:=(.seq .none (.seq .none (.seq .none (.seq (.seq .none (.block (.loop ⟨[(3,.tv),(4,.int .i64)],[(1,0,0)],[(0,13)],[(0,0,.int .i64),(0,1,.bool),(0,2,.bool),(0,3,.str),(0,4,.int .i64),(0,5,.int .i64),(0,6,.int .i64),(0,7,.int .i64),(0,8,.int .i64),(0,9,.str),(0,10,.tv),(0,11,.tv),(0,12,.tv)]⟩ .none))) .none))))) mixed (fun _ _=>Tryz.call59 _ _) Tryz.func59 (by kernel_rfl) (by kernel_rfl) h
theorem Om (s:B8) (st:St) (K:Bool->St->Prop) (h:CallT PR JD [.str s] [.one (.int .i64),.one (.int .i64)] st (fun (n1 n2:Int) a=>K ((decide (n2=0))) a)):CallT PR D9 [.str s] [.one .bool] st K:=
 Af (cfg:=⟨[],[],[]⟩) (h:= .none) mixed (fun _ _=>Tryz.call60 _ _) Tryz.func60 (by kernel_rfl) (by kernel_rfl) h
theorem On (v_0:Int) (a:Bool) (v_2:Bool) (v_3:B8) (v_4:Int) (v_5:Int) (v_6:Int) (v_7:Int) (v_8:Int) (v_9:B8) (v_10:TV) (v_11:TV) (v_12:TV) (p:TV) (st:St) (K:V13 (Int->St->Prop)) (h:need (isSl p) (∃(I1:Int->TV->Int->V13 (V13 (St->Prop))) (M1:Int->TV->Int->V13 (V13 (St->Nat))),(I1 0 p ((lenS p:Int)) v_0 a v_2 v_3 v_4 v_5 v_6 v_7 v_8 v_9 v_10 v_11 v_12 0 false false [] 0 0 0 0 0 [] .nilSlice .nilSlice .nilSlice st)/\∀b a c n1 b1 b2 s1 n2 n3 n4 n5 n6 s2 v1 v2 v3 n7 b3 b4 s3 n8 n9 d f g s4 v4 v5 v6 j,I1 b a c n1 b1 b2 s1 n2 n3 n4 n5 n6 s2 v1 v2 v3 n7 b3 b4 s3 n8 n9 d f g s4 v4 v5 v6 j->(BId (b<c) (((0<=b/\b<(lenZ 3 a:Int))/\Ai ((Al j [] (.t (ixT 3 a b.toNat)) 0 3).map TV.agg) (fun (x1:TV)=>BG [.bool,.str,.int .i64] x1 (fun (b5:Bool) (s5:B8) (a2:Int)=>CallT PR FG [(.agg (cV n1 b1 b2 s1 n2 n3 n4 n5 n6 s2 v1 v2 v3)),(.agg [.bool b5,.str s5,.int .i64 a2])] [.one (.int .i64),.one (.int .i64)] j (fun (e a1:Int) i=>BId (a1≠0) (K 0 false false [] 0 0 0 0 0 [] .nilSlice .nilSlice .nilSlice a1 i) (BIf b5 (((0<=e/\e<(lenZ 13 v2:Int))/\Ai ((Al i [] (.t (ixT 13 v2 e.toNat)) 0 13).map TV.agg) (fun (x2:TV)=>BG [.int .i64,.bool,.bool,.str,.int .i64,.int .i64,.int .i64,.int .i64,.int .i64,.str,.tv,.tv,.tv] x2 (fun (s:Int) (b6 b7:Bool) (s6:B8) (u o w v n:Int) (s7:B8) (v7 v8 v9:TV)=>need (List.all (cV s b6 b7 s6 u o w v n s7 v7 v8 v9) Ah) ((I1 ((i64.wrap (b+(1:Int)))) a c s b6 b7 s6 u o w v n s7 v7 v8 v9 n7 b3 b4 s3 n8 n9 d f g s4 v4 v5 v6 i/\M1 ((i64.wrap (b+(1:Int)))) a c s b6 b7 s6 u o w v n s7 v7 v8 v9 n7 b3 b4 s3 n8 n9 d f g s4 v4 v5 v6 i<M1 b a c n1 b1 b2 s1 n2 n3 n4 n5 n6 s2 v1 v2 v3 n7 b3 b4 s3 n8 n9 d f g s4 v4 v5 v6 j)))))) (((0<=e/\e<(lenZ 14 v3:Int))/\need (isPtr (ixT 14 v3 e.toNat)) (Ai ((Al i [] (.t (At (ixT 14 v3 e.toNat) 1)) 0 13).map TV.agg) (fun (x3:TV)=>BG [.int .i64,.bool,.bool,.str,.int .i64,.int .i64,.int .i64,.int .i64,.int .i64,.str,.tv,.tv,.tv] x3 (fun (y:Int) (b8 b9:Bool) (s8:B8) (a0 m l k r:Int) (s9:B8) (q z x:TV)=>need (List.all (cV y b8 b9 s8 a0 m l k r s9 q z x) Ah) ((I1 ((i64.wrap (b+(1:Int)))) a c y b8 b9 s8 a0 m l k r s9 q z x n7 b3 b4 s3 n8 n9 d f g s4 v4 v5 v6 i/\M1 ((i64.wrap (b+(1:Int)))) a c y b8 b9 s8 a0 m l k r s9 q z x n7 b3 b4 s3 n8 n9 d f g s4 v4 v5 v6 i<M1 b a c n1 b1 b2 s1 n2 n3 n4 n5 n6 s2 v1 v2 v3 n7 b3 b4 s3 n8 n9 d f g s4 v4 v5 v6 j))))))))))))) (need (List.all (cV n1 b1 b2 s1 n2 n3 n4 n5 n6 s2 v1 v2 v3) Ah) (K n1 b1 b2 s1 n2 n3 n4 n5 n6 s2 v1 v2 v3 0 j))))):CallT PR Hg [(.agg (cV v_0 a v_2 v_3 v_4 v_5 v_6 v_7 v_8 v_9 v_10 v_11 v_12)),p] [sV,.one (.int .i64)] st K:=
 Af (cfg:=⟨[2,4,7],[],[]⟩) (h:=(.seq .none (.seq (.seq .none (.block (.loop ⟨[(12,.int .i64),(10,.tv),(11,.int .i64)],[(2,0,0),(4,1,0)],[(0,13),(1,13)],[(0,0,.int .i64),(0,1,.bool),(0,2,.bool),(0,3,.str),(0,4,.int .i64),(0,5,.int .i64),(0,6,.int .i64),(0,7,.int .i64),(0,8,.int .i64),(0,9,.str),(0,10,.tv),(0,11,.tv),(0,12,.tv),(1,0,.int .i64),(1,1,.bool),(1,2,.bool),(1,3,.str),(1,4,.int .i64),(1,5,.int .i64),(1,6,.int .i64),(1,7,.int .i64),(1,8,.int .i64),(1,9,.str),(1,10,.tv),(1,11,.tv),(1,12,.tv)]⟩ .none))) .none))) mixed (fun _ _=>Tryz.call61 _ _) Tryz.func61 (by kernel_rfl) (by kernel_rfl) h
theorem HG (s:B8) (st:St) (K:Bool->St->Prop) (h:CallT PR BV [.str s] [.one .tv,.one .bool] st (fun (v1:TV) (b1:Bool) a=>K b1 a)):CallT PR AP [.str s] [.one .bool] st K:=
 Af (cfg:=⟨[],[],[]⟩) (h:= .none) mixed (fun _ _=>Tryz.call62 _ _) Tryz.func62 (by kernel_rfl) (by kernel_rfl) h
theorem HB (a:TV) (b:TV) (st:St) (K:Bool->St->Prop) (h:need (isSl a) (need (isSl b) (BId ((lenS a:Int)≠(lenS b:Int)) (K false st) (∃(I1:Int->TV->TV->St->Prop) (M1:Int->TV->TV->St->Nat),(I1 0 a b st)/\∀c d f e,I1 c d f e->(need (isSl d) (BId (c<(lenS d:Int)) (((0<=c/\c<(lenZ 3 d:Int))/\Ai ((Al e [] (.t (ixT 3 d c.toNat)) 0 3).map TV.agg) (fun (x1:TV)=>BG [.bool,.str,.int .i64] x1 (fun (b1:Bool) (s1:B8) (n1:Int)=>((0<=c/\c<(lenZ 3 f:Int))/\Ai ((Al e [] (.t (ixT 3 f c.toNat)) 0 3).map TV.agg) (fun (x2:TV)=>BG [.bool,.str,.int .i64] x2 (fun (b2:Bool) (s2:B8) (n2:Int)=>BIf (!((b1==b2)&&(decide (s1=s2)&&(decide (n1=n2)&&true)))) (K false e) ((I1 ((i64.wrap (c+(1:Int)))) d f e/\M1 ((i64.wrap (c+(1:Int)))) d f e<M1 c d f e))))))))) (K true e))))))):CallT PR BY [a,b] [.one .bool] st K:=
 Af (cfg:=⟨[],[],[]⟩) (h:=(.seq .none (.seq .none (.seq (.seq .none (.block (.loop ⟨[(5,.int .i64),(0,.tv),(1,.tv)],[],[],[]⟩ .none))) .none)))) mixed (fun _ _=>Tryz.call63 _ _) Tryz.func63 (by kernel_rfl) (by kernel_rfl) h
end Go.TVF
