/- What the laws below rest on: a framework for Go programs, and contracts of the functions that they reach. -/
import Derived.Test.YtbbjecpcjdmfgaaGreatDoorSbB
import Derived.Deep.Slices
import Derived.WideShapes
import Derived.ChangeArms
import Derived.OpenShut
import Derived.Test.YtbbjecpcjdmfgaaGreatDoorProg
import Derived.KernelRfl
set_option maxRecDepth 20000
set_option linter.unusedVariables false
set_option linter.unusedSimpArgs false
section
namespace Go.TVF
open Go.IntKind(i64 u8)
open Go.RowKit (Below)
section
variable {P:Program} {g:Ghost} {st:St} {w:World}
theorem Le {s:Nat} {f:Nat->TV}:∀{ps:List (Nat×CTy)} {rest:List TV} {v:TV},PX s ps (ps.map (fun p=>f p.1)++rest)=some v->v=f s
 | [],rest,v,h=>by cases rest<;>simp[PX]at h
 | p::ps,rest,v,h=>by
  simp only[List.map_cons,List.cons_append,PX]at h
  split at h
  ·rename_i hb;simp only[Option.some.injEq]at h;rw[<-h,Nat.eq_of_beq_eq_true hb]
  ·exact Le h
theorem Ka {i o:Nat} {f:Nat->Nat->TV}:∀{ps:List (Nat×Nat×CTy)} {v:TV},ME i o ps (ps.map fun p=>f p.1 p.2.1)=some v->v=f i o
 | [],v,h=>by simp[ME]at h
 | p::ps,v,h=>by
  simp only[List.map_cons,ME]at h
  split at h
  ·rename_i hb
   simp only[Bool.and_eq_true]at hb
   simp only[Option.some.injEq]at h;rw[<-h,Nat.eq_of_beq_eq_true hb.1,Nat.eq_of_beq_eq_true hb.2]
  ·exact Ka h
theorem MB {s:Nat}:∀{ps:List (Nat×Nat×Nat)} {q:Nat×Nat},ON s ps=some q->(s,q)∈ps
 | [],q,h=>by simp[ON]at h
 | p::ps,q,h=>by
  simp only[ON]at h
  split at h
  ·rename_i hb;simp only[Option.some.injEq]at h;subst h;rw[<-Nat.eq_of_beq_eq_true hb];simp
  ·exact List.mem_cons_of_mem _ (MB h)
theorem MD {s:Nat}:∀{ps:List (Nat×Nat)} {q:Nat},J9 s ps=some q->(s,q)∈ps
 | [],q,h=>by simp[J9]at h
 | p::ps,q,h=>by
  simp only[J9]at h
  split at h
  ·rename_i hb;simp only[Option.some.injEq]at h;subst h;rw[<-Nat.eq_of_beq_eq_true hb];simp
  ·exact List.mem_cons_of_mem _ (MD h)
theorem Hl (k:Ei) (vals:List TV) (i:Nat):∀n o,(EA k vals i n o).length=n
 | 0,o=>rfl
 | n+1,o=>by simp[EA,Hl k vals i n]
theorem J7 (k:Ei) (vals:List TV) (i:Nat):∀n o j,j<n->(EA k vals i n o)[j]? =some (Ql k vals i (o+j))
 | 0,o,j,h=>absurd h (Nat.not_lt_zero _)
 | n+1,o,0,h=>by simp[EA]
 | n+1,o,j+1,h=>by
  simp only[EA,List.getElem?_cons_succ]
  rw[J7 k vals i n (o+1) j (by omega),show o+1+j=o+(j+1)from by omega]
theorem Mx (k:Ei) (vals:List TV):∀n s i x,(HV k vals n s)[i]? =some (some x)->∃m,J9 (s+i) k.locs=some m/\x=EA k vals (s+i) m 0
 | 0,s,i,x,h=>by simp[HV]at h
 | n+1,s,0,x,h=>by
  simp only[HV,List.getElem?_cons_zero,Option.some.injEq]at h
  split at h
  ·rename_i m hm;simp only[Option.some.injEq]at h;exact⟨m,by simpa using hm,by simpa using h.symm⟩
  ·cases h
 | n+1,s,i+1,x,h=>by
  simp only[HV,List.getElem?_cons_succ]at h
  obtain⟨m,h1,h2⟩:=Mx k vals n (s+1) i x h
  rw[show s+1+i=s+(i+1)from by omega]at h1 h2
  exact⟨m,h1,h2⟩
theorem K8 (k:Ei) (vals:List TV):∀n s i m,i<n->J9 (s+i) k.locs=some m->(HV k vals n s)[i]? =some (some (EA k vals (s+i) m 0))
 | 0,s,i,m,h,_=>absurd h (Nat.not_lt_zero _)
 | n+1,s,0,m,h,hm=>by simp only[HV,List.getElem?_cons_zero,Nat.add_zero]at hm⊢;rw[hm]
 | n+1,s,i+1,m,h,hm=>by
  simp only[HV,List.getElem?_cons_succ]
  have:=K8 k vals n (s+1) i m (by omega) (by rw[show s+1+i=s+(i+1)from by omega];exact hm)
  rw[show s+1+i=s+(i+1)from by omega]at this
  exact this
theorem Sim.weakLoc {loc loc':List (Option (List TV))} (s:Sim g st loc w) (h:∀(j:Nat) (x':List TV),loc'[j]? =some (some x')->∃x,loc[j]? =some (some x)/\x'.length=x.length/\∀i (hi:i<x'.length),x'[i]? =x[i]?∨x'[i]? =some .junk):Sim g st loc' w:=by
 have hd:∀k,Dom st loc' k->Dom st loc k:=by
  intro k d
  cases k with
  | box i=>exact d
  | loc i=>obtain⟨x',hx'⟩:=d;obtain⟨x,hx,_⟩:=h i x' hx';exact⟨x,hx⟩
 refine⟨s.nb,s.nt,s.below,s.fits,fun k d=>?_,fun k k' d d'=>s.inj k k' (hd k d) (hd k' d'),fun k d=>s.lo k (hd k d),s.own,?_,s.spApart,s.spLt,?_,?_,s.spTop,s.spTy,s.bTy,s.glob⟩
 ·cases k with
  | box i=>exact s.obj (.box i) d
  | loc i=>
   obtain⟨x',hx'⟩:=d
   obtain⟨x,hx,hlen,hel⟩:=h i x' hx'
   have:=s.obj (.loc i) ⟨x,hx⟩
   simp only[AZ,hx]at this
   simp only[AZ,hx']
   obtain⟨cs,hc,hr⟩:=this
   refine⟨cs,hc,hlen.trans hr.1,fun j hj=>?_⟩
   rcases hel j hj with e | e
   ·have hj':j<x.length:=hlen▸hj
    rw[List.getElem?_eq_getElem hj,List.getElem?_eq_getElem hj']at e
    simp only[Option.some.injEq]at e
    rw[e];exact hr.2 j hj'
   ·rw[List.getElem?_eq_getElem hj]at e
    simp only[Option.some.injEq]at e
    rw[e];exact .junk _
 ·intro id b l h' hsp
  obtain⟨c1,c2,c3,c4,c5⟩:=s.spCell id b l h' hsp
  exact⟨c1,c2,c3,fun k d=>c4 k (hd k d),c5⟩
 ·intro a ha
  obtain⟨c1,c2,c3,c4⟩:=s.sCell a ha
  exact⟨c1,c2,fun k d=>c3 k (hd k d),c4⟩
 ·intro b hb
  obtain⟨c1,c2,c3⟩:=s.protOk b hb
  exact⟨c1,fun k d=>c2 k (hd k d),c3⟩
theorem Ei.weak {k:Ei} {fr:Fr} {tmps:Array Value} {ns nl:Nat} (hk:k.ok nl fr=true) (s:Sim g st fr.loc w) (hf:Fa g w fr tmps) (hn:tmps.size=ns):
  Sim g st (k.frame ns nl (k.vals fr)).loc w/\Fa g w (k.frame ns nl (k.vals fr)) tmps:=by
 simp only[Ei.ok,Bool.and_eq_true,List.all_eq_true]at hk
 obtain⟨hp,hl⟩:=hk
 have hvals:(k.vals fr).drop k.slots.length=k.cells.map fun p=>JY fr p.1 p.2.1:=by
  unfold Ei.vals
  rw[List.drop_append_of_le_length (by simp)]
  simp
 have hloc:∀(j:Nat) (x':List TV),(HV k (k.vals fr) nl 0)[j]? =some (some x')->∃x,fr.loc[j]? =some (some x)/\x'.length=x.length/\∀i (hi:i<x'.length),x'[i]? =x[i]?∨x'[i]? =some .junk:=by
  intro j x' hx'
  obtain⟨m,hm,rfl⟩:=Mx _ _ _ _ _ _ hx'
  rw[Nat.zero_add]at hm
  have hsz:=hl _ (MD hm)
  unfold SS at hsz
  simp only at hsz
  split at hsz
  ·rename_i x hx
   have hxl:=Nat.eq_of_beq_eq_true hsz
   refine⟨x,hx,by rw[Hl];exact hxl.symm,fun i hi=>?_⟩
   have him:i<m:=by rw[Hl]at hi;exact hi
   rw[J7 _ _ _ _ _ _ him,Nat.zero_add,Nat.zero_add]
   unfold Ql
   rw[hvals]
   cases hc:ME j i k.cells (k.cells.map fun p=>JY fr p.1 p.2.1)with
   | none=>exact .inr rfl
   | some v=>
    have:=Ka (f:=JY fr) hc
    left
    have hix:i<x.length:=by omega
    simp only[this,JY,hx,List.getD_eq_getElem?_getD,List.getElem?_eq_getElem hix,Option.getD_some]
  ·cases hsz
 refine⟨s.weakLoc hloc,hn.symm,fun i=>?_⟩
 ·have hget:(k.frame ns nl (k.vals fr)).slots.f i=PD k (k.vals fr) i:=rfl
  rw[hget]
  have hold:=hf.2 i
  unfold PD
  split
  ·rename_i v hv
   have hv':PX i k.slots (k.slots.map (fun p=>Jy fr p.1)++k.cells.map fun p=>JY fr p.1 p.2.1)=some v:=hv
   have:=Le (f:=Jy fr) hv'
   rw[this]
   show Rel g w (Jy fr i) _
   exact hold.tv
  ·split
   ·rename_i q hq
    obtain⟨hpi,hloc2⟩:=hp _ (MB hq)
    unfold S3 at hloc2
    unfold QS at hpi
    simp only at hpi
    split at hpi
    ·rename_i j p hs
     simp only[Bool.and_eq_true]at hpi
     have e1:=Nat.eq_of_beq_eq_true hpi.1
     have e2:=Nat.eq_of_beq_eq_true hpi.2
     rw[hs]at hold
     obtain⟨⟨x,hx⟩,hv⟩:=hold
     split at hloc2
     ·rename_i m hm
      have hlt:=Nat.le_of_ble_eq_true hloc2
      simp only at hlt hm
      have:=K8 k (k.vals fr) nl 0 q.1 m (by omega) (by rw[Nat.zero_add];exact hm)
      exact⟨⟨_,this⟩,by rw[hv,e1,e2]⟩
     ·cases hloc2
    ·cases hpi
   ·exact Rel.junk _
end
end Go.TVF
end
section
namespace Go.TVF
open Go.IntKind(i64 u8)
open Go.RowKit (Below)
theorem N4 {P:Program} {Q:Exit->Act->World->Prop} {a:Act} {w:World} {c:Code} (I:Nat->Act->World->Prop) (h₀:∃m,I m a w)
  (round:∀m a w,I m a w->c.wp P (Exit.then (fun a' w'=>∃m',m'<m/\I m' a' w') Q) a w):(Code.loop c).wp P Q a w:=by
 intro b k cs
 have key:∀m a w,I m a w->∃e a' w',Q e a' w'/\Arrives P (lone (b.at a (.code c:: .inLoop c::k)) cs w) b k cs e a' w':=by
  intro m
  induction m using Nat.strongRecOn with
  | _ m ih=>
   intro a w hI
   obtain⟨e,a₁,w₁,hq,harr⟩:=round m a w hI b (.inLoop c::k) cs
   cases e with
   | normal=>
    obtain⟨m',hlt,hI₁⟩:=hq
    obtain⟨e₂,a₂,w₂,hq₂,harr₂⟩:=ih m' hlt a₁ w₁ hI₁
    exact⟨e₂,a₂,w₂,hq₂,.of_steps (Steps.trans harr (.one step_inLoop)) harr₂⟩
   | exit id=>exact⟨_,a₁,w₁,hq,.pass (x:= .inLoop c) rfl (fun _ _=> .inl (by simp)) harr⟩
   | goto l=>exact⟨_,a₁,w₁,hq,.pass (x:= .inLoop c) rfl (fun _ _=> .inl (by simp)) harr⟩
   | ret=>exact⟨_,a₁,w₁,hq,.pass (x:= .inLoop c) rfl (fun _ _=> .inl (by simp)) harr⟩
   | panic ch=>exact⟨_,a₁,w₁,hq,.pass (x:= .inLoop c) rfl (fun _ _=> .inl (by simp)) harr⟩
   | outgrown=>exact⟨_,a₁,w₁,hq,.pass (x:= .inLoop c) rfl (fun _ _=> .inl (by simp)) harr⟩
 obtain⟨m,hm⟩:=h₀
 obtain⟨e,a',w',hq,harr⟩:=key m a w hm
 exact⟨e,a',w',hq,.of_steps (.one step_loop) harr⟩
theorem LM:∀{cs:List CTy} {vs:List TV} {I:Fun cs (St->Prop)} {M:Fun cs (St->Nat)} {B:List TV->Nat->St->Prop} {st:St},AllC cs I M B->Ib cs vs I (fun p=>p st)->∃m,B vs m st
 | [],[],I,M,B,st,h,hd=>⟨_,h st hd⟩
 | [],_::_,I,M,B,st,h,hd=>hd.elim
 | _::_,[],I,M,B,st,h,hd=>hd.elim
 | c::cs,v::vs,I,M,B,st,h,hd=>by
  obtain⟨y,rfl,hd2⟩:=Dr hd
  exact LM (B:=fun l=>B (enc c y::l)) (h y) hd2
theorem M5:∀{cs:List CTy} {vs:List TV} {I:Fun cs (St->Prop)} {M:Fun cs (St->Nat)} {B:List TV->Nat->St->Prop} {st:St} {m:Nat},AllC cs I M B->Pb cs vs I M (fun p q=>p st/\q st<m)->∃m',m'<m/\B vs m' st
 | [],[],I,M,B,st,m,h,hd=>⟨_,hd.2,h st hd.1⟩
 | [],_::_,I,M,B,st,m,h,hd=>hd.elim
 | _::_,[],I,M,B,st,m,h,hd=>hd.elim
 | c::cs,v::vs,I,M,B,st,m,h,hd=>by
  obtain⟨y,rfl,hd2⟩:=Dr hd
  exact M5 (B:=fun l=>B (enc c y::l)) (h y) hd2
theorem Kf:∀{cs:List CTy} {vs:List TV} {I:Fun cs (St->Prop)} {B:List TV->St->Prop} {st:St},TH cs I B->Ib cs vs I (fun p=>p st)->B vs st
 | [],[],I,B,st,h,hd=>h st hd
 | [],_::_,I,B,st,h,hd=>hd.elim
 | _::_,[],I,B,st,h,hd=>hd.elim
 | c::cs,v::vs,I,B,st,h,hd=>by
  obtain⟨y,rfl,hd2⟩:=Dr hd
  exact Kf (B:=fun l=>B (enc c y::l)) (h y) hd2
def QPost (g:Ghost) (w:World) (a0:Act) (Q:Exit->Fr->St->Prop) (e:Exit) (a:Act) (w':World):Prop:=Ic g w a0 (Q e) a w'
section
variable {P:Program} {cfg:Cfg} {ns nl:Nat}
theorem RO (hm:P.follows .mixedOrders=true):∀(c:Code) (h:Hw) (Q:Exit->Fr->St->Prop) (fr:Fr) (st:St) (g:Ghost) (w:World) (a:Act),cwp cfg P ns nl c h Q fr st->Sim g st fr.loc w->Fa g w fr a.tmps->a.tmps.size=ns->
  c.wp P (QPost g w a Q) a w:=by
 intro c
 induction c with
 | skip=>intro h Q fr st g w a hc s hf hn;exact wp_skip ⟨fr,st,g,hc,s,hf,Ext.refl _ _,rfl,rfl⟩
 | region id ops draw=>
  intro h Q fr st g w a hc s hf hn
  cases draw with
  | false=>exact wp_region_list (J3 ops.toList fr st g w a hc s hf fun a' w' hp=>hp)
  | true=>exact NK hm hc s hf fun a' w' hp=>hp
 | seq x y ihx ihy=>
  intro h Q fr st g w a hc s hf hn
  have key:∀(hx hy:Hw),cwp cfg P ns nl x hx (Of (cwp cfg P ns nl y hy Q) Q) fr st->(Code.seq x y).wp P (QPost g w a Q) a w:=by
   intro hx hy hcx
   refine wp_seq (wp_mono (ihx hx _ fr st g w a hcx s hf hn) fun e a' w' hq=>?_)
   obtain⟨fr',st',g',h1,h2,h3,h4,h5⟩:=hq
   cases e with
   | normal=>
    refine wp_mono (ihy hy Q fr' st' g' w' a' h1 h2 h3 (h5.2.trans hn)) fun e a'' w'' hq2=>?_
    exact hq2.ext h4 h5
   | _=>exact⟨fr',st',g',h1,h2,h3,h4,h5⟩
  cases h with
  | cut k hx hy=>
   obtain⟨R,h1,h2⟩:=hc
   refine wp_seq (wp_mono (ihx hx _ fr st g w a h1 s hf hn) fun e a' w' hq=>?_)
   obtain⟨fr',st',g',q1,q2,q3,q4,q5⟩:=hq
   cases e with
   | normal=>
    have q1':need (k.ok nl fr') (Ib k.tys (k.vals fr') R fun p=>p st'):=q1
    rw[Ag]at q1'
    obtain⟨w1,w2⟩:=Ei.weak (ns:=ns) q1'.1 q2 q3 (q5.2.trans hn)
    have hb:=Kf h2 q1'.2
    exact wp_mono (ihy hy Q _ st' g' w' a' hb w1 w2 (q5.2.trans hn)) fun e a'' w'' hq2=>hq2.ext q4 q5
   | _=>exact⟨fr',st',g',q1,q2,q3,q4,q5⟩
  | none=>exact key _ _ hc
  | seq p q=>exact key _ _ hc
  | cond p q=>exact key _ _ hc
  | block p=>exact key _ _ hc
  | loop k p=>exact key _ _ hc
 | cond c x y ihx ihy=>
  intro h Q fr st g w a hc s hf hn
  simp only[cwp]at hc
  split at hc
  ·rename_i b hb
   have hr:=Ns hf c
   rw[hb]at hr
   have hr':Rel g w (.bool b) (a.eval c):=hr
   have hev:a.eval c= .bool b:=by generalize a.eval c=q at hr';cases hr';rfl
   cases b with
   | true=>exact wp_cond_true hev (ihx h.l Q fr st g w a hc s hf hn)
   | false=>exact wp_cond_false hev (ihy h.r Q fr st g w a hc s hf hn)
  ·exact hc.elim
 | block id x ih=>
  intro h Q fr st g w a hc s hf hn
  refine wp_block (wp_mono (ih h.l (Qp id Q) fr st g w a hc s hf hn) fun e a' w' hq=>?_)
  obtain⟨fr',st',g',h1,h2,h3,h4,h5⟩:=hq
  cases e with
  | exit id'=>
   simp only[Qp]at h1
   by_cases hid:id'=id
   ·subst hid
    have hbe:(id'.beq id')=true:=Nat.beq_refl id'
    simp only[hbe]at h1
    simp only[Exit.inBlock,if_true]
    exact⟨fr',st',g',h1,h2,h3,h4,h5⟩
   ·have hbe:(id'.beq id)=false:=by
     cases hq:id'.beq id with
     | false=>rfl
     | true=>exact absurd (Nat.eq_of_beq_eq_true hq) hid
    simp only[hbe]at h1
    simp only[Exit.inBlock,hid,if_false]
    exact⟨fr',st',g',h1,h2,h3,h4,h5⟩
  | _=>exact⟨fr',st',g',h1,h2,h3,h4,h5⟩
 | loop x ih=>
  intro h Q fr st g w a hc s hf hn
  cases h with
  | loop k hx=>
   obtain⟨I,M,h1,h2⟩:=hc
   rw[Ag]at h1
   refine N4 (fun m a' w'=>∃vals st' g',cwp cfg P ns nl x hx (Of (fun fr st=>need (k.ok nl fr) (Pb k.tys (k.vals fr) I M fun p q=>p st/\q st<m)) Q) (k.frame ns nl vals) st'/\
    Sim g' st' (k.frame ns nl vals).loc w'/\Fa g' w' (k.frame ns nl vals) a'.tmps/\Ext g w g' w'/\a'.defers=a.defers/\a'.tmps.size=a.tmps.size) ?_ ?_
   ·obtain⟨m,hm⟩:=LM h2 h1.2
    obtain⟨w1,w2⟩:=Ei.weak (ns:=ns) h1.1 s hf hn
    exact⟨m,_,st,g,hm,w1,w2,Ext.refl _ _,rfl,rfl⟩
   ·rintro m a' w' ⟨vals,st',g',q1,q2,q3,q4,q5⟩
    refine wp_mono (ih hx _ _ st' g' w' a' q1 q2 q3 (q5.2.trans hn)) fun e a'' w'' hq=>?_
    obtain⟨fr2,st2,g2,r1,r2,r3,r4,r5⟩:=hq
    cases e with
    | normal=>
     have r1':need (k.ok nl fr2) (Pb k.tys (k.vals fr2) I M fun p q=>p st2/\q st2<m):=r1
     rw[Ag]at r1'
     obtain⟨m',hlt,hB⟩:=M5 h2 r1'.2
     obtain⟨w1,w2⟩:=Ei.weak (ns:=ns) r1'.1 r2 r3 (r5.2.trans (q5.2.trans hn))
     exact⟨m',hlt,_,st2,g2,hB,w1,w2,q4.trans r4,r5.1.trans q5.1,r5.2.trans q5.2⟩
    | _=>exact⟨fr2,st2,g2,r1,r2,r3,q4.trans r4,r5.1.trans q5.1,r5.2.trans q5.2⟩
  | _=>exact hc.elim
 | exit id=>intro h Q fr st g w a hc s hf hn;exact wp_exit ⟨fr,st,g,hc,s,hf,Ext.refl _ _,rfl,rfl⟩
 | ret=>intro h Q fr st g w a hc s hf hn;exact wp_ret ⟨fr,st,g,hc,s,hf,Ext.refl _ _,rfl,rfl⟩
 | _=>intro h Q fr st g w a hc s hf hn;exact hc.elim
def JF (P:Program) (fr:Fr) (st:St):ResultVar->Option TV
 | .tmp t=>some (Jy fr t)
 | .cell a t=>match ID P t with
  | some true=>match P.cellsOf t with
   | 0=>none
   | n=>(Al st fr.loc (fr.slots.f a) 0 n).map .agg
  | some false=>Ac st fr.loc (fr.slots.f a) 0
  | none=>none
def Hh (P:Program) (fr:Fr) (st:St):List ResultVar->Option (List TV)
 | []=>some []
 | r::rs=>match JF P fr st r with
  | some v=>(Hh P fr st rs).map (v::·)
  | none=>none
def Pz:List TV->TV
 | [v]=>v
 | vs=> .tuple vs
def resT (P:Program) (fn:Func) (fr:Fr) (st:St):Option TV:=(Hh P fr st fn.results.toList).map Pz
def Nv (P:Program) (fr:Fr) (st:St) (r:ResultVar) (k:TV->Prop):Prop:=
 match r with
 | .tmp t=>k (Jy fr t)
 | .cell a t=>match ID P t with
  | some true=>match P.cellsOf t with
   | 0=>False
   | n=>Ai ((Al st fr.loc (fr.slots.f a) 0 n).map .agg) k
  | some false=>Ai (Ac st fr.loc (fr.slots.f a) 0) k
  | none=>False
def I0 (P:Program) (fr:Fr) (st:St):List ResultVar->(List TV->Prop)->Prop
 | [],k=>k []
 | r::rs,k=>Nv P fr st r fun v=>I0 P fr st rs fun vs=>k (v::vs)
theorem L4 {P:Program} {fr:Fr} {st:St} {r:ResultVar} {k:TV->Prop} (h:Nv P fr st r k):∃v,JF P fr st r=some v/\k v:=by
 cases r with
 | tmp t=>exact⟨_,rfl,h⟩
 | cell a t=>
  unfold Nv at h
  unfold JF
  simp only at h⊢
  cases ha:ID P t with
  | none=>rw[ha]at h;exact h.elim
  | some b=>
   rw[ha]at h
   cases b with
   | true=>
    simp only at h⊢
    cases hn:P.cellsOf t with
    | zero=>rw[hn]at h;exact h.elim
    | succ n=>
     rw[hn]at h
     exact B0.1 h
   | false=>exact B0.1 h
theorem HU {P:Program} {fr:Fr} {st:St}:∀{rs:List ResultVar} {k:List TV->Prop},I0 P fr st rs k->∃vs,Hh P fr st rs=some vs/\k vs
 | [],k,h=>⟨[],rfl,h⟩
 | r::rs,k,h=>by
  obtain⟨v,h1,h2⟩:=L4 h
  obtain⟨vs,h3,h4⟩:=HU h2
  exact⟨v::vs,by simp[Hh,h1,h3],h4⟩
def retQ (P:Program) (fn:Func) (R:TV->St->Prop):Exit->Fr->St->Prop
 | .normal,fr,st=>I0 P fr st fn.results.toList fun vs=>R (Pz vs) st
 | .ret,fr,st=>I0 P fr st fn.results.toList fun vs=>R (Pz vs) st
 | _,_,_=>False
def GA (cfg:Cfg) (fn:Func) (args:List TV):Fr:=⟨⟨fn.ntmps,fun i=>match args[i]? with | some v=> .t v | none=> .t .undef⟩,cfg.loc.map fun _=>none⟩
theorem Nt {g:Ghost} {st:St} {w:World} {fr:Fr} {tmps:Array Value} (s:Sim g st fr.loc w) (hf:Fa g w fr tmps) {r:ResultVar} {v:TV} (h:JF P fr st r=some v):
  ∃u,(match r with | .tmp t=>pure (tmps.getD t Go.undef) | .cell a t=>do loadVar t (<-asAddr (tmps.getD a Go.undef)):Sem Value).run P w= .ok u w/\Rel g w v u:=by
 cases r with
 | tmp t=>
  simp only[JF,Option.some.injEq]at h
  subst h
  exact⟨_,rfl,(hf.2 t).tv⟩
 | cell a t=>
  simp only[JF]at h
  have hld:∀p,Bk g w fr.loc p (tmps.getD a Go.undef)->(DE P st fr.loc t p).Is (.t v)->∃u,(do loadVar t (<-asAddr (tmps.getD a Go.undef)):Sem Value).run P w= .ok u w/\Rel g w v u:=by
   intro p hp hl
   have hl':=hl
   obtain⟨u,hu,hr⟩:=Lf (P:=P) s hp hl'
   have hsa:(Instr.loadAt t (tmps.getD a Go.undef)).run P w=(do loadVar t (<-asAddr (tmps.getD a Go.undef)):Sem Value).run P w:=by
    generalize hq:tmps.getD a Go.undef=q at hp hu
    simp only[Instr.loadAt,Sem.run_bind]
    cases q with
    | pointer o=>cases o with
     | none=>simp[Instr.loadAt,Instr.sureAddr]at hu
     | some ad=>simp[Instr.sureAddr,asAddr]
    | _=>simp[Instr.loadAt,Instr.sureAddr]at hu
   exact⟨u,by rw[<-hsa];exact hu,hr⟩
  split at h
  ·rename_i ha
   split at h
   ·cases h
   ·rename_i n hn
    refine hld _ (hf.2 a) ?_
    unfold DE
    rw[ha]
    exact⟨v,by
     split
     ·rename_i h0;exact absurd h0 hn
     ·exact h,rfl⟩
  ·rename_i ha
   refine hld _ (hf.2 a) ?_
   unfold DE
   rw[ha]
   exact⟨v,h,rfl⟩
  ·cases h
theorem IZ {g:Ghost} {st:St} {w:World} {fr:Fr} {tmps:Array Value} (s:Sim g st fr.loc w) (hf:Fa g w fr tmps):∀{rs:List ResultVar} {vs:List TV},Hh P fr st rs=some vs->
  ∃us:List Value,(rs.mapM (fun r=>match r with | .tmp t=>pure (tmps.getD t Go.undef) | .cell a t=>do loadVar t (<-asAddr (tmps.getD a Go.undef))):Sem (List Value)).run P w= .ok us w/\AE g w vs us
 | [],vs,h=>by simp only[Hh,Option.some.injEq]at h;subst h;exact⟨[],rfl,.nil _ _⟩
 | r::rs,vs,h=>by
  simp only[Hh]at h
  split at h
  ·rename_i v hv
   obtain⟨vs',hvs',rfl⟩:=Option.map_eq_some_iff.1 h
   obtain⟨u,hu,hr⟩:=Nt s hf hv
   obtain⟨us,hus,hrs⟩:=IZ s hf hvs'
   refine⟨u::us,?_,.cons hr hrs⟩
   rw[List.mapM_cons]
   simp only[Sem.run_bind,hu,Result.andThen_ok,hus,Sem.run_pure]
  ·cases h
theorem PJ {g:Ghost} {st:St} {w:World} {fr:Fr} {tmps:Array Value} (s:Sim g st fr.loc w) (hf:Fa g w fr tmps) {fn:Func} {v:TV} (h:resT P fn fr st=some v):∃u,(results fn tmps).run P w= .ok u w/\Rel g w v u:=by
 unfold resT at h
 cases hr:Hh P fr st fn.results.toList with
 | none=>rw[hr]at h;cases h
 | some vs=>
  rw[hr]at h
  obtain⟨us,hus,hrel⟩:=IZ s hf hr
  have hrun:(fn.results.mapM (fun r=>match r with | .tmp t=>pure (tmps.getD t Go.undef) | .cell a t=>do loadVar t (<-asAddr (tmps.getD a Go.undef))):Sem (Array Value)).run P w= .ok us.toArray w:=by
   rw[<-Array.toArray_toList (xs:=fn.results),List.mapM_toArray]
   simp only[Sem.run_map,hus,Result.andThen_ok]
  refine⟨if h:us.toArray.size=1 then us.toArray[0]else .tuple us.toArray,?_,?_⟩
  ·have hres:results fn tmps=(do
     let vs<-(fn.results.mapM (fun r=>match r with | .tmp t=>pure (tmps.getD t Go.undef) | .cell a t=>do loadVar t (<-asAddr (tmps.getD a Go.undef))):Sem (Array Value))
     pure (if h:vs.size=1 then vs[0]else .tuple vs)):=rfl
   rw[hres,Sem.run_bind,hrun]
   rfl
  ·cases vs with
   | nil=>
    simp only[Option.map_some,Option.some.injEq,Pz]at h;subst h
    have:us=[]:=List.eq_nil_of_length_eq_zero hrel.1.symm
    subst this
    exact Rel.tuple [] [] rfl (fun i hi=>absurd hi (Nat.not_lt_zero _))
   | cons v1 vs1=>cases vs1 with
    | nil=>
     simp only[Option.map_some,Option.some.injEq,Pz]at h;subst h
     cases us with
     | nil=>have:=hrel.1;simp at this
     | cons u1 us1=>
      have:us1=[]:=List.eq_nil_of_length_eq_zero (by have:=hrel.1;simpa using this.symm)
      subst this
      simpa using hrel.2 0 (by simp)
    | cons v2 vs2=>
     simp only[Option.map_some,Option.some.injEq,Pz]at h;subst h
     have hl:us.toArray.size≠1:=by have:=hrel.1;simp at this⊢;omega
     rw[dif_neg hl]
     exact Rel.tuple _ us hrel.1 hrel.2
theorem Rn (hm:P.follows .mixedOrders=true) {f:FuncId} {fn:Func} {c:Code} (hcall:∀(vs:Array Value) (w:World),(callFunc f vs).run P w= .ok (.enter f vs) w) (hf:P.funcs[f]? =some fn) (hb:fn.body=some c)
  (cfg:Cfg) (h:Hw) {args:List TV} {st:St} {R:TV->St->Prop} (hn:args.length<=fn.ntmps)
  (hc:cwp cfg P fn.ntmps cfg.loc.length c h (retQ P fn R) (GA cfg fn args) st):Df P f args st R:=by
 refine Gm hcall fun g w vargs s hr=>?_
 refine calls_of_wp hf hb ?_
 have hlen:vargs.length=args.length:=hr.1.symm
 have hsize:(vargs.toArray++Array.replicate (fn.ntmps-vargs.toArray.size) Go.undef).size=fn.ntmps:=by simp;omega
 have hsim:Sim g st (GA cfg fn args).loc w:=s.weakLoc fun j x' hx'=>by
  simp only[GA,List.getElem?_map]at hx'
  cases hq:cfg.loc[j]? with
  | none=>rw[hq]at hx';cases hx'
  | some q=>rw[hq]at hx';simp at hx'
 have hfr:Fa g w (GA cfg fn args) (vargs.toArray++Array.replicate (fn.ntmps-vargs.toArray.size) Go.undef):=by
  refine⟨by rw[hsize];rfl,fun i=>?_⟩
  by_cases hia:i<args.length
  ·have h1:(GA cfg fn args).slots.f i= .t args[i]:=by simp[GA,hia]
   have h2:(vargs.toArray++Array.replicate (fn.ntmps-vargs.toArray.size) Go.undef).getD i Go.undef=vargs.getD i Go.undef:=by
    have:i<vargs.length:=by omega
    have hin:i<fn.ntmps:=by omega
    simp[Array.getD,Array.getElem_append,this,hin,List.getD_eq_getElem?_getD]
    omega
   rw[h1,h2]
   exact hr.2 i hia
  ·have h1:(GA cfg fn args).slots.f i= .t .undef:=by simp[GA,hia]
   have h2:(vargs.toArray++Array.replicate (fn.ntmps-vargs.toArray.size) Go.undef).getD i Go.undef=Go.undef:=by
    have:¬i<vargs.length:=by omega
    simp[Array.getD,Array.getElem_append,this]
   rw[h1,h2]
   exact Rel.undef
 refine wp_mono (RO hm c h _ _ st g w {tmps:=vargs.toArray++Array.replicate (fn.ntmps-vargs.toArray.size) Go.undef,defers:=[]} hc hsim hfr hsize) fun e a' w' hq=>?_
 obtain⟨fr',st',g',h1,h2,h3,h4,h5,h6⟩:=hq
 have fin:I0 P fr' st' fn.results.toList (fun vs=>R (Pz vs) st')->a'.defers=[]/\∃v,(results fn a'.tmps).run P w'= .ok v w'/\∃v',Ending.returned v= .returned v'/\∃r st' g',R r st'/\Sim g' st' [] w'/\Rel g' w' r v'/\Ext g w g' w':=by
  intro ho
  obtain⟨vs,hvs,hR⟩:=HU ho
  obtain⟨u,hu,hrel⟩:=PJ (fn:=fn) h2 h3 (by unfold resT;rw[hvs];rfl)
  exact⟨h5,u,hu,u,rfl,_,st',g',hR,h2.dropLoc (fun j x hx=>by simp at hx),hrel,h4⟩
 cases e with
 | normal=>exact fin h1
 | ret=>exact fin h1
 | _=>exact h1.elim
def St.zero:St:={nb:=0,box:=fun _=> .dead,nt:=0,live:=fun _=>false,ty:=fun _=>none,bt:=fun _=>none}
def Ghost.start (w:World):Ghost:={base:=w.heap.size,w0:=w,nb:=0,bk:=fun _=>0,lam:=fun _=>0,nt:=0,sp:=fun _=>none,S:=fun a=>a.spot=none/\∃v,w.cell? a=some v,prot:=fun _=>False}
theorem Sim.start (w:World) (hG:∀w',Below w.heap.size w w'->N0 w'):Sim (Ghost.start w) St.zero [] w:=by
 have hd:∀k,¬Dom St.zero [] k:=by
  intro k d
  cases k with
  | box i=>exact absurd d (Nat.not_lt_zero _)
  | loc i=>obtain⟨x,hx⟩:=d;simp at hx
 exact⟨rfl,rfl,Below.refl _ _,Nat.le_refl _,fun k d=>absurd d (hd k),fun k k' d=>absurd d (hd k),fun k d=>absurd d (hd k),fun id h=>absurd h (Nat.not_lt_zero _),
  fun id b l h hh=>(by cases hh),fun i j b l h l' h' _ hh=>(by cases hh),fun id _=>rfl,fun a ha=>⟨ha.1,ha.2,fun k d=>absurd d (hd k),fun id l h hh=>(by cases hh)⟩,fun b hb=>hb.elim,fun id b l h hh=>(by cases hh),fun id b l h T hh=>(by cases hh),fun b T hb=>absurd hb (Nat.not_lt_zero _),hG⟩
theorem Qm {f:FuncId} {args:List TV} (hcall:∀(vs:Array Value) (w:World),(callFunc f vs).run P w= .ok (.enter f vs) w) (h:Df P f args St.zero fun r _=>r= .bool true) (w:World) (hG:∀w',Below w.heap.size w w'->N0 w') (vargs:List Value) (hr:AE (Ghost.start w) w args vargs):
  Calls P f vargs.toArray w fun e w'=>e= .returned (.bool true)/\Below w.heap.size w w':=by
 have h1:=h.run (Ghost.start w) w vargs (Sim.start w hG) hr
 unfold CH at h1
 rw[hcall]at h1
 refine Calls.mono h1 ?_
 rintro e w' ⟨v,rfl,r,st',g',rfl,s',hrel,e'⟩
 have hb:=s'.below
 rw[e'.base,e'.w0]at hb
 cases hrel
 exact⟨rfl,hb⟩
end
def Qo (fn:Func):Code:=match fn.body with | some c=>c | none=> .skip
def Fw (cfg:Cfg) (P:Program) (h:Hw) (fn:Func) (args:List TV) (st:St) (R:TV->St->Prop):Prop:=
 cwp cfg P fn.ntmps cfg.loc.length (Qo fn) h (retQ P fn R) (GA cfg fn args) st
def fits (fn:Func) (args:List TV):Bool:=(fn.body.isSome).and (args.length.ble fn.ntmps)
theorem Ae {P:Program} (hm:P.follows .mixedOrders=true) {f:FuncId} {fn:Func} (hcall:∀(vs:Array Value) (w:World),(callFunc f vs).run P w= .ok (.enter f vs) w) (hf:P.funcs[f]? =some fn)
  {cfg:Cfg} {h:Hw} {args:List TV} {st:St} {R:TV->St->Prop} (hn:fits fn args=true) {V:Prop} (he:Fw cfg P h fn args st R=V) (hV:V):Df P f args st R:=by
 simp only[fits,Bool.and_eq_true]at hn
 obtain⟨c,hc⟩:=Option.isSome_iff_exists.1 hn.1
 have hb:fn.body=some (Qo fn):=by rw[Qo,hc]
 rw[<-he]at hV
 exact Rn hm hcall hf hb cfg h (Nat.le_of_ble_eq_true hn.2) hV
def Cd (cs:List CTy) (v:TV) (f:Fun cs Prop):Prop:=
 match v with
 | .agg l=>decL cs l f
 | _=>False
def stB (st:St) (p:TV) (xs:List TV) (k:St->Prop):Prop:=
 match p with
 | .box b off=>∃l,st.box b= .cells l/\off+xs.length<=l.length/\k (st.put b (.cells (setAll l off xs)))
 | _=>False
theorem Ab {p:Prop} [Decidable p] {x y:Prop} (h1:p->x) (h2:¬p->y):BIf (decide p) x y:=by
 by_cases h:p
 ·simp only[h,decide_true,BIf];exact h1 h
 ·simp only[h,decide_false,BIf];exact h2 h
theorem As {b:Bool} {x y:Prop} (h1:b=true->x) (h2:b=false->y):BIf b x y:=by
 cases b
 ·exact h2 rfl
 ·exact h1 rfl
end Go.TVF
end
section
namespace Go.TVF
open Go.IntKind(i64 u8)
structure Ah (a b:St):Prop where
 nb:a.nb<=b.nb
 box:∀i,i<a.nb->b.box i=a.box i
 nt:a.nt<=b.nt
 live:∀i,i<a.nt->b.live i=a.live i
 ty:∀i,i<a.nt->b.ty i=a.ty i
 bt:∀i,i<a.nb->b.bt i=a.bt i
theorem Ah.refl (a:St):Ah a a:=⟨Nat.le_refl _,fun _ _=>rfl,Nat.le_refl _,fun _ _=>rfl,fun _ _=>rfl,fun _ _=>rfl⟩
theorem Ah.trans {a b c:St} (h:Ah a b) (k:Ah b c):Ah a c:=
 ⟨Nat.le_trans h.nb k.nb,fun i hi=>(k.box i (Nat.lt_of_lt_of_le hi h.nb)).trans (h.box i hi),Nat.le_trans h.nt k.nt,fun i hi=>(k.live i (Nat.lt_of_lt_of_le hi h.nt)).trans (h.live i hi),fun i hi=>(k.ty i (Nat.lt_of_lt_of_le hi h.nt)).trans (h.ty i hi),fun i hi=>(k.bt i (Nat.lt_of_lt_of_le hi h.nb)).trans (h.bt i hi)⟩
theorem Ah.fresh {a b:St} (h:Ah a b) (T:Option Nat):Ah a (b.fresh T):=
 h.trans ⟨Nat.le_refl _,fun _ _=>rfl,Nat.le_succ _,fun i hi=>by simp only[St.fresh];rw[if_neg (by omega)],fun i hi=>by simp only[St.fresh];rw[if_neg (by omega)],fun _ _=>rfl⟩
theorem Ah.push {a b:St} (h:Ah a b) (o:Jr) (T:Option Nat):Ah a (b.push o T):=
 h.trans ⟨Nat.le_succ _,fun i hi=>by simp only[St.push];rw[if_neg (by omega)],Nat.le_refl _,fun _ _=>rfl,fun _ _=>rfl,fun i hi=>by simp only[St.push];rw[if_neg (by omega)]⟩
theorem Ah.retire {a b:St} (h:Ah a b) {id:Nat} (hid:a.nt<=id):Ah a (b.retire id):=
 ⟨h.nb,h.box,h.nt,fun i hi=>by simp only[St.retire];rw[if_neg (by omega)];exact h.live i hi,h.ty,h.bt⟩
theorem FA (l:B8):(AM l).length=l.length:=by simp[AM]
theorem DN:∀l:B8,EJ (AM l)=some l
 | []=>rfl
 | c::l=>by
  have:=DN l
  simp only[AM]at this
  simp[AM,EJ,Jn,Qs,this]
def Rd (sz:Nat) (v:TV) (n:Nat) (xs:List TV):Prop:=
 (v= .nilSlice/\n=0/\xs=[])∨∃tip,v= .list sz tip n xs
def Own (b sz:Nat) (st:St) (v:TV) (n:Nat) (xs:List TV):Prop:=
 (v= .nilSlice/\n=0/\xs=[])∨∃tip,v= .list sz tip n xs/\(tip= .full∨∃id,tip= .own id/\b<=id/\id<st.nt/\st.live id=true)
theorem Own.rd {b sz:Nat} {st:St} {v:TV} {n:Nat} {xs:List TV} (h:Own b sz st v n xs):Rd sz v n xs:=by
 rcases h with h | ⟨tip,h,_⟩
 ·exact .inl h
 ·exact .inr ⟨tip,h⟩
theorem Own.ext {b sz:Nat} {st st':St} {v:TV} {n:Nat} {xs:List TV} (h:Own b sz st v n xs) (e:Ah st st'):Own b sz st' v n xs:=by
 rcases h with h | ⟨tip,h,ht | ⟨id,h1,h2,h3,h4⟩⟩
 ·exact .inl h
 ·exact .inr ⟨tip,h,.inl ht⟩
 ·exact .inr ⟨tip,h,.inr ⟨id,h1,h2,Nat.lt_of_lt_of_le h3 e.nt,(e.live id h3).trans h4⟩⟩
theorem Own.nil (b sz:Nat) (st:St):Own b sz st .nilSlice 0 []:= .inl ⟨rfl,rfl,rfl⟩
theorem Own.full (b sz:Nat) (st:St) (n:Nat) (xs:List TV):Own b sz st (.list sz .full n xs) n xs:= .inr ⟨_,rfl,.inl rfl⟩
theorem Own.fresh {b sz:Nat} {st:St} {T:Option Nat} (n:Nat) (xs:List TV) (hb:b<=st.nt):Own b sz (st.fresh T) (.list sz (.own st.nt) n xs) n xs:=
 .inr ⟨_,rfl,.inr ⟨st.nt,rfl,hb,Nat.lt_succ_self _,by simp[St.fresh]⟩⟩
theorem Rd.isSl {sz:Nat} {v:TV} {n:Nat} {xs:List TV} (h:Rd sz v n xs):TVF.isSl v=true:=by
 rcases h with⟨rfl,_⟩ | ⟨tip,rfl⟩<;>rfl
theorem Rd.lenS {sz:Nat} {v:TV} {n:Nat} {xs:List TV} (h:Rd sz v n xs):TVF.lenS v=n:=by
 rcases h with⟨rfl,rfl,_⟩ | ⟨tip,rfl⟩<;>rfl
theorem Rd.lenZ {sz:Nat} {v:TV} {n:Nat} {xs:List TV} (h:Rd sz v n xs):TVF.lenZ sz v=n:=by
 rcases h with⟨rfl,rfl,_⟩ | ⟨tip,rfl⟩
 ·rfl
 ·simp[TVF.lenZ]
theorem Rd.one {sz:Nat} {v:TV} {n:Nat} {xs:List TV} (h:Rd sz v n xs):Aq v=true:=by
 rcases h with⟨rfl,rfl,_⟩ | ⟨tip,rfl⟩<;>rfl
theorem Rd.ld {sz:Nat} {v:TV} {n:Nat} {xs:List TV} (h:Rd sz v n xs) (st:St) (i j:Nat) (hi:i*sz+j<xs.length):Ac st [] (.t (ixT sz v i)) j=some xs[i*sz+j]:=by
 rcases h with⟨rfl,rfl,rfl⟩ | ⟨tip,rfl⟩
 ·simp at hi
 ·simp[Ac,ixT,hi]
theorem Rd.ldf {sz:Nat} {v:TV} {n:Nat} {xs:List TV} (h:Rd sz v n xs) (st:St) (i f:Nat) (hi:i*sz+f<xs.length):Ac st [] (.t (Au (ixT sz v i) f)) 0=some xs[i*sz+f]:=by
 rcases h with⟨rfl,rfl,rfl⟩ | ⟨tip,rfl⟩
 ·simp at hi
 ·simp[Ac,ixT,Au,hi]
theorem Hu {T b sz bytes:Nat} {st0 st:St} {v:TV} {n k:Nat} {xs ys:List TV} {K:TV->St->Prop} (e:Ah st0 st) (hb:b=st0.nt) (h:Own b sz st v n xs) (hby:(n+k)*bytes<=140737488355328) (hys:k=0->ys=[])
  (hK:∀v' st',Ah st0 st'->st'.box=st.box->Own b sz st' v' (n+k) (xs++ys)->K v' st'):Bl T sz bytes v k ys st K:=by
 subst hb
 rcases h with⟨rfl,rfl,rfl⟩ | ⟨tip,rfl,ht⟩
 ·simp only[Bl]
  cases k with
  | zero=>rw[hys rfl]at hK;exact hK _ _ e rfl (.nil _ _ _)
  | succ m=>
   simp only[Ag]
   refine⟨by simpa using hby,hK _ _ (e.fresh _) rfl ?_⟩
   simp only[List.nil_append,Nat.zero_add]
   exact Own.fresh _ _ e.nt
 ·simp only[Bl,Nat.beq_refl]
  refine⟨hby,?_⟩
  rcases ht with rfl | ⟨id,rfl,h1,h2,h3⟩
  ·cases k with
   | zero=>rw[hys rfl]at hK;simp only[List.append_nil]at hK;exact hK _ _ e rfl (Own.full _ _ _ _ _)
   | succ m=>exact hK _ _ (e.fresh _) rfl (Own.fresh _ _ e.nt)
  ·exact⟨h3,hK _ _ ((e.retire h1).fresh _) rfl (Own.fresh (st:=st.retire id) _ _ e.nt)⟩
theorem Aa {b:Bool} {k:Prop} (h:b=true) (hk:k):need b k:=Ag.2 ⟨h,hk⟩
theorem Ad {α:Type} {o:Option α} {x:α} {k:α->Prop} (h:o=some x) (hk:k x):Ai o k:=by rw[h];exact hk
theorem Aj (x:Int) (h1: -9223372036854775808<=x) (h2:x<=9223372036854775807):IntKind.wrap .i64 x=x:=by
 unfold IntKind.wrap
 simp only[IntKind.signed,IntKind.bits]
 simp
 omega
theorem wrapU8 (x:Int) (h1:0<=x) (h2:x<=255):IntKind.wrap .u8 x=x:=by
 unfold IntKind.wrap
 simp only[IntKind.signed,IntKind.bits]
 simp
 omega
end Go.TVF
end
section
namespace Go.TVF
open Go.IntKind(i64 u8)
open Go.RowKit (Below)
theorem Tt {r:TV} {st':St} (h:Em [.one .bool] r (fun (b:Bool) (_:St)=>b=true) (fun p=>p st')):r= .bool true:=by
 cases r<;>simp only[Em,E6,AS]at h<;>first | exact h.elim | skip
 subst h;rfl
theorem calls_law {P:Program} {f:FuncId} {args:List TV} (hcall:∀(vs:Array Value) (w:World),(callFunc f vs).run P w= .ok (.enter f vs) w) (h:CallT P f args [.one .bool] St.zero (fun r _=>r=true)) (w:World) (hG:∀w',Below w.heap.size w w'->N0 w') (vargs:List Value) (hr:AE (Ghost.start w) w args vargs):
  Calls P f vargs.toArray w fun e w'=>e= .returned (.bool true)/\Below w.heap.size w w':=
 Qm hcall (Df.mono h fun r st' hd=>Tt hd) w hG vargs hr
theorem KY (g:Ghost) (w:World) (s:ByteArray):Rel g w (.str s.data.toList) (.string s):=by
 have:=Rel.str (g:=g) (w:=w) s.data.toList
 simpa using this
def Lp:List CTy->List TV->Prop
 | [],xs=>xs=[]
 | .int k::cs,xs=>∃n ys,xs= .int k n::ys/\(Lit.int k n).wf=true/\Lp cs ys
 | .str::cs,xs=>∃l ys,xs= .str l::ys/\l.length<=maxLen/\Lp cs ys
 | .bool::cs,xs=>∃b ys,xs= .bool b::ys/\Lp cs ys
 | .tv::_,_=>False
def TF (P:Program):CTy->TypeId->Prop
 | .int k,t=>P.underlying t=some (.int k)
 | .bool,t=>P.underlying t=some .bool
 | .str,t=>P.underlying t=some .string
 | .tv,_=>False
section
variable {H:Type} {enc:TypeId×Value->H} {P:Program} {w:World} {base:Nat} {sp:Nat->Bool} {held:Bool}
theorem RC {c:CTy} {t:TypeId} {fuel:Nat} {cs:List Value} {x:DataW H×List MemPlace} (g:Ghost) (hc:TF P c t) (h:DataW.trod enc P w base sp held fuel t cs=some x):
  ∃v u,cs=[u]/\Rel g w v u/\Lp [c] [v]:=by
 cases c with
 | int k=>
  obtain⟨n,rfl,_,hw⟩:=DataW.trod_int hc h
  exact⟨_,_,rfl,.int k n,n,[],rfl,hw,rfl⟩
 | bool=>
  obtain⟨b,rfl,_⟩:=DataW.trod_bool hc h
  exact⟨_,_,rfl,.bool b,b,[],rfl,rfl⟩
 | str=>
  obtain⟨s,rfl,_,hs⟩:=DataW.trod_string hc h
  exact⟨_,_,rfl,KY g w s,_,[],rfl,by rw[Array.length_toList];exact hs,rfl⟩
 | tv=>exact hc.elim
theorem Qv (b off i:Nat):(⟨b,off,none⟩:Addr).add i=⟨b,off+i,none⟩:=by
 unfold Addr.add;split
 ·rename_i h;subst h;rfl
 ·rfl
end
end Go.TVF
end
namespace Go.TVF
open Go.IntKind(i64 u8)
open Go Go.Proofs
theorem mixed:Tryz.prog.follows .mixedOrders=true:=by kernel_rfl
noncomputable def PR:Program:=Tryz.prog
abbrev V13(X:Type):=Int->Bool->Bool->B8->Int->Int->Int->Int->Int->B8->TV->TV->TV->X
abbrev sV:RTy:=.agg [.int .i64,.bool,.bool,.str,.int .i64,.int .i64,.int .i64,.int .i64,.int .i64,.str,.tv,.tv,.tv]
abbrev cV(a:Int)(b c:Bool)(d:B8)(e f g h i:Int)(j:B8)(k l m:TV):List TV:=[.int .i64 a,.bool b,.bool c,.str d,.int .i64 e,.int .i64 f,.int .i64 g,.int .i64 h,.int .i64 i,.str j,k,l,m]
abbrev BId(p:Prop)[Decidable p](a b:Prop):Prop:=BIf (decide p) a b
def fn_datakitlaw25_SectionFlattens:Nat:=4
def Bi:Nat:=8
def D1:Nat:=9
def C0:Nat:=11
def A6:Nat:=12
def CB:Nat:=13
def Dq:Nat:=14
def Ci:Nat:=15
def CS:Nat:=16
def Dn:Nat:=17
def B2:Nat:=18
def AR:Nat:=23
def DG:Nat:=24
def Dj:Nat:=25
def Ak:Nat:=26
def A5:Nat:=28
def Bd:Nat:=29
def AB:Nat:=30
def BL:Nat:=31
def BQ:Nat:=32
def A4:Nat:=33
def Ch:Nat:=34
def BP:Nat:=35
def DH:Nat:=44
def CA:Nat:=45
def BT:Nat:=46
def Cu:Nat:=47
def CR:Nat:=50
def Dm:Nat:=51
def AI:Nat:=52
def B3:Nat:=53
def Bn:Nat:=54
def Bp:Nat:=55
def AC:Nat:=56
def AL:Nat:=57
def EY:Nat:=58
def B4:Nat:=59
def EE:Nat:=60
def A1:Nat:=62
def Ax:Nat:=70
def CI:Nat:=71
def B7:Nat:=72
def BM:Nat:=73
def BS:Nat:=74
def AJ:Nat:=75
def FG:Nat:=76
def EX:Nat:=77
def Av:Nat:=78
def Bc:Nat:=79
def Bv:Nat:=80
def EW:Nat:=88
def D2:Nat:=89
def Do:Nat:=90
def FF:Nat:=91
def Fp:Nat:=92
def Dc:Nat:=93
def Ba:Nat:=94
def Bb:Nat:=95
def Ix:Nat:=96
def BN:Nat:=98
def Cv:Nat:=103
def D6:Nat:=104
def D8:Nat:=105
def Bz:Nat:=106
def Eu:Nat:=107
def El:Nat:=110
def Ek:Nat:=111
def GC:Nat:=112
def Db:Nat:=113
def CE:Nat:=114
def CD:Nat:=115
def Bo:Nat:=116
def FI:Nat:=117
def BD:Nat:=120
def D7:Nat:=123
def FJ:Nat:=125
def Ed:Nat:=126
def CG:Nat:=127
def CF:Nat:=128
def CC:Nat:=129
def Bs:Nat:=130
def Hq:Nat:=131
def FH:Nat:=132
def GD:Nat:=133
def BC:Nat:=134
def AW:Nat:=138
def Cq:Nat:=143
def BU:Nat:=144
def L0:B8:=[97]
def str1:B8:=[98]
def str2:B8:=[120]
def str3:B8:=[121]
def str4:B8:=[122]
def str5:B8:=[49]
def str6:B8:=[48]
theorem DP (v_0:Int) (v_1:Bool) (v_2:Bool) (v_3:B8) (v_4:Int) (v_5:Int) (v_6:Int) (v_7:Int) (v_8:Int) (v_9:B8) (v_10:TV) (v_11:TV) (v_12:TV) (st:St) (K:Bool->St->Prop) (h:CallT PR CB [(.agg (cV v_0 v_1 v_2 v_3 v_4 v_5 v_6 v_7 v_8 v_9 v_10 v_11 v_12))] [.one .bool] st (fun (b1:Bool) c=>BIf (!b1) (CallT PR Bi [] [.one .bool] c (fun (b2:Bool) f=>K b2 f)) (CallT PR Dq [(.agg (cV v_0 v_1 v_2 v_3 v_4 v_5 v_6 v_7 v_8 v_9 v_10 v_11 v_12))] [.one .tv,.one (.int .i64)] c (fun (v1:TV) (n1:Int) g=>CallT PR Ci [(.agg (cV v_0 v_1 v_2 v_3 v_4 v_5 v_6 v_7 v_8 v_9 v_10 v_11 v_12))] [.one .tv,.one (.int .i64)] g (fun (v2:TV) (n2:Int) e=>CallT PR CS [v1,v2] [.one .bool] e (fun (b3:Bool) a=>BIf b3 (BId (n1=n2) (CallT PR Dn [(.agg (cV v_0 v_1 v_2 v_3 v_4 v_5 v_6 v_7 v_8 v_9 v_10 v_11 v_12))] [.one (.int .i64)] a (fun (n3:Int) d=>CallT PR B2 [(.agg (cV v_0 v_1 v_2 v_3 v_4 v_5 v_6 v_7 v_8 v_9 v_10 v_11 v_12))] [.one (.int .i64)] d (fun (n4:Int) b=>BId (n3=n4) (CallT PR Bi [] [.one .bool] b (fun (b4:Bool) i=>K b4 i)) (K false b)))) (K false a)) (K false a))))))):CallT PR fn_datakitlaw25_SectionFlattens [(.agg (cV v_0 v_1 v_2 v_3 v_4 v_5 v_6 v_7 v_8 v_9 v_10 v_11 v_12))] [.one .bool] st K:=
 Ae (cfg:=⟨[1],[],[]⟩) (h:= .none) mixed (fun _ _=>Tryz.call4 _ _) Tryz.func4 (by kernel_rfl) (by kernel_rfl) h
theorem GY (st:St) (K:Bool->St->Prop) (h:CallT PR AR [(.list 1 .full 2 [.str L0,.str str1])] [.agg [.bool,.bool,.tv,.int .i64,.bool,.bool,.str,.int .i64,.int .i64,.int .i64,.int .i64,.int .i64,.str,.tv,.tv,.tv]] st (fun (b1 b2:Bool) (v1:TV) (n1:Int) (b3 b4:Bool) (s1:B8) (n2 n3 n4 n5 n6:Int) (s2:B8) (v2 v3 v4:TV) c5=>CallT PR AR [(.list 1 .full 1 [.str str4])] [.agg [.bool,.bool,.tv,.int .i64,.bool,.bool,.str,.int .i64,.int .i64,.int .i64,.int .i64,.int .i64,.str,.tv,.tv,.tv]] c5 (fun (b5 b6:Bool) (v5:TV) (n7:Int) (b7 b8:Bool) (s3:B8) (n8 n9 a3 e5 l:Int) (s4:B8) (v6 v7 v8:TV) f6=>CallT PR D1 [(.list 16 .full 3 [.bool b1,.bool b2,v1,.int .i64 n1,.bool b3,.bool b4,.str s1,.int .i64 n2,.int .i64 n3,.int .i64 n4,.int .i64 n5,.int .i64 n6,.str s2,v2,v3,v4,.bool true,.bool false,(.list 1 .full 2 [.str str2,.str str3]),.int .i64 0,.bool false,.bool false,(.str []),.int .i64 0,.int .i64 0,.int .i64 0,.int .i64 0,.int .i64 0,(.str []),.nilSlice,.nilSlice,.nilSlice,.bool b5,.bool b6,v5,.int .i64 n7,.bool b7,.bool b8,.str s3,.int .i64 n8,.int .i64 n9,.int .i64 a3,.int .i64 e5,.int .i64 l,.str s4,v6,v7,v8])] [sV,.one (.int .i64),.one (.int .i64)] f6 (fun (f1:Int) (b9 k:Bool) (s5:B8) (f0 q m c7 j:Int) (s6:B8) (v9 e9 a:TV) (f9 f2:Int) f7=>need (List.all (cV f1 b9 k s5 f0 q m c7 j s6 v9 e9 a) Aq) (CallT PR AR [(.list 1 .full 1 [.str L0])] [.agg [.bool,.bool,.tv,.int .i64,.bool,.bool,.str,.int .i64,.int .i64,.int .i64,.int .i64,.int .i64,.str,.tv,.tv,.tv]] f7 (fun (c0 e7:Bool) (c4:TV) (f8:Int) (a7 c6:Bool) (s7:B8) (z c8 g w e2:Int) (s8:B8) (u e8 o:TV) d8=>CallT PR AR [(.list 1 .full 2 [.str L0,.str str1])] [.agg [.bool,.bool,.tv,.int .i64,.bool,.bool,.str,.int .i64,.int .i64,.int .i64,.int .i64,.int .i64,.str,.tv,.tv,.tv]] d8 (fun (a5 e0:Bool) (d6:TV) (i:Int) (d5 c3:Bool) (s9:B8) (a0 a6 f3 e6 c1:Int) (x:B8) (a2 d0 f:TV) a1=>CallT PR C0 [(.list 16 .full 2 [.bool c0,.bool e7,c4,.int .i64 f8,.bool a7,.bool c6,.str s7,.int .i64 z,.int .i64 c8,.int .i64 g,.int .i64 w,.int .i64 e2,.str s8,u,e8,o,.bool a5,.bool e0,d6,.int .i64 i,.bool d5,.bool c3,.str s9,.int .i64 a0,.int .i64 a6,.int .i64 f3,.int .i64 e6,.int .i64 c1,.str x,a2,d0,f])] [.one (.int .i64),.one (.int .i64)] a1 (fun (a8 e4:Int) p=>CallT PR AR [(.list 1 .full 1 [.str L0])] [.agg [.bool,.bool,.tv,.int .i64,.bool,.bool,.str,.int .i64,.int .i64,.int .i64,.int .i64,.int .i64,.str,.tv,.tv,.tv]] p (fun (d1 y:Bool) (e3:TV) (n:Int) (d9 v:Bool) (r:B8) (s d2 f5 c9 b0:Int) (a4:B8) (d3 d4 d7:TV) a9=>CallT PR C0 [(.list 16 .full 2 [.bool d1,.bool y,e3,.int .i64 n,.bool d9,.bool v,.str r,.int .i64 s,.int .i64 d2,.int .i64 f5,.int .i64 c9,.int .i64 b0,.str a4,d3,d4,d7,.bool true,.bool true,(.list 1 .full 1 [.str L0]),.int .i64 0,.bool false,.bool false,(.str []),.int .i64 0,.int .i64 0,.int .i64 0,.int .i64 0,.int .i64 0,(.str []),.nilSlice,.nilSlice,.nilSlice])] [.one (.int .i64),.one (.int .i64)] a9 (fun (f4 c2:Int) b=>BId (f2=0) (need (isSl a) (BId ((lenS a:Int)=(2:Int)) (((0<=(1:Int)/\(1:Int)<(lenZ 14 a:Int))/\need (isPtr (ixT 14 a (Int.toNat (1:Int)))) (Ai (Ac b [] (.t (Au (ixT 14 a (Int.toNat (1:Int))) 0)) 0) (fun (x1:TV)=>AS .str x1 (fun (e1:B8)=>BId (e1=str2) (((0<=(1:Int)/\(1:Int)<(lenZ 14 a:Int))/\need (isPtr (ixT 14 a (Int.toNat (1:Int)))) (need (isPtr (Au (ixT 14 a (Int.toNat (1:Int))) 1)) (Ai (Ac b [] (.t (Au (Au (ixT 14 a (Int.toNat (1:Int))) 1) 12)) 0) (fun (d:TV)=>need (isSl d) (BId ((lenS d:Int)=(1:Int)) (((0<=(1:Int)/\(1:Int)<(lenZ 14 a:Int))/\need (isPtr (ixT 14 a (Int.toNat (1:Int)))) (need (isPtr (Au (ixT 14 a (Int.toNat (1:Int))) 1)) (Ai (Ac b [] (.t (Au (Au (ixT 14 a (Int.toNat (1:Int))) 1) 12)) 0) (fun (c:TV)=>((0<=(0:Int)/\(0:Int)<(lenZ 14 c:Int))/\need (isPtr (ixT 14 c (Int.toNat (0:Int)))) (need (isPtr (Au (ixT 14 c (Int.toNat (0:Int))) 1)) (Ai (Ac b [] (.t (Au (Au (ixT 14 c (Int.toNat (0:Int))) 1) 12)) 0) (fun (e:TV)=>need (isSl e) (BId ((lenS e:Int)=(1:Int)) (BId (a8=1) (BId (e4=8) (BId (f4=1) (K ((decide (c2=6))) b) (K false b)) (K false b)) (K false b)) (K false b))))))))))) (K false b))))))) (K false b)))))) (K false b))) (K false b))))))))))):CallT PR Bi [] [.one .bool] st K:=
 Ae (cfg:=⟨[1],[],[]⟩) (h:= .none) mixed (fun _ _=>Tryz.call8 _ _) Tryz.func8 (by kernel_rfl) (by kernel_rfl) h
theorem Ju (l:TV) (st:St) (K:V13 (Int->Int->St->Prop)) (h:CallT PR DG [l] [.one .tv,.one (.int .i64),.one (.int .i64)] st (fun (v1:TV) (n1 n2:Int) a=>BId (n2≠0) (K 0 false false [] 0 0 0 0 0 [] .nilSlice .nilSlice .nilSlice n1 n2 a) (need (isPtr v1) (need (isPtr v1) (Ai (Ac a [] (.t (Au v1 0)) 0) (fun (v2:TV)=>CallT PR Ak [v1,v2] [sV] a (fun (n3:Int) (b1 b2:Bool) (s1:B8) (n4 n5 n6 n7 n8:Int) (s2:B8) (v3 v4 v5:TV) g=>CallT PR Dj [(.agg (cV n3 b1 b2 s1 n4 n5 n6 n7 n8 s2 v3 v4 v5))] [sV] g (fun (n9:Int) (b3 b4:Bool) (s3:B8) (b f e d c:Int) (s4:B8) (v6 v7 v8:TV) i=>need (List.all (cV n9 b3 b4 s3 b f e d c s4 v6 v7 v8) Aq) (K n9 b3 b4 s3 b f e d c s4 v6 v7 v8 0 0 i))))))))):CallT PR D1 [l] [sV,.one (.int .i64),.one (.int .i64)] st K:=
 Ae (cfg:=⟨[2],[],[]⟩) (h:= .none) mixed (fun _ _=>Tryz.call9 _ _) Tryz.func9 (by kernel_rfl) (by kernel_rfl) h
theorem Jt (l:TV) (st:St) (K:Int->Int->St->Prop) (h:CallT PR DG [l] [.one .tv,.one (.int .i64),.one (.int .i64)] st (fun (v1:TV) (n1 n2:Int) a=>K n1 n2 a)):CallT PR C0 [l] [.one (.int .i64),.one (.int .i64)] st K:=
 Ae (cfg:=⟨[],[],[]⟩) (h:= .none) mixed (fun _ _=>Tryz.call11 _ _) Tryz.func11 (by kernel_rfl) (by kernel_rfl) h
theorem G7 (a_0:Int) (a_1:Bool) (a_2:Bool) (a_3:B8) (a_4:Int) (a_5:Int) (a_6:Int) (a_7:Int) (a_8:Int) (a_9:B8) (a_10:TV) (a_11:TV) (a_12:TV) (b_0:Int) (b_1:Bool) (b_2:Bool) (b_3:B8) (b_4:Int) (b_5:Int) (b_6:Int) (b_7:Int) (b_8:Int) (b_9:B8) (b_10:TV) (b_11:TV) (b_12:TV) (st:St) (K:Bool->St->Prop) (h:BId (a_0≠b_0) (K false st) (BIf (!(a_1==b_1)) (K false st) (BIf (!((a_2==b_2)&&(decide (a_3=b_3)&&(decide (a_4=b_4)&&true)))) (K false st) (BIf (!(decide (a_5=b_5)&&(decide (a_6=b_6)&&(decide (a_7=b_7)&&(decide (a_8=b_8)&&true))))) (K false st) (BId (a_9≠b_9) (K false st) (Ai ((toBytes st a_10).map TV.str) (fun (x1:TV)=>AS .str x1 (fun (s1:B8)=>Ai ((toBytes st b_10).map TV.str) (fun (x2:TV)=>AS .str x2 (fun (s2:B8)=>BId (s1≠s2) (K false st) (need (isSl a_11) (need (isSl b_11) (BId ((lenS a_11:Int)≠(lenS b_11:Int)) (K false st) (need (isSl a_12) (need (isSl b_12) (BId ((lenS a_12:Int)≠(lenS b_12:Int)) (K false st) (∃(I1:Int->V13 (V13 (St->Prop))) (M1:Int->V13 (V13 (St->Nat))),(I1 0 a_0 a_1 a_2 a_3 a_4 a_5 a_6 a_7 a_8 a_9 a_10 a_11 a_12 b_0 b_1 b_2 b_3 b_4 b_5 b_6 b_7 b_8 b_9 b_10 b_11 b_12 st)/\∀d n1 b1 b2 s3 n2 n3 n4 n5 n6 s4 v1 v2 v3 n7 b3 b4 s5 n8 n9 k j g s6 v4 v5 v6 f,I1 d n1 b1 b2 s3 n2 n3 n4 n5 n6 s4 v1 v2 v3 n7 b3 b4 s5 n8 n9 k j g s6 v4 v5 v6 f->(need (isSl v2) (BId (d<(lenS v2:Int)) (((0<=d/\d<(lenZ 13 v2:Int))/\Ai ((Al f [] (.t (ixT 13 v2 d.toNat)) 0 13).map TV.agg) (fun (x3:TV)=>Cd [.int .i64,.bool,.bool,.str,.int .i64,.int .i64,.int .i64,.int .i64,.int .i64,.str,.tv,.tv,.tv] x3 (fun (f1:Int) (b5 b6:Bool) (s7:B8) (d9 c9 e2 d5 c2:Int) (s8:B8) (v7 v8 v9:TV)=>((0<=d/\d<(lenZ 13 v5:Int))/\Ai ((Al f [] (.t (ixT 13 v5 d.toNat)) 0 13).map TV.agg) (fun (x4:TV)=>Cd [.int .i64,.bool,.bool,.str,.int .i64,.int .i64,.int .i64,.int .i64,.int .i64,.str,.tv,.tv,.tv] x4 (fun (d0:Int) (b7 b8:Bool) (s9:B8) (c7 f3 f6 e7 f4:Int) (c3:B8) (d8 f5 g0:TV)=>CallT PR A6 [(.agg (cV f1 b5 b6 s7 d9 c9 e2 d5 c2 s8 v7 v8 v9)),(.agg (cV d0 b7 b8 s9 c7 f3 f6 e7 f4 c3 d8 f5 g0))] [.one .bool] f (fun (b9:Bool) c0=>BIf (!b9) (K false c0) ((I1 ((i64.wrap (d+(1:Int)))) n1 b1 b2 s3 n2 n3 n4 n5 n6 s4 v1 v2 v3 n7 b3 b4 s5 n8 n9 k j g s6 v4 v5 v6 c0/\M1 ((i64.wrap (d+(1:Int)))) n1 b1 b2 s3 n2 n3 n4 n5 n6 s4 v1 v2 v3 n7 b3 b4 s5 n8 n9 k j g s6 v4 v5 v6 c0<M1 d n1 b1 b2 s3 n2 n3 n4 n5 n6 s4 v1 v2 v3 n7 b3 b4 s5 n8 n9 k j g s6 v4 v5 v6 f)))))))))) (∃(I2:Int->V13 (V13 (St->Prop))) (M2:Int->V13 (V13 (St->Nat))),(I2 0 n1 b1 b2 s3 n2 n3 n4 n5 n6 s4 v1 v2 v3 n7 b3 b4 s5 n8 n9 k j g s6 v4 v5 v6 f)/\∀a a2 s a5 r a0 q a3 a4 a1 v u p b a8 a9 w z a6 x a7 l m n y o c e,I2 a a2 s a5 r a0 q a3 a4 a1 v u p b a8 a9 w z a6 x a7 l m n y o c e->(need (isSl b) (BId (a<(lenS b:Int)) (((0<=a/\a<(lenZ 14 b:Int))/\need (isPtr (ixT 14 b a.toNat)) (Ai (Ac e [] (.t (Au (ixT 14 b a.toNat) 0)) 0) (fun (x5:TV)=>AS .str x5 (fun (c1:B8)=>((0<=a/\a<(lenZ 14 c:Int))/\need (isPtr (ixT 14 c a.toNat)) (Ai (Ac e [] (.t (Au (ixT 14 c a.toNat) 0)) 0) (fun (x6:TV)=>AS .str x6 (fun (b0:B8)=>BId (c1≠b0) ((Ac e [] (.t (Au (ixT 14 c a.toNat) 0)) 0=some (.str b0)/\(Ac e [] (.t (Au (ixT 14 b a.toNat) 0)) 0=some (.str c1)/\K false e))) (((0<=a/\a<(lenZ 14 b:Int))/\need (isPtr (ixT 14 b a.toNat)) (Ai ((Al e [] (.t (Au (ixT 14 b a.toNat) 1)) 0 13).map TV.agg) (fun (x7:TV)=>Cd [.int .i64,.bool,.bool,.str,.int .i64,.int .i64,.int .i64,.int .i64,.int .i64,.str,.tv,.tv,.tv] x7 (fun (c4:Int) (d3 e4:Bool) (c6:B8) (e0 d6 e5 f2 f9:Int) (c8:B8) (e1 g3 e8:TV)=>((0<=a/\a<(lenZ 14 c:Int))/\need (isPtr (ixT 14 c a.toNat)) (Ai ((Al e [] (.t (Au (ixT 14 c a.toNat) 1)) 0 13).map TV.agg) (fun (x8:TV)=>Cd [.int .i64,.bool,.bool,.str,.int .i64,.int .i64,.int .i64,.int .i64,.int .i64,.str,.tv,.tv,.tv] x8 (fun (d4:Int) (e9 c5:Bool) (f0:B8) (f8 d1 e3 e6 g2:Int) (g4:B8) (d7 g1 f7:TV)=>CallT PR A6 [(.agg (cV c4 d3 e4 c6 e0 d6 e5 f2 f9 c8 e1 g3 e8)),(.agg (cV d4 e9 c5 f0 f8 d1 e3 e6 g2 g4 d7 g1 f7))] [.one .bool] e (fun (d2:Bool) i=>(Ac i [] (.t (Au (ixT 14 c a.toNat) 0)) 0=some (.str b0)/\(Ac i [] (.t (Au (ixT 14 b a.toNat) 0)) 0=some (.str c1)/\BIf (!d2) (K false i) ((I2 ((i64.wrap (a+(1:Int)))) a2 s a5 r a0 q a3 a4 a1 v u p b a8 a9 w z a6 x a7 l m n y o c i/\M2 ((i64.wrap (a+(1:Int)))) a2 s a5 r a0 q a3 a4 a1 v u p b a8 a9 w z a6 x a7 l m n y o c i<M2 a a2 s a5 r a0 q a3 a4 a1 v u p b a8 a9 w z a6 x a7 l m n y o c e))))))))))))))))))))))) (K true e))))))))))))))))))))))):CallT PR A6 [(.agg (cV a_0 a_1 a_2 a_3 a_4 a_5 a_6 a_7 a_8 a_9 a_10 a_11 a_12)),(.agg (cV b_0 b_1 b_2 b_3 b_4 b_5 b_6 b_7 b_8 b_9 b_10 b_11 b_12))] [.one .bool] st K:=
 Ae (cfg:=⟨[2,3],[],[78,83,98,104,112,118]⟩) (h:=(.seq .none (.seq .none (.seq (.seq .none (.block (.loop ⟨[(5,.int .i64)],[(2,0,0),(3,1,0)],[(0,13),(1,13)],[(0,0,.int .i64),(0,1,.bool),(0,2,.bool),(0,3,.str),(0,4,.int .i64),(0,5,.int .i64),(0,6,.int .i64),(0,7,.int .i64),(0,8,.int .i64),(0,9,.str),(0,10,.tv),(0,11,.tv),(0,12,.tv),(1,0,.int .i64),(1,1,.bool),(1,2,.bool),(1,3,.str),(1,4,.int .i64),(1,5,.int .i64),(1,6,.int .i64),(1,7,.int .i64),(1,8,.int .i64),(1,9,.str),(1,10,.tv),(1,11,.tv),(1,12,.tv)]⟩ .none))) (.seq (.seq .none (.block (.loop ⟨[(6,.int .i64)],[(2,0,0),(3,1,0)],[(0,13),(1,13)],[(0,0,.int .i64),(0,1,.bool),(0,2,.bool),(0,3,.str),(0,4,.int .i64),(0,5,.int .i64),(0,6,.int .i64),(0,7,.int .i64),(0,8,.int .i64),(0,9,.str),(0,10,.tv),(0,11,.tv),(0,12,.tv),(1,0,.int .i64),(1,1,.bool),(1,2,.bool),(1,3,.str),(1,4,.int .i64),(1,5,.int .i64),(1,6,.int .i64),(1,7,.int .i64),(1,8,.int .i64),(1,9,.str),(1,10,.tv),(1,11,.tv),(1,12,.tv)]⟩ .none))) .none))))) mixed (fun _ _=>Tryz.call12 _ _) Tryz.func12 (by kernel_rfl) (by kernel_rfl) h
theorem GP (v_0:Int) (v_1:Bool) (v_2:Bool) (v_3:B8) (v_4:Int) (v_5:Int) (v_6:Int) (v_7:Int) (v_8:Int) (v_9:B8) (v_10:TV) (v_11:TV) (v_12:TV) (st:St) (K:Bool->St->Prop) (h:CallT PR A5 [(.agg (cV v_0 v_1 v_2 v_3 v_4 v_5 v_6 v_7 v_8 v_9 v_10 v_11 v_12)),.int .i64 60,.int .i64 150,.int .i64 3000] [.one (.int .i64)] st (fun (n1:Int) a=>BId ((0:Int)<=n1) (CallT PR Bd [(.agg (cV v_0 v_1 v_2 v_3 v_4 v_5 v_6 v_7 v_8 v_9 v_10 v_11 v_12))] [.one (.int .i64)] a (fun (n2:Int) b=>K ((decide (n2<=20000))) b)) (K false a))):CallT PR CB [(.agg (cV v_0 v_1 v_2 v_3 v_4 v_5 v_6 v_7 v_8 v_9 v_10 v_11 v_12))] [.one .bool] st K:=
 Ae (cfg:=⟨[1],[],[]⟩) (h:= .none) mixed (fun _ _=>Tryz.call13 _ _) Tryz.func13 (by kernel_rfl) (by kernel_rfl) h
theorem Ih (v_0:Int) (v_1:Bool) (v_2:Bool) (v_3:B8) (v_4:Int) (v_5:Int) (v_6:Int) (v_7:Int) (v_8:Int) (v_9:B8) (v_10:TV) (v_11:TV) (v_12:TV) (st:St) (K:TV->Int->St->Prop) (h:CallT PR AB [(.agg (cV v_0 v_1 v_2 v_3 v_4 v_5 v_6 v_7 v_8 v_9 v_10 v_11 v_12))] [.one (.int .i64)] st (fun (n1:Int) a=>BId (n1≠0) (K .nilSlice n1 a) (BId (v_0≠7) (K .nilSlice 6 a) (CallT PR BL [.nilSlice,(.agg (cV v_0 v_1 v_2 v_3 v_4 v_5 v_6 v_7 v_8 v_9 v_10 v_11 v_12)),.nilSlice] [.one .tv] a (fun (v1:TV) b=>K v1 0 b))))):CallT PR Dq [(.agg (cV v_0 v_1 v_2 v_3 v_4 v_5 v_6 v_7 v_8 v_9 v_10 v_11 v_12))] [.one .tv,.one (.int .i64)] st K:=
 Ae (cfg:=⟨[1],[],[]⟩) (h:= .none) mixed (fun _ _=>Tryz.call14 _ _) Tryz.func14 (by kernel_rfl) (by kernel_rfl) h
theorem FR (v_0:Int) (v_1:Bool) (v_2:Bool) (v_3:B8) (v_4:Int) (v_5:Int) (v_6:Int) (v_7:Int) (v_8:Int) (v_9:B8) (v_10:TV) (v_11:TV) (v_12:TV) (st:St) (K:TV->Int->St->Prop) (h:CallT PR BQ [(.agg (cV v_0 v_1 v_2 v_3 v_4 v_5 v_6 v_7 v_8 v_9 v_10 v_11 v_12))] [.one (.int .i64)] st (fun (n1:Int) a=>BId (n1≠0) (K .nilSlice n1 a) (BId (v_0≠7) (K .nilSlice 6 a) (CallT PR A4 [(.agg (cV v_0 v_1 v_2 v_3 v_4 v_5 v_6 v_7 v_8 v_9 v_10 v_11 v_12)),.nilSlice] [.one .tv] a (fun (v1:TV) b=>K v1 0 b))))):CallT PR Ci [(.agg (cV v_0 v_1 v_2 v_3 v_4 v_5 v_6 v_7 v_8 v_9 v_10 v_11 v_12))] [.one .tv,.one (.int .i64)] st K:=
 Ae (cfg:=⟨[1],[],[]⟩) (h:= .none) mixed (fun _ _=>Tryz.call15 _ _) Tryz.func15 (by kernel_rfl) (by kernel_rfl) h
theorem G3 (a:TV) (b:TV) (st:St) (K:Bool->St->Prop) (h:need (isSl a) (need (isSl b) (BId ((lenS a:Int)≠(lenS b:Int)) (K false st) (∃(I1:Int->TV->TV->St->Prop) (M1:Int->TV->TV->St->Nat),(I1 0 a b st)/\∀c e f d,I1 c e f d->(need (isSl e) (BId (c<(lenS e:Int)) (((0<=c/\c<(lenZ 16 e:Int))/\need (isPtr (ixT 16 e c.toNat)) (Ai (Ac d [] (.t (Au (ixT 16 e c.toNat) 0)) 0) (fun (x1:TV)=>AS .bool x1 (fun (b1:Bool)=>((0<=c/\c<(lenZ 16 f:Int))/\need (isPtr (ixT 16 f c.toNat)) (Ai (Ac d [] (.t (Au (ixT 16 f c.toNat) 0)) 0) (fun (x2:TV)=>AS .bool x2 (fun (b2:Bool)=>BIf (!(b1==b2)) ((Ac d [] (.t (Au (ixT 16 f c.toNat) 0)) 0=some (.bool b2)/\(Ac d [] (.t (Au (ixT 16 e c.toNat) 0)) 0=some (.bool b1)/\K false d))) (((0<=c/\c<(lenZ 16 e:Int))/\need (isPtr (ixT 16 e c.toNat)) (Ai (Ac d [] (.t (Au (ixT 16 e c.toNat) 1)) 0) (fun (x3:TV)=>AS .bool x3 (fun (b3:Bool)=>((0<=c/\c<(lenZ 16 f:Int))/\need (isPtr (ixT 16 f c.toNat)) (Ai (Ac d [] (.t (Au (ixT 16 f c.toNat) 1)) 0) (fun (x4:TV)=>AS .bool x4 (fun (b4:Bool)=>BIf (!(b3==b4)) ((Ac d [] (.t (Au (ixT 16 f c.toNat) 1)) 0=some (.bool b4)/\(Ac d [] (.t (Au (ixT 16 e c.toNat) 1)) 0=some (.bool b3)/\(Ac d [] (.t (Au (ixT 16 f c.toNat) 0)) 0=some (.bool b2)/\(Ac d [] (.t (Au (ixT 16 e c.toNat) 0)) 0=some (.bool b1)/\K false d))))) (((0<=c/\c<(lenZ 16 e:Int))/\need (isPtr (ixT 16 e c.toNat)) (Ai (Ac d [] (.t (Au (ixT 16 e c.toNat) 2)) 0) (fun (v1:TV)=>need (isSl v1) (((0<=c/\c<(lenZ 16 f:Int))/\need (isPtr (ixT 16 f c.toNat)) (Ai (Ac d [] (.t (Au (ixT 16 f c.toNat) 2)) 0) (fun (v2:TV)=>need (isSl v2) (BId ((lenS v1:Int)≠(lenS v2:Int)) ((Ac d [] (.t (Au (ixT 16 f c.toNat) 2)) 0=some v2/\(Ac d [] (.t (Au (ixT 16 e c.toNat) 2)) 0=some v1/\(Ac d [] (.t (Au (ixT 16 f c.toNat) 1)) 0=some (.bool b4)/\(Ac d [] (.t (Au (ixT 16 e c.toNat) 1)) 0=some (.bool b3)/\(Ac d [] (.t (Au (ixT 16 f c.toNat) 0)) 0=some (.bool b2)/\(Ac d [] (.t (Au (ixT 16 e c.toNat) 0)) 0=some (.bool b1)/\K false d))))))) (((0<=c/\c<(lenZ 16 e:Int))/\need (isPtr (ixT 16 e c.toNat)) (Ai ((Al d [] (.t (Au (ixT 16 e c.toNat) 3)) 0 13).map TV.agg) (fun (x7:TV)=>Cd [.int .i64,.bool,.bool,.str,.int .i64,.int .i64,.int .i64,.int .i64,.int .i64,.str,.tv,.tv,.tv] x7 (fun (n1:Int) (b5 b6:Bool) (s1:B8) (n2 n3 n4 n5 n6:Int) (s2:B8) (v3 v4 v5:TV)=>((0<=c/\c<(lenZ 16 f:Int))/\need (isPtr (ixT 16 f c.toNat)) (Ai ((Al d [] (.t (Au (ixT 16 f c.toNat) 3)) 0 13).map TV.agg) (fun (x8:TV)=>Cd [.int .i64,.bool,.bool,.str,.int .i64,.int .i64,.int .i64,.int .i64,.int .i64,.str,.tv,.tv,.tv] x8 (fun (n7:Int) (b7 b8:Bool) (s3:B8) (n8 n9 p u q:Int) (s4:B8) (v6 v7 v8:TV)=>CallT PR A6 [(.agg (cV n1 b5 b6 s1 n2 n3 n4 n5 n6 s2 v3 v4 v5)),(.agg (cV n7 b7 b8 s3 n8 n9 p u q s4 v6 v7 v8))] [.one .bool] d (fun (b9:Bool) m=>(Ac m [] (.t (Au (ixT 16 f c.toNat) 2)) 0=some v2/\(Ac m [] (.t (Au (ixT 16 e c.toNat) 2)) 0=some v1/\(Ac m [] (.t (Au (ixT 16 f c.toNat) 1)) 0=some (.bool b4)/\(Ac m [] (.t (Au (ixT 16 e c.toNat) 1)) 0=some (.bool b3)/\(Ac m [] (.t (Au (ixT 16 f c.toNat) 0)) 0=some (.bool b2)/\(Ac m [] (.t (Au (ixT 16 e c.toNat) 0)) 0=some (.bool b1)/\BIf (!b9) (K false m) (∃(I2:Int->TV->TV->Int->St->Prop) (M2:Int->TV->TV->Int->St->Nat),(I2 0 e f c m)/\∀k j l g i,I2 k j l g i->(((0<=g/\g<(lenZ 16 j:Int))/\need (isPtr (ixT 16 j g.toNat)) (Ai (Ac i [] (.t (Au (ixT 16 j g.toNat) 2)) 0) (fun (v9:TV)=>need (isSl v9) (BId (k<(lenS v9:Int)) (((0<=g/\g<(lenZ 16 j:Int))/\need (isPtr (ixT 16 j g.toNat)) (Ai (Ac i [] (.t (Au (ixT 16 j g.toNat) 2)) 0) (fun (n:TV)=>((0<=k/\k<(lenZ 1 n:Int))/\Ai (Ac i [] (.t (ixT 1 n k.toNat)) 0) (fun (s:TV)=>AS .str s (fun (s5:B8)=>((0<=g/\g<(lenZ 16 l:Int))/\need (isPtr (ixT 16 l g.toNat)) (Ai (Ac i [] (.t (Au (ixT 16 l g.toNat) 2)) 0) (fun (o:TV)=>((0<=k/\k<(lenZ 1 o:Int))/\Ai (Ac i [] (.t (ixT 1 o k.toNat)) 0) (fun (r:TV)=>AS .str r (fun (s6:B8)=>BId (s5≠s6) (K false i) ((I2 ((i64.wrap (k+(1:Int)))) j l g i/\M2 ((i64.wrap (k+(1:Int)))) j l g i<M2 k j l g i))))))))))))))) ((I1 ((i64.wrap (g+(1:Int)))) j l i/\M1 ((i64.wrap (g+(1:Int)))) j l i<M1 c e f d))))))))))))))))))))))))))))))))))))))))))))))))))) (K true d))))))):CallT PR CS [a,b] [.one .bool] st K:=
 Ae (cfg:=⟨[],[],[22,27,34,39,47,53,62,67]⟩) (h:=(.seq .none (.seq .none (.seq (.seq .none (.block (.loop ⟨[(5,.int .i64),(0,.tv),(1,.tv)],[],[],[]⟩ (.seq .none (.seq (.block (.seq .none (.seq .none (.block (.loop ⟨[(6,.int .i64),(0,.tv),(1,.tv),(5,.int .i64)],[],[],[]⟩ .none))))) .none))))) .none)))) mixed (fun _ _=>Tryz.call16 _ _) Tryz.func16 (by kernel_rfl) (by kernel_rfl) h
theorem Kj (v_0:Int) (v_1:Bool) (v_2:Bool) (v_3:B8) (v_4:Int) (v_5:Int) (v_6:Int) (v_7:Int) (v_8:Int) (v_9:B8) (v_10:TV) (v_11:TV) (v_12:TV) (st:St) (K:Int->St->Prop) (h:CallT PR AB [(.agg (cV v_0 v_1 v_2 v_3 v_4 v_5 v_6 v_7 v_8 v_9 v_10 v_11 v_12))] [.one (.int .i64)] st (fun (n1:Int) a=>BId (n1≠0) (K n1 a) (BId (v_0≠7) (K 27 a) (CallT PR Ch [(.agg (cV v_0 v_1 v_2 v_3 v_4 v_5 v_6 v_7 v_8 v_9 v_10 v_11 v_12))] [.one .bool] a (fun (b1:Bool) b=>BIf b1 (K 27 b) (K 0 b)))))):CallT PR Dn [(.agg (cV v_0 v_1 v_2 v_3 v_4 v_5 v_6 v_7 v_8 v_9 v_10 v_11 v_12))] [.one (.int .i64)] st K:=
 Ae (cfg:=⟨[1],[],[]⟩) (h:= .none) mixed (fun _ _=>Tryz.call17 _ _) Tryz.func17 (by kernel_rfl) (by kernel_rfl) h
theorem G4 (v_0:Int) (v_1:Bool) (v_2:Bool) (v_3:B8) (v_4:Int) (v_5:Int) (v_6:Int) (v_7:Int) (v_8:Int) (v_9:B8) (v_10:TV) (v_11:TV) (v_12:TV) (st:St) (K:Int->St->Prop) (h:CallT PR BQ [(.agg (cV v_0 v_1 v_2 v_3 v_4 v_5 v_6 v_7 v_8 v_9 v_10 v_11 v_12))] [.one (.int .i64)] st (fun (n1:Int) a=>BId (n1≠0) (K n1 a) (BId (v_0≠7) (K 27 a) (CallT PR BP [(.agg (cV v_0 v_1 v_2 v_3 v_4 v_5 v_6 v_7 v_8 v_9 v_10 v_11 v_12))] [.one .bool] a (fun (b1:Bool) b=>BIf b1 (K 27 b) (K 0 b)))))):CallT PR B2 [(.agg (cV v_0 v_1 v_2 v_3 v_4 v_5 v_6 v_7 v_8 v_9 v_10 v_11 v_12))] [.one (.int .i64)] st K:=
 Ae (cfg:=⟨[1],[],[]⟩) (h:= .none) mixed (fun _ _=>Tryz.call18 _ _) Tryz.func18 (by kernel_rfl) (by kernel_rfl) h
theorem GX (keys:TV) (st:St) (K:Bool->Bool->TV->V13 (St->Prop)) (h:CallT PR DH [] [sV] st (fun (n1:Int) (b1 b2:Bool) (s1:B8) (n2 n3 n4 n5 n6:Int) (s2:B8) (v1 v2 v3:TV) a=>need (List.all [keys] Aq) (need (List.all [.bool false,.bool false,keys,.int .i64 n1,.bool b1,.bool b2,.str s1,.int .i64 n2,.int .i64 n3,.int .i64 n4,.int .i64 n5,.int .i64 n6,.str s2,v1,v2,v3] Aq) (K false false keys n1 b1 b2 s1 n2 n3 n4 n5 n6 s2 v1 v2 v3 a)))):CallT PR AR [keys] [.agg [.bool,.bool,.tv,.int .i64,.bool,.bool,.str,.int .i64,.int .i64,.int .i64,.int .i64,.int .i64,.str,.tv,.tv,.tv]] st K:=
 Ae (cfg:=⟨[2],[],[]⟩) (h:= .none) mixed (fun _ _=>Tryz.call23 _ _) Tryz.func23 (by kernel_rfl) (by kernel_rfl) h
theorem KL (l:TV) (st:St) (K:TV->Int->Int->St->Prop) (h:CallT PR CA [] [.one .tv] st (fun (v1:TV) g=>need (isSl l) (∃(I1:Int->TV->TV->Int->St->Prop) (M1:Int->TV->TV->Int->St->Nat),(I1 0 v1 l ((lenS l:Int)) g)/\∀a c b d e,I1 a c b d e->(BId (a<d) (((0<=a/\a<(lenZ 16 b:Int))/\Ai ((Al e [] (.t (ixT 16 b a.toNat)) 0 16).map TV.agg) (fun (x1:TV)=>Cd [.bool,.bool,.tv,.int .i64,.bool,.bool,.str,.int .i64,.int .i64,.int .i64,.int .i64,.int .i64,.str,.tv,.tv,.tv] x1 (fun (b1 b2:Bool) (v2:TV) (n1:Int) (b3 b4:Bool) (s1:B8) (n2 n3 n4 n5 n6:Int) (s2:B8) (v3 v4 v5:TV)=>need (List.all [.bool b1,.bool b2,v2,.int .i64 n1,.bool b3,.bool b4,.str s1,.int .i64 n2,.int .i64 n3,.int .i64 n4,.int .i64 n5,.int .i64 n6,.str s2,v3,v4,v5] Aq) (CallT PR BT [c,(.agg [.bool b1,.bool b2,v2,.int .i64 n1,.bool b3,.bool b4,.str s1,.int .i64 n2,.int .i64 n3,.int .i64 n4,.int .i64 n5,.int .i64 n6,.str s2,v3,v4,v5]),.int .i64 a] [.one (.int .i64)] e (fun (n7:Int) f=>BId (n7≠0) (K .nilPtr a n7 f) ((I1 ((i64.wrap (a+(1:Int)))) c b d f/\M1 ((i64.wrap (a+(1:Int)))) c b d f<M1 a c b d e)))))))) (K c 0 0 e))))):CallT PR DG [l] [.one .tv,.one (.int .i64),.one (.int .i64)] st K:=
 Ae (cfg:=⟨[7],[],[]⟩) (h:=(.seq .none (.seq .none (.seq (.seq .none (.block (.loop ⟨[(12,.int .i64),(5,.tv),(10,.tv),(11,.int .i64)],[],[],[]⟩ .none))) .none)))) mixed (fun _ _=>Tryz.call24 _ _) Tryz.func24 (by kernel_rfl) (by kernel_rfl) h
theorem LU (v_0:Int) (v_1:Bool) (v_2:Bool) (v_3:B8) (v_4:Int) (v_5:Int) (v_6:Int) (v_7:Int) (v_8:Int) (v_9:B8) (v_10:TV) (v_11:TV) (v_12:TV) (st:St) (K:V13 (St->Prop)) (h:CallT PR Cu [(.agg (cV v_0 v_1 v_2 v_3 v_4 v_5 v_6 v_7 v_8 v_9 v_10 v_11 v_12)),.int .i64 65536] [sV] st (fun (n1:Int) (b1 b2:Bool) (s1:B8) (n2 n3 n4 n5 n6:Int) (s2:B8) (v1 v2 v3:TV) a=>need (List.all (cV n1 b1 b2 s1 n2 n3 n4 n5 n6 s2 v1 v2 v3) Aq) (K n1 b1 b2 s1 n2 n3 n4 n5 n6 s2 v1 v2 v3 a))):CallT PR Dj [(.agg (cV v_0 v_1 v_2 v_3 v_4 v_5 v_6 v_7 v_8 v_9 v_10 v_11 v_12))] [sV] st K:=
 Ae (cfg:=⟨[1,2],[],[]⟩) (h:= .none) mixed (fun _ _=>Tryz.call25 _ _) Tryz.func25 (by kernel_rfl) (by kernel_rfl) h
theorem Ft (b:Nat) (t:Nat) (st:St) (K:V13 (St->Prop)) (h:Ai (Ac st [] (.t (.box t 0)) 0) (fun (v1:TV)=>need (isSl v1) (∃(I1:Int->TV->TV->TV->Int->V13 (V13 (St->Prop))) (M1:Int->TV->TV->TV->Int->V13 (V13 (St->Nat))),(I1 0 ((.box b 0)) ((.box t 0)) v1 ((lenS v1:Int)) 0 false false [] 0 0 0 0 0 [] .nilSlice .nilSlice .nilSlice 7 false false [] 0 0 0 0 0 [] .nilSlice .nilSlice .nilSlice st)/\∀c j d f k n1 b1 b2 s1 n2 n3 n4 n5 n6 s2 v2 v3 v4 n7 b3 b4 s3 n8 n9 i g e s4 v5 v6 v7 a,I1 c j d f k n1 b1 b2 s1 n2 n3 n4 n5 n6 s2 v2 v3 v4 n7 b3 b4 s3 n8 n9 i g e s4 v5 v6 v7 a->(BId (c<k) (((0<=c/\c<(lenZ 1 f:Int))/\Ai (Ac a [] (.t (ixT 1 f c.toNat)) 0) (fun (x2:TV)=>AS .str x2 (fun (s5:B8)=>need (isPtr d) (need (isPtr d) (Ai (Ac a [] (.t (Au d 1)) 0) (fun (v8:TV)=>Ai (Et a v8) (fun (es1:List (B8×TV))=>need (isPtr (At .nilPtr (Aw s5 es1))) (need (isPtr (At .nilPtr (Aw s5 es1))) (Ai ((Al a [] (.t (Au (At .nilPtr (Aw s5 es1)) 2)) 0 13).map TV.agg) (fun (x4:TV)=>Cd [.int .i64,.bool,.bool,.str,.int .i64,.int .i64,.int .i64,.int .i64,.int .i64,.str,.tv,.tv,.tv] x4 (fun (f9:Int) (b5 b6:Bool) (s6:B8) (f4 e9 f6 f1 e3:Int) (s7:B8) (v9 f2 g2:TV)=>need (List.all (cV f9 b5 b6 s6 f4 e9 f6 f1 e3 s7 v9 f2 g2) Aq) (need (isPtr (At .nilPtr (Aw s5 es1))) (need (isPtr (At .nilPtr (Aw s5 es1))) (Ai (Ac a [] (.t (Au (At .nilPtr (Aw s5 es1)) 0)) 0) (fun (i1:TV)=>need (FC i1) (BIf (!CP i1) (need (isPtr (At .nilPtr (Aw s5 es1))) (need (isPtr (At .nilPtr (Aw s5 es1))) (Ai (Ac a [] (.t (Au (At .nilPtr (Aw s5 es1)) 0)) 0) (fun (i6:TV)=>CallT PR Ak [j,i6] [sV] a (fun (f0:Int) (b7 b8:Bool) (s8:B8) (e8 g0 g3 f7 g1:Int) (s9:B8) (e7 e5 f8:TV) i4=>need (List.all (cV f0 b7 b8 s8 e8 g0 g3 f7 g1 s9 e7 e5 f8) Aq) (need (List.all [.str s5,.int .i64 f0,.bool b7,.bool b8,.str s8,.int .i64 e8,.int .i64 g0,.int .i64 g3,.int .i64 f7,.int .i64 g1,.str s9,e7,e5,f8] Aq) (Bl 65 14 184 v7 1 [.str s5,.int .i64 f0,.bool b7,.bool b8,.str s8,.int .i64 e8,.int .i64 g0,.int .i64 g3,.int .i64 f7,.int .i64 g1,.str s9,e7,e5,f8] i4 (fun (e6:TV) h0=>need (List.all [e6] Aq) ((I1 ((i64.wrap (c+(1:Int)))) j d f k n1 b1 b2 s1 n2 n3 n4 n5 n6 s2 v2 v3 v4 n7 b3 b4 s3 n8 n9 i g e s4 v5 v6 e6 h0/\M1 ((i64.wrap (c+(1:Int)))) j d f k n1 b1 b2 s1 n2 n3 n4 n5 n6 s2 v2 v3 v4 n7 b3 b4 s3 n8 n9 i g e s4 v5 v6 e6 h0<M1 c j d f k n1 b1 b2 s1 n2 n3 n4 n5 n6 s2 v2 v3 v4 n7 b3 b4 s3 n8 n9 i g e s4 v5 v6 v7 a)))))))))) (need (isPtr (At .nilPtr (Aw s5 es1))) (need (isPtr (At .nilPtr (Aw s5 es1))) (Ai (Ac a [] (.t (Au (At .nilPtr (Aw s5 es1)) 1)) 0) (fun (h7:TV)=>need (isSl h7) (BId ((0:Int)<(lenS h7:Int)) (need (isPtr (At .nilPtr (Aw s5 es1))) (need (isPtr (At .nilPtr (Aw s5 es1))) (Ai (Ac a [] (.t (Au (At .nilPtr (Aw s5 es1)) 1)) 0) (fun (f5:TV)=>need (isSl f5) (∃(I2:Int->TV->TV->B8->TV->Int->Int->TV->Int->V13 (V13 (V13 (St->Prop)))) (M2:Int->TV->TV->B8->TV->Int->Int->TV->Int->V13 (V13 (V13 (St->Nat)))),(I2 0 j d s5 f k c f5 ((lenS f5:Int)) n1 b1 b2 s1 n2 n3 n4 n5 n6 s2 v2 v3 v4 n7 b3 b4 s3 n8 n9 i g e s4 v5 v6 v7 6 false false [] 0 0 0 0 0 [] .nilSlice .nilSlice .nilSlice a)/\∀l m v c7 u c3 a2 c2 e1 c4 b9 a3 q b0 w c6 c8 c0 x d3 a8 a0 d5 c9 d6 a4 d0 a5 d4 o p a9 d2 c5 d9 s a6 y r a1 z a7 c1 d1 d8 d7 e2 n e0,I2 l m v c7 u c3 a2 c2 e1 c4 b9 a3 q b0 w c6 c8 c0 x d3 a8 a0 d5 c9 d6 a4 d0 a5 d4 o p a9 d2 c5 d9 s a6 y r a1 z a7 c1 d1 d8 d7 e2 n e0->(BId (l<e1) (((0<=l/\l<(lenZ 1 c2:Int))/\Ai (Ac e0 [] (.t (ixT 1 c2 l.toNat)) 0) (fun (i7:TV)=>CallT PR Ak [m,i7] [sV] e0 (fun (h3:Int) (h5 h9:Bool) (g6:B8) (i0 h2 h4 h6 i2:Int) (g7:B8) (g9 g8 h8:TV) i5=>need (List.all (cV h3 h5 h9 g6 i0 h2 h4 h6 i2 g7 g9 g8 h8) Aq) (Bl 33 13 168 e2 1 (cV h3 h5 h9 g6 i0 h2 h4 h6 i2 g7 g9 g8 h8) i5 (fun (g4:TV) g5=>need (List.all [g4] Aq) ((I2 ((i64.wrap (l+(1:Int)))) m v c7 u c3 a2 c2 e1 c4 b9 a3 q b0 w c6 c8 c0 x d3 a8 a0 d5 c9 d6 a4 d0 a5 d4 o p a9 d2 c5 d9 s a6 y r a1 z a7 c1 d1 d8 d7 g4 n g5/\M2 ((i64.wrap (l+(1:Int)))) m v c7 u c3 a2 c2 e1 c4 b9 a3 q b0 w c6 c8 c0 x d3 a8 a0 d5 c9 d6 a4 d0 a5 d4 o p a9 d2 c5 d9 s a6 y r a1 z a7 c1 d1 d8 d7 g4 n g5<M2 l m v c7 u c3 a2 c2 e1 c4 b9 a3 q b0 w c6 c8 c0 x d3 a8 a0 d5 c9 d6 a4 d0 a5 d4 o p a9 d2 c5 d9 s a6 y r a1 z a7 c1 d1 d8 d7 e2 n e0)))))))) (need (List.all [.str c7,.int .i64 s,.bool a6,.bool y,.str r,.int .i64 a1,.int .i64 z,.int .i64 a7,.int .i64 c1,.int .i64 d1,.str d8,d7,e2,n] Aq) (Bl 65 14 184 d9 1 [.str c7,.int .i64 s,.bool a6,.bool y,.str r,.int .i64 a1,.int .i64 z,.int .i64 a7,.int .i64 c1,.int .i64 d1,.str d8,d7,e2,n] e0 (fun (f3:TV) h1=>need (List.all [f3] Aq) ((I1 ((i64.wrap (a2+(1:Int)))) m v u c3 c4 b9 a3 q b0 w c6 c8 c0 x d3 a8 a0 d5 c9 d6 a4 d0 a5 d4 o p a9 d2 c5 f3 h1/\M1 ((i64.wrap (a2+(1:Int)))) m v u c3 c4 b9 a3 q b0 w c6 c8 c0 x d3 a8 a0 d5 c9 d6 a4 d0 a5 d4 o p a9 d2 c5 f3 h1<M1 c j d f k n1 b1 b2 s1 n2 n3 n4 n5 n6 s2 v2 v3 v4 n7 b3 b4 s3 n8 n9 i g e s4 v5 v6 v7 a))))))))))) (need (List.all [.str s5,.int .i64 f9,.bool b5,.bool b6,.str s6,.int .i64 f4,.int .i64 e9,.int .i64 f6,.int .i64 f1,.int .i64 e3,.str s7,v9,f2,g2] Aq) (Bl 65 14 184 v7 1 [.str s5,.int .i64 f9,.bool b5,.bool b6,.str s6,.int .i64 f4,.int .i64 e9,.int .i64 f6,.int .i64 f1,.int .i64 e3,.str s7,v9,f2,g2] a (fun (e4:TV) i3=>need (List.all [e4] Aq) ((I1 ((i64.wrap (c+(1:Int)))) j d f k n1 b1 b2 s1 n2 n3 n4 n5 n6 s2 v2 v3 v4 n7 b3 b4 s3 n8 n9 i g e s4 v5 v6 e4 i3/\M1 ((i64.wrap (c+(1:Int)))) j d f k n1 b1 b2 s1 n2 n3 n4 n5 n6 s2 v2 v3 v4 n7 b3 b4 s3 n8 n9 i g e s4 v5 v6 e4 i3<M1 c j d f k n1 b1 b2 s1 n2 n3 n4 n5 n6 s2 v2 v3 v4 n7 b3 b4 s3 n8 n9 i g e s4 v5 v6 v7 a))))))))))))))))))))))))))) (need (List.all (cV n7 b3 b4 s3 n8 n9 i g e s4 v5 v6 v7) Aq) (K n7 b3 b4 s3 n8 n9 i g e s4 v5 v6 v7 a)))))):CallT PR Ak [(.box b 0),(.box t 0)] [sV] st K:=
 Ae (cfg:=⟨[4,5,9],[],[]⟩) (h:=(.seq .none (.seq .none (.seq (.seq .none (.block (.loop ⟨[(18,.int .i64),(0,.tv),(1,.tv),(16,.tv),(17,.int .i64)],[(4,0,0),(5,1,0)],[(0,13),(1,13)],[(0,0,.int .i64),(0,1,.bool),(0,2,.bool),(0,3,.str),(0,4,.int .i64),(0,5,.int .i64),(0,6,.int .i64),(0,7,.int .i64),(0,8,.int .i64),(0,9,.str),(0,10,.tv),(0,11,.tv),(0,12,.tv),(1,0,.int .i64),(1,1,.bool),(1,2,.bool),(1,3,.str),(1,4,.int .i64),(1,5,.int .i64),(1,6,.int .i64),(1,7,.int .i64),(1,8,.int .i64),(1,9,.str),(1,10,.tv),(1,11,.tv),(1,12,.tv)]⟩ (.seq .none (.seq .none (.seq (.block (.seq .none (.seq .none (.seq .none (.seq (.seq .none (.cond .none (.seq .none (.cond (.seq .none (.seq .none (.block (.loop ⟨[(55,.int .i64),(0,.tv),(1,.tv),(7,.str),(16,.tv),(17,.int .i64),(18,.int .i64),(53,.tv),(54,.int .i64)],[(4,0,0),(5,1,0),(9,2,0)],[(0,13),(1,13),(2,13)],[(0,0,.int .i64),(0,1,.bool),(0,2,.bool),(0,3,.str),(0,4,.int .i64),(0,5,.int .i64),(0,6,.int .i64),(0,7,.int .i64),(0,8,.int .i64),(0,9,.str),(0,10,.tv),(0,11,.tv),(0,12,.tv),(1,0,.int .i64),(1,1,.bool),(1,2,.bool),(1,3,.str),(1,4,.int .i64),(1,5,.int .i64),(1,6,.int .i64),(1,7,.int .i64),(1,8,.int .i64),(1,9,.str),(1,10,.tv),(1,11,.tv),(1,12,.tv),(2,0,.int .i64),(2,1,.bool),(2,2,.bool),(2,3,.str),(2,4,.int .i64),(2,5,.int .i64),(2,6,.int .i64),(2,7,.int .i64),(2,8,.int .i64),(2,9,.str),(2,10,.tv),(2,11,.tv),(2,12,.tv)]⟩ .none)))) .none)))) .none))))) .none)))))) .none)))) mixed (fun _ _=>Tryz.call26 _ _) Tryz.func26 (by kernel_rfl) (by kernel_rfl) h
theorem G5 (v_0:Int) (v_1:Bool) (v_2:Bool) (v_3:B8) (v_4:Int) (v_5:Int) (v_6:Int) (v_7:Int) (v_8:Int) (v_9:B8) (v_10:TV) (v_11:TV) (v_12:TV) (depth:Int) (n:Int) (bytes:Int) (st:St) (K:Int->St->Prop) (h:BId (depth<1) (K (-1) st) (BId (n<1) (K (-1) st) (BId (bytes<(v_9.length:Int)) (K (-1) st) (need (isSl v_10) (BId (bytes<(lenS v_10:Int)) (K (-1) st) (BId (bytes<(v_3.length:Int)) (K (-1) st) (need (isSl v_11) (BId (n<(lenS v_11:Int)) (K (-1) st) (need (isSl v_12) (BId (n<(lenS v_12:Int)) (K (-1) st) (∃(I1:Int->Int->Int->Int->V13 (St->Prop)) (M1:Int->Int->Int->Int->V13 (St->Nat)),(I1 ((i64.wrap (n-(1:Int)))) 0 depth bytes v_0 v_1 v_2 v_3 v_4 v_5 v_6 v_7 v_8 v_9 v_10 v_11 v_12 st)/\∀o l a b n1 b1 b2 s1 n2 n3 n4 n5 n6 s2 v1 v2 v3 p,I1 o l a b n1 b1 b2 s1 n2 n3 n4 n5 n6 s2 v1 v2 v3 p->(need (isSl v2) (BId (l<(lenS v2:Int)) (BId ((0:Int)<=o) (((0<=l/\l<(lenZ 13 v2:Int))/\Ai ((Al p [] (.t (ixT 13 v2 l.toNat)) 0 13).map TV.agg) (fun (x1:TV)=>Cd [.int .i64,.bool,.bool,.str,.int .i64,.int .i64,.int .i64,.int .i64,.int .i64,.str,.tv,.tv,.tv] x1 (fun (n7:Int) (b3 b4:Bool) (s3:B8) (n8 n9 d4 e5 c6:Int) (s4:B8) (v4 v5 v6:TV)=>CallT PR A5 [(.agg (cV n7 b3 b4 s3 n8 n9 d4 e5 c6 s4 v4 v5 v6)),(.int .i64 (i64.wrap (a-(1:Int)))),.int .i64 o,.int .i64 b] [.one (.int .i64)] p (fun (c3:Int) c4=>(I1 c3 ((i64.wrap (l+(1:Int)))) a b n1 b1 b2 s1 n2 n3 n4 n5 n6 s2 v1 v2 v3 c4/\M1 c3 ((i64.wrap (l+(1:Int)))) a b n1 b1 b2 s1 n2 n3 n4 n5 n6 s2 v1 v2 v3 c4<M1 o l a b n1 b1 b2 s1 n2 n3 n4 n5 n6 s2 v1 v2 v3 p)))))) (∃(I2:Int->Int->Int->Int->V13 (St->Prop)) (M2:Int->Int->Int->Int->V13 (St->Nat)),(I2 o 0 a b n1 b1 b2 s1 n2 n3 n4 n5 n6 s2 v1 v2 v3 p)/\∀q g f d a8 b5 b6 s5 x v a5 u a3 s6 v7 v8 v9 m,I2 q g f d a8 b5 b6 s5 x v a5 u a3 s6 v7 v8 v9 m->(need (isSl v9) (BId (g<(lenS v9:Int)) (BId ((0:Int)<=q) (((0<=g/\g<(lenZ 14 v9:Int))/\need (isPtr (ixT 14 v9 g.toNat)) (Ai (Ac m [] (.t (Au (ixT 14 v9 g.toNat) 0)) 0) (fun (x2:TV)=>AS .str x2 (fun (s7:B8)=>BId (d<(s7.length:Int)) (K (-1) m) (((0<=g/\g<(lenZ 14 v9:Int))/\need (isPtr (ixT 14 v9 g.toNat)) (Ai ((Al m [] (.t (Au (ixT 14 v9 g.toNat) 1)) 0 13).map TV.agg) (fun (x3:TV)=>Cd [.int .i64,.bool,.bool,.str,.int .i64,.int .i64,.int .i64,.int .i64,.int .i64,.str,.tv,.tv,.tv] x3 (fun (e8:Int) (b7 b8:Bool) (s8:B8) (f0 d1 d9 c5 d0:Int) (s9:B8) (e7 c9 d8:TV)=>CallT PR A5 [(.agg (cV e8 b7 b8 s8 f0 d1 d9 c5 d0 s9 e7 c9 d8)),(.int .i64 (i64.wrap (f-(1:Int)))),.int .i64 q,.int .i64 d] [.one (.int .i64)] m (fun (c2:Int) c1=>(I2 c2 ((i64.wrap (g+(1:Int)))) f d a8 b5 b6 s5 x v a5 u a3 s6 v7 v8 v9 c1/\M2 c2 ((i64.wrap (g+(1:Int)))) f d a8 b5 b6 s5 x v a5 u a3 s6 v7 v8 v9 c1<M2 q g f d a8 b5 b6 s5 x v a5 u a3 s6 v7 v8 v9 m)))))))))))) (K q m)) (K q m))))) (∃(I3:Int->Int->Int->Int->V13 (St->Prop)) (M3:Int->Int->Int->Int->V13 (St->Nat)),(I3 o 0 a b n1 b1 b2 s1 n2 n3 n4 n5 n6 s2 v1 v2 v3 p)/\∀r i e c s b9 w a0 a1 a2 a9 a6 a4 y z a7 j k,I3 r i e c s b9 w a0 a1 a2 a9 a6 a4 y z a7 j k->(need (isSl j) (BId (i<(lenS j:Int)) (BId ((0:Int)<=r) (((0<=i/\i<(lenZ 14 j:Int))/\need (isPtr (ixT 14 j i.toNat)) (Ai (Ac k [] (.t (Au (ixT 14 j i.toNat) 0)) 0) (fun (x4:TV)=>AS .str x4 (fun (d5:B8)=>BId (c<(d5.length:Int)) (K (-1) k) (((0<=i/\i<(lenZ 14 j:Int))/\need (isPtr (ixT 14 j i.toNat)) (Ai ((Al k [] (.t (Au (ixT 14 j i.toNat) 1)) 0 13).map TV.agg) (fun (x5:TV)=>Cd [.int .i64,.bool,.bool,.str,.int .i64,.int .i64,.int .i64,.int .i64,.int .i64,.str,.tv,.tv,.tv] x5 (fun (d6:Int) (d7 e6:Bool) (e3:B8) (e4 c7 c8 e1 e9:Int) (d2:B8) (e2 d3 e0:TV)=>CallT PR A5 [(.agg (cV d6 d7 e6 e3 e4 c7 c8 e1 e9 d2 e2 d3 e0)),(.int .i64 (i64.wrap (e-(1:Int)))),.int .i64 r,.int .i64 c] [.one (.int .i64)] k (fun (c0:Int) b0=>(I3 c0 ((i64.wrap (i+(1:Int)))) e c s b9 w a0 a1 a2 a9 a6 a4 y z a7 j b0/\M3 c0 ((i64.wrap (i+(1:Int)))) e c s b9 w a0 a1 a2 a9 a6 a4 y z a7 j b0<M3 r i e c s b9 w a0 a1 a2 a9 a6 a4 y z a7 j k)))))))))))) (K r k)) (K r k))))))))))))))))):CallT PR A5 [(.agg (cV v_0 v_1 v_2 v_3 v_4 v_5 v_6 v_7 v_8 v_9 v_10 v_11 v_12)),.int .i64 depth,.int .i64 n,.int .i64 bytes] [.one (.int .i64)] st K:=
 Ae (cfg:=⟨[4],[],[]⟩) (h:=(.seq .none (.seq .none (.seq .none (.seq (.seq .none (.block (.loop ⟨[(2,.int .i64),(9,.int .i64),(1,.int .i64),(3,.int .i64)],[(4,0,0)],[(0,13)],[(0,0,.int .i64),(0,1,.bool),(0,2,.bool),(0,3,.str),(0,4,.int .i64),(0,5,.int .i64),(0,6,.int .i64),(0,7,.int .i64),(0,8,.int .i64),(0,9,.str),(0,10,.tv),(0,11,.tv),(0,12,.tv)]⟩ .none))) (.seq (.seq .none (.block (.loop ⟨[(2,.int .i64),(10,.int .i64),(1,.int .i64),(3,.int .i64)],[(4,0,0)],[(0,13)],[(0,0,.int .i64),(0,1,.bool),(0,2,.bool),(0,3,.str),(0,4,.int .i64),(0,5,.int .i64),(0,6,.int .i64),(0,7,.int .i64),(0,8,.int .i64),(0,9,.str),(0,10,.tv),(0,11,.tv),(0,12,.tv)]⟩ .none))) .none)))))) mixed (fun _ _=>Tryz.call28 _ _) Tryz.func28 (by kernel_rfl) (by kernel_rfl) h
theorem Gg (v_0:Int) (v_1:Bool) (v_2:Bool) (v_3:B8) (v_4:Int) (v_5:Int) (v_6:Int) (v_7:Int) (v_8:Int) (v_9:B8) (v_10:TV) (v_11:TV) (v_12:TV) (st:St) (K:Int->St->Prop) (h:need (isSl v_10) (∃(I1:Int->Int->V13 (St->Prop)) (M1:Int->Int->V13 (St->Nat)),(I1 ((i64.wrap ((i64.wrap ((v_9.length:Int)+(lenS v_10:Int)))+(v_3.length:Int)))) 0 v_0 v_1 v_2 v_3 v_4 v_5 v_6 v_7 v_8 v_9 v_10 v_11 v_12 st)/\∀d b n1 b1 b2 s1 n2 n3 n4 n5 n6 s2 v1 v2 v3 e,I1 d b n1 b1 b2 s1 n2 n3 n4 n5 n6 s2 v1 v2 v3 e->(need (isSl v2) (BId (b<(lenS v2:Int)) (((0<=b/\b<(lenZ 13 v2:Int))/\Ai ((Al e [] (.t (ixT 13 v2 b.toNat)) 0 13).map TV.agg) (fun (x1:TV)=>Cd [.int .i64,.bool,.bool,.str,.int .i64,.int .i64,.int .i64,.int .i64,.int .i64,.str,.tv,.tv,.tv] x1 (fun (n7:Int) (b3 b4:Bool) (s3:B8) (n8 n9 x a0 s:Int) (s4:B8) (v4 v5 v6:TV)=>CallT PR Bd [(.agg (cV n7 b3 b4 s3 n8 n9 x a0 s s4 v4 v5 v6))] [.one (.int .i64)] e (fun (p:Int) q=>(I1 ((i64.wrap (d+p))) ((i64.wrap (b+(1:Int)))) n1 b1 b2 s1 n2 n3 n4 n5 n6 s2 v1 v2 v3 q/\M1 ((i64.wrap (d+p))) ((i64.wrap (b+(1:Int)))) n1 b1 b2 s1 n2 n3 n4 n5 n6 s2 v1 v2 v3 q<M1 d b n1 b1 b2 s1 n2 n3 n4 n5 n6 s2 v1 v2 v3 e)))))) (∃(I2:Int->Int->V13 (St->Prop)) (M2:Int->Int->V13 (St->Nat)),(I2 d 0 n1 b1 b2 s1 n2 n3 n4 n5 n6 s2 v1 v2 v3 e)/\∀f a m b5 b6 s5 j g l i k s6 v7 v8 v9 c,I2 f a m b5 b6 s5 j g l i k s6 v7 v8 v9 c->(need (isSl v9) (BId (a<(lenS v9:Int)) (((0<=a/\a<(lenZ 14 v9:Int))/\need (isPtr (ixT 14 v9 a.toNat)) (Ai (Ac c [] (.t (Au (ixT 14 v9 a.toNat) 0)) 0) (fun (x2:TV)=>AS .str x2 (fun (s7:B8)=>((0<=a/\a<(lenZ 14 v9:Int))/\need (isPtr (ixT 14 v9 a.toNat)) (Ai ((Al c [] (.t (Au (ixT 14 v9 a.toNat) 1)) 0 13).map TV.agg) (fun (x3:TV)=>Cd [.int .i64,.bool,.bool,.str,.int .i64,.int .i64,.int .i64,.int .i64,.int .i64,.str,.tv,.tv,.tv] x3 (fun (a2:Int) (b7 b8:Bool) (s8:B8) (a3 w z r v:Int) (s9:B8) (a1 u y:TV)=>CallT PR Bd [(.agg (cV a2 b7 b8 s8 a3 w z r v s9 a1 u y))] [.one (.int .i64)] c (fun (o:Int) n=>(Ac n [] (.t (Au (ixT 14 v9 a.toNat) 0)) 0=some (.str s7)/\(I2 ((i64.wrap ((i64.wrap (f+(s7.length:Int)))+o))) ((i64.wrap (a+(1:Int)))) m b5 b6 s5 j g l i k s6 v7 v8 v9 n/\M2 ((i64.wrap ((i64.wrap (f+(s7.length:Int)))+o))) ((i64.wrap (a+(1:Int)))) m b5 b6 s5 j g l i k s6 v7 v8 v9 n<M2 f a m b5 b6 s5 j g l i k s6 v7 v8 v9 c)))))))))))) (K f c)))))))):CallT PR Bd [(.agg (cV v_0 v_1 v_2 v_3 v_4 v_5 v_6 v_7 v_8 v_9 v_10 v_11 v_12))] [.one (.int .i64)] st K:=
 Ae (cfg:=⟨[1],[],[46,54]⟩) (h:=(.seq .none (.seq .none (.seq (.seq .none (.block (.loop ⟨[(3,.int .i64),(4,.int .i64)],[(1,0,0)],[(0,13)],[(0,0,.int .i64),(0,1,.bool),(0,2,.bool),(0,3,.str),(0,4,.int .i64),(0,5,.int .i64),(0,6,.int .i64),(0,7,.int .i64),(0,8,.int .i64),(0,9,.str),(0,10,.tv),(0,11,.tv),(0,12,.tv)]⟩ .none))) (.seq (.seq .none (.block (.loop ⟨[(3,.int .i64),(5,.int .i64)],[(1,0,0)],[(0,13)],[(0,0,.int .i64),(0,1,.bool),(0,2,.bool),(0,3,.str),(0,4,.int .i64),(0,5,.int .i64),(0,6,.int .i64),(0,7,.int .i64),(0,8,.int .i64),(0,9,.str),(0,10,.tv),(0,11,.tv),(0,12,.tv)]⟩ .none))) .none))))) mixed (fun _ _=>Tryz.call29 _ _) Tryz.func29 (by kernel_rfl) (by kernel_rfl) h
theorem KJ (v_0:Int) (v_1:Bool) (v_2:Bool) (v_3:B8) (v_4:Int) (v_5:Int) (v_6:Int) (v_7:Int) (v_8:Int) (v_9:B8) (v_10:TV) (v_11:TV) (v_12:TV) (st:St) (K:Int->St->Prop) (h:stB (st.push (.cells [.int .i64 0]) (some 3)) (.box st.nb 0) [.int .i64 0] (fun a=>CallT PR CR [(.agg (cV v_0 v_1 v_2 v_3 v_4 v_5 v_6 v_7 v_8 v_9 v_10 v_11 v_12)),.int .i64 1,(.box st.nb 0)] [.one (.int .i64)] a (fun (n1:Int) b=>K n1 b))):CallT PR AB [(.agg (cV v_0 v_1 v_2 v_3 v_4 v_5 v_6 v_7 v_8 v_9 v_10 v_11 v_12))] [.one (.int .i64)] st K:=
 Ae (cfg:=⟨[1],[],[]⟩) (h:= .none) mixed (fun _ _=>Tryz.call30 _ _) Tryz.func30 (by kernel_rfl) (by kernel_rfl) h
theorem Ig (out:TV) (v_0:Int) (e:Bool) (g:Bool) (n:B8) (o:Int) (v_5:Int) (v_6:Int) (v_7:Int) (v_8:Int) (v_9:B8) (v_10:TV) (v_11:TV) (v_12:TV) (keys:TV) (st:St) (K:TV->St->Prop) (h:need (isSl v_12) (∃(I1:TV->Int->TV->TV->Int->V13 (St->Prop)) (M1:TV->Int->TV->TV->Int->V13 (St->Nat)),(I1 out 0 keys v_12 ((lenS v_12:Int)) v_0 e g n o v_5 v_6 v_7 v_8 v_9 v_10 v_11 v_12 st)/\∀c f a e k n1 b1 b2 s1 n2 n3 n4 n5 n6 s2 v1 v2 v3 q,I1 c f a e k n1 b1 b2 s1 n2 n3 n4 n5 n6 s2 v1 v2 v3 q->(BId (f<k) (((0<=f/\f<(lenZ 14 e:Int))/\Ai ((Al q [] (.t (ixT 14 e f.toNat)) 0 14).map TV.agg) (fun (x1:TV)=>Cd [.str,.int .i64,.bool,.bool,.str,.int .i64,.int .i64,.int .i64,.int .i64,.int .i64,.str,.tv,.tv,.tv] x1 (fun (s3:B8) (n7:Int) (b3 b4:Bool) (s4:B8) (n8 n9 a9 c2 a2:Int) (s5:B8) (v4 v5 v6:TV)=>need (List.all [.str s3,.int .i64 n7,.bool b3,.bool b4,.str s4,.int .i64 n8,.int .i64 n9,.int .i64 a9,.int .i64 c2,.int .i64 a2,.str s5,v4,v5,v6] Aq) (BId (n7≠7) (CallT PR Dm [(.agg (cV n7 b3 b4 s4 n8 n9 a9 c2 a2 s5 v4 v5 v6))] [.one .bool] q (fun (b5:Bool) c4=>BIf (!b5) (CallT PR Dj [(.agg (cV n7 b3 b4 s4 n8 n9 a9 c2 a2 s5 v4 v5 v6))] [sV] c4 (fun (e9:Int) (b6 b7:Bool) (s6:B8) (e8 d1 d0 e0 c9:Int) (s7:B8) (v7 v8 v9:TV) g0=>need (List.all [.bool false,.bool false,(.list 1 .full 1 [.str s3]),.int .i64 e9,.bool b6,.bool b7,.str s6,.int .i64 e8,.int .i64 d1,.int .i64 d0,.int .i64 e0,.int .i64 c9,.str s7,v7,v8,v9] Aq) (Bl 60 16 200 c 1 [.bool false,.bool false,(.list 1 .full 1 [.str s3]),.int .i64 e9,.bool b6,.bool b7,.str s6,.int .i64 e8,.int .i64 d1,.int .i64 d0,.int .i64 e0,.int .i64 c9,.str s7,v7,v8,v9] g0 (fun (e7:TV) e3=>(I1 e7 ((i64.wrap (f+(1:Int)))) a e k n1 b1 b2 s1 n2 n3 n4 n5 n6 s2 v1 v2 v3 e3/\M1 e7 ((i64.wrap (f+(1:Int)))) a e k n1 b1 b2 s1 n2 n3 n4 n5 n6 s2 v1 v2 v3 e3<M1 c f a e k n1 b1 b2 s1 n2 n3 n4 n5 n6 s2 v1 v2 v3 q))))) ((I1 c ((i64.wrap (f+(1:Int)))) a e k n1 b1 b2 s1 n2 n3 n4 n5 n6 s2 v1 v2 v3 c4/\M1 c ((i64.wrap (f+(1:Int)))) a e k n1 b1 b2 s1 n2 n3 n4 n5 n6 s2 v1 v2 v3 c4<M1 c f a e k n1 b1 b2 s1 n2 n3 n4 n5 n6 s2 v1 v2 v3 q)))) ((I1 c ((i64.wrap (f+(1:Int)))) a e k n1 b1 b2 s1 n2 n3 n4 n5 n6 s2 v1 v2 v3 q/\M1 c ((i64.wrap (f+(1:Int)))) a e k n1 b1 b2 s1 n2 n3 n4 n5 n6 s2 v1 v2 v3 q<M1 c f a e k n1 b1 b2 s1 n2 n3 n4 n5 n6 s2 v1 v2 v3 q))))))) (need (isSl v3) (∃(I2:TV->Int->TV->TV->Int->St->Prop) (M2:TV->Int->TV->TV->Int->St->Nat),(I2 c 0 a v3 ((lenS v3:Int)) q)/\∀d j b g m u,I2 d j b g m u->(BId (j<m) (((0<=j/\j<(lenZ 14 g:Int))/\Ai ((Al u [] (.t (ixT 14 g j.toNat)) 0 14).map TV.agg) (fun (x2:TV)=>Cd [.str,.int .i64,.bool,.bool,.str,.int .i64,.int .i64,.int .i64,.int .i64,.int .i64,.str,.tv,.tv,.tv] x2 (fun (s8:B8) (a0:Int) (b8 b9:Bool) (s9:B8) (c3 c6 a6 b0 a1:Int) (a7:B8) (a5 w a4:TV)=>need (List.all [.str s8,.int .i64 a0,.bool b8,.bool b9,.str s9,.int .i64 c3,.int .i64 c6,.int .i64 a6,.int .i64 b0,.int .i64 a1,.str a7,a5,w,a4] Aq) (CallT PR AI [b] [.one .tv] u (fun (f9:TV) f4=>Bl 9 1 16 f9 1 [.str s8] f4 (fun (a3:TV) d8=>BId (a0=7) (CallT PR AI [a3] [.one .tv] d8 (fun (c1:TV) f8=>need (List.all [c1] Aq) (need (List.all [.bool true,.bool false,c1,.int .i64 0,.bool false,.bool false,(.str []),.int .i64 0,.int .i64 0,.int .i64 0,.int .i64 0,.int .i64 0,(.str []),.nilSlice,.nilSlice,.nilSlice] Aq) (Bl 60 16 200 d 1 [.bool true,.bool false,c1,.int .i64 0,.bool false,.bool false,(.str []),.int .i64 0,.int .i64 0,.int .i64 0,.int .i64 0,.int .i64 0,(.str []),.nilSlice,.nilSlice,.nilSlice] f8 (fun (f5:TV) f7=>CallT PR BL [f5,(.agg (cV a0 b8 b9 s9 c3 c6 a6 b0 a1 a7 a5 w a4)),a3] [.one .tv] f7 (fun (e1:TV) a8=>(I2 e1 ((i64.wrap (j+(1:Int)))) b g m a8/\M2 e1 ((i64.wrap (j+(1:Int)))) b g m a8<M2 d j b g m u))))))) (CallT PR Dm [(.agg (cV a0 b8 b9 s9 c3 c6 a6 b0 a1 a7 a5 w a4))] [.one .bool] d8 (fun (f3:Bool) z=>BIf f3 (need (isSl w) (∃(I3:TV->Int->TV->TV->TV->Int->Int->TV->Int->St->Prop) (M3:TV->Int->TV->TV->TV->Int->Int->TV->Int->St->Nat),(I3 d 0 b a3 g m j w ((lenS w:Int)) z)/\∀p s i l n x v o y r,I3 p s i l n x v o y r->(BId (s<y) (((0<=s/\s<(lenZ 13 o:Int))/\Ai ((Al r [] (.t (ixT 13 o s.toNat)) 0 13).map TV.agg) (fun (x3:TV)=>Cd [.int .i64,.bool,.bool,.str,.int .i64,.int .i64,.int .i64,.int .i64,.int .i64,.str,.tv,.tv,.tv] x3 (fun (d3:Int) (d9 e6:Bool) (d2:B8) (e5 c8 d5 d7 f0:Int) (d6:B8) (c7 e4 e2:TV)=>need (List.all (cV d3 d9 e6 d2 e5 c8 d5 d7 f0 d6 c7 e4 e2) Aq) (CallT PR AI [l] [.one .tv] r (fun (c0:TV) f2=>need (List.all [c0] Aq) (need (List.all [.bool true,.bool true,c0,.int .i64 0,.bool false,.bool false,(.str []),.int .i64 0,.int .i64 0,.int .i64 0,.int .i64 0,.int .i64 0,(.str []),.nilSlice,.nilSlice,.nilSlice] Aq) (Bl 60 16 200 p 1 [.bool true,.bool true,c0,.int .i64 0,.bool false,.bool false,(.str []),.int .i64 0,.int .i64 0,.int .i64 0,.int .i64 0,.int .i64 0,(.str []),.nilSlice,.nilSlice,.nilSlice] f2 (fun (f6:TV) f1=>CallT PR BL [f6,(.agg (cV d3 d9 e6 d2 e5 c8 d5 d7 f0 d6 c7 e4 e2)),l] [.one .tv] f1 (fun (d4:TV) c5=>(I3 d4 ((i64.wrap (s+(1:Int)))) i l n x v o y c5/\M3 d4 ((i64.wrap (s+(1:Int)))) i l n x v o y c5<M3 p s i l n x v o y r))))))))))) ((I2 p ((i64.wrap (v+(1:Int)))) i n x r/\M2 p ((i64.wrap (v+(1:Int)))) i n x r<M2 d j b g m u))))) ((I2 d ((i64.wrap (j+(1:Int)))) b g m z/\M2 d ((i64.wrap (j+(1:Int)))) b g m z<M2 d j b g m u))))))))))) (K d u))))))):CallT PR BL [out,(.agg (cV v_0 e g n o v_5 v_6 v_7 v_8 v_9 v_10 v_11 v_12)),keys] [.one .tv] st K:=
 Ae (cfg:=⟨[4,8,10,13],[],[]⟩) (h:=(.seq .none (.seq (.seq .none (.block (.loop ⟨[(0,.tv),(17,.int .i64),(2,.tv),(15,.tv),(16,.int .i64)],[(4,0,0)],[(0,13)],[(0,0,.int .i64),(0,1,.bool),(0,2,.bool),(0,3,.str),(0,4,.int .i64),(0,5,.int .i64),(0,6,.int .i64),(0,7,.int .i64),(0,8,.int .i64),(0,9,.str),(0,10,.tv),(0,11,.tv),(0,12,.tv)]⟩ .none))) (.seq (.seq .none (.block (.loop ⟨[(0,.tv),(45,.int .i64),(2,.tv),(43,.tv),(44,.int .i64)],[],[],[]⟩ (.seq .none (.seq .none (.seq (.block (.seq .none (.seq .none (.seq .none (.cond .none (.seq .none (.cond (.seq .none (.block (.loop ⟨[(0,.tv),(77,.int .i64),(2,.tv),(11,.tv),(43,.tv),(44,.int .i64),(45,.int .i64),(75,.tv),(76,.int .i64)],[],[],[]⟩ .none))) .none))))))) .none)))))) .none)))) mixed (fun _ _=>Tryz.call31 _ _) Tryz.func31 (by kernel_rfl) (by kernel_rfl) h
theorem GQ (v_0:Int) (v_1:Bool) (v_2:Bool) (v_3:B8) (v_4:Int) (v_5:Int) (v_6:Int) (v_7:Int) (v_8:Int) (v_9:B8) (v_10:TV) (v_11:TV) (v_12:TV) (st:St) (K:Int->St->Prop) (h:CallT PR B3 [(.agg (cV v_0 v_1 v_2 v_3 v_4 v_5 v_6 v_7 v_8 v_9 v_10 v_11 v_12)),.int .i64 1,.int .i64 0] [.one (.int .i64),.one (.int .i64)] st (fun (n1 n2:Int) a=>K n2 a)):CallT PR BQ [(.agg (cV v_0 v_1 v_2 v_3 v_4 v_5 v_6 v_7 v_8 v_9 v_10 v_11 v_12))] [.one (.int .i64)] st K:=
 Ae (cfg:=⟨[1],[],[]⟩) (h:= .none) mixed (fun _ _=>Tryz.call32 _ _) Tryz.func32 (by kernel_rfl) (by kernel_rfl) h
theorem G2 (v_0:Int) (v_1:Bool) (v_2:Bool) (v_3:B8) (v_4:Int) (v_5:Int) (v_6:Int) (v_7:Int) (v_8:Int) (v_9:B8) (v_10:TV) (v_11:TV) (v_12:TV) (keys:TV) (st:St) (K:TV->St->Prop) (h:∃(I1:TV->Int->TV->V13 (St->Prop)) (M1:TV->Int->TV->V13 (St->Nat)),(I1 .nilSlice 0 keys v_0 v_1 v_2 v_3 v_4 v_5 v_6 v_7 v_8 v_9 v_10 v_11 v_12 st)/\∀b f a n1 b1 b2 s1 n2 n3 n4 n5 n6 s2 v1 v2 v3 o,I1 b f a n1 b1 b2 s1 n2 n3 n4 n5 n6 s2 v1 v2 v3 o->(need (isSl v3) (BId (f<(lenS v3:Int)) (((0<=f/\f<(lenZ 14 v3:Int))/\Ai ((Al o [] (.t (ixT 14 v3 f.toNat)) 0 14).map TV.agg) (fun (x1:TV)=>Cd [.str,.int .i64,.bool,.bool,.str,.int .i64,.int .i64,.int .i64,.int .i64,.int .i64,.str,.tv,.tv,.tv] x1 (fun (s3:B8) (n7:Int) (b3 b4:Bool) (s4:B8) (n8 n9 j1 j0 i6:Int) (s5:B8) (v4 v5 v6:TV)=>need (List.all [.str s3,.int .i64 n7,.bool b3,.bool b4,.str s4,.int .i64 n8,.int .i64 n9,.int .i64 j1,.int .i64 j0,.int .i64 i6,.str s5,v4,v5,v6] Aq) (BId (n7≠7) (CallT PR Bn [(.agg (cV n7 b3 b4 s4 n8 n9 j1 j0 i6 s5 v4 v5 v6))] [.one .bool] o (fun (b5:Bool) i8=>BIf (!b5) (CallT PR Bp [(.agg (cV n7 b3 b4 s4 n8 n9 j1 j0 i6 s5 v4 v5 v6))] [sV] i8 (fun (k8:Int) (b6 b7:Bool) (s6:B8) (k4 j9 k5 k1 j7:Int) (s7:B8) (v7 v8 v9:TV) m2=>need (List.all [.bool false,.bool false,(.list 1 .full 1 [.str s3]),.int .i64 k8,.bool b6,.bool b7,.str s6,.int .i64 k4,.int .i64 j9,.int .i64 k5,.int .i64 k1,.int .i64 j7,.str s7,v7,v8,v9] Aq) (Bl 60 16 200 b 1 [.bool false,.bool false,(.list 1 .full 1 [.str s3]),.int .i64 k8,.bool b6,.bool b7,.str s6,.int .i64 k4,.int .i64 j9,.int .i64 k5,.int .i64 k1,.int .i64 j7,.str s7,v7,v8,v9] m2 (fun (k2:TV) j8=>(I1 k2 ((i64.wrap (f+(1:Int)))) a n1 b1 b2 s1 n2 n3 n4 n5 n6 s2 v1 v2 v3 j8/\M1 k2 ((i64.wrap (f+(1:Int)))) a n1 b1 b2 s1 n2 n3 n4 n5 n6 s2 v1 v2 v3 j8<M1 b f a n1 b1 b2 s1 n2 n3 n4 n5 n6 s2 v1 v2 v3 o))))) ((I1 b ((i64.wrap (f+(1:Int)))) a n1 b1 b2 s1 n2 n3 n4 n5 n6 s2 v1 v2 v3 i8/\M1 b ((i64.wrap (f+(1:Int)))) a n1 b1 b2 s1 n2 n3 n4 n5 n6 s2 v1 v2 v3 i8<M1 b f a n1 b1 b2 s1 n2 n3 n4 n5 n6 s2 v1 v2 v3 o)))) ((I1 b ((i64.wrap (f+(1:Int)))) a n1 b1 b2 s1 n2 n3 n4 n5 n6 s2 v1 v2 v3 o/\M1 b ((i64.wrap (f+(1:Int)))) a n1 b1 b2 s1 n2 n3 n4 n5 n6 s2 v1 v2 v3 o<M1 b f a n1 b1 b2 s1 n2 n3 n4 n5 n6 s2 v1 v2 v3 o))))))) (∃(I2:TV->Int->TV->V13 (St->Prop)) (M2:TV->Int->TV->V13 (St->Nat)),(I2 b 0 a n1 b1 b2 s1 n2 n3 n4 n5 n6 s2 v1 v2 v3 o)/\∀g n d d3 b8 b9 s8 d2 d5 d9 d4 d6 s9 d8 e0 m p,I2 g n d d3 b8 b9 s8 d2 d5 d9 d4 d6 s9 d8 e0 m p->(need (isSl m) (BId (n<(lenS m:Int)) (((0<=n/\n<(lenZ 14 m:Int))/\Ai ((Al p [] (.t (ixT 14 m n.toNat)) 0 14).map TV.agg) (fun (x2:TV)=>Cd [.str,.int .i64,.bool,.bool,.str,.int .i64,.int .i64,.int .i64,.int .i64,.int .i64,.str,.tv,.tv,.tv] x2 (fun (h1:B8) (g4:Int) (h6 i3:Bool) (h5:B8) (h9 h4 i1 i2 i0:Int) (h7:B8) (h3 h0 h8:TV)=>need (List.all [.str h1,.int .i64 g4,.bool h6,.bool i3,.str h5,.int .i64 h9,.int .i64 h4,.int .i64 i1,.int .i64 i2,.int .i64 i0,.str h7,h3,h0,h8] Aq) (Ai (BV p 1 d) (fun (q6:Nat×List TV)=>need (List.all q6.2 Aq) (Bl 9 1 16 (.list 1 .full 0 []) q6.1 q6.2 p (fun (l4:TV) l2=>Bl 9 1 16 l4 1 [.str h1] l2 (fun (e2:TV) k0=>BId (g4=7) (need (List.all [e2] Aq) (need (List.all [.bool true,.bool false,e2,.int .i64 0,.bool false,.bool false,(.str []),.int .i64 0,.int .i64 0,.int .i64 0,.int .i64 0,.int .i64 0,(.str []),.nilSlice,.nilSlice,.nilSlice] Aq) (Bl 60 16 200 g 1 [.bool true,.bool false,e2,.int .i64 0,.bool false,.bool false,(.str []),.int .i64 0,.int .i64 0,.int .i64 0,.int .i64 0,.int .i64 0,(.str []),.nilSlice,.nilSlice,.nilSlice] k0 (fun (o0:TV) p9=>CallT PR A4 [(.agg (cV g4 h6 i3 h5 h9 h4 i1 i2 i0 h7 h3 h0 h8)),e2] [.one .tv] p9 (fun (p7:TV) k7=>Ai (BV k7 16 p7) (fun (q3:Nat×List TV)=>need (List.all q3.2 Aq) (Bl 60 16 200 o0 q3.1 q3.2 k7 (fun (o5:TV) k9=>∃(I3:TV->Int->TV->Int->TV->V13 (B8->V13 (St->Prop))) (M3:TV->Int->TV->Int->TV->V13 (B8->V13 (St->Nat))),(I3 o5 0 d n e2 d3 b8 b9 s8 d2 d5 d9 d4 d6 s9 d8 e0 m h1 g4 h6 i3 h5 h9 h4 i1 i2 i0 h7 h3 h0 h8 k9)/\∀k c4 e a0 j c9 d0 a7 c1 c5 a8 c7 u v x a4 c6 c3 i4 e8 f4 g1 e9 f6 f5 g2 g3 g6 f1 e5 r g8 e1,I3 k c4 e a0 j c9 d0 a7 c1 c5 a8 c7 u v x a4 c6 c3 i4 e8 f4 g1 e9 f6 f5 g2 g3 g6 f1 e5 r g8 e1->(need (isSl r) (BId (c4<(lenS r:Int)) (CallT PR Bn [(.agg (cV e8 f4 g1 e9 f6 f5 g2 g3 g6 f1 e5 r g8))] [.one .bool] e1 (fun (o9:Bool) e3=>BIf o9 (Ai (BV e3 1 j) (fun (q2:Nat×List TV)=>need (List.all q2.2 Aq) (Bl 9 1 16 (.list 1 .full 0 []) q2.1 q2.2 e3 (fun (i5:TV) l1=>need (List.all [i5] Aq) (need (List.all [.bool true,.bool true,i5,.int .i64 0,.bool false,.bool false,(.str []),.int .i64 0,.int .i64 0,.int .i64 0,.int .i64 0,.int .i64 0,(.str []),.nilSlice,.nilSlice,.nilSlice] Aq) (Bl 60 16 200 k 1 [.bool true,.bool true,i5,.int .i64 0,.bool false,.bool false,(.str []),.int .i64 0,.int .i64 0,.int .i64 0,.int .i64 0,.int .i64 0,(.str []),.nilSlice,.nilSlice,.nilSlice] l1 (fun (p6:TV) j6=>((0<=c4/\c4<(lenZ 13 r:Int))/\Ai ((Al j6 [] (.t (ixT 13 r c4.toNat)) 0 13).map TV.agg) (fun (x3:TV)=>Cd [.int .i64,.bool,.bool,.str,.int .i64,.int .i64,.int .i64,.int .i64,.int .i64,.str,.tv,.tv,.tv] x3 (fun (m7:Int) (l6 m5:Bool) (m4:B8) (p4 m6 o2 o3 p5:Int) (p1:B8) (m0 l7 o7:TV)=>CallT PR A4 [(.agg (cV m7 l6 m5 m4 p4 m6 o2 o3 p5 p1 m0 l7 o7)),j] [.one .tv] j6 (fun (p8:TV) j4=>Ai (BV j4 16 p8) (fun (q1:Nat×List TV)=>need (List.all q1.2 Aq) (Bl 60 16 200 p6 q1.1 q1.2 j4 (fun (k3:TV) i9=>(I3 k3 ((i64.wrap (c4+(1:Int)))) e a0 j c9 d0 a7 c1 c5 a8 c7 u v x a4 c6 c3 i4 e8 f4 g1 e9 f6 f5 g2 g3 g6 f1 e5 r g8 i9/\M3 k3 ((i64.wrap (c4+(1:Int)))) e a0 j c9 d0 a7 c1 c5 a8 c7 u v x a4 c6 c3 i4 e8 f4 g1 e9 f6 f5 g2 g3 g6 f1 e5 r g8 i9<M3 k c4 e a0 j c9 d0 a7 c1 c5 a8 c7 u v x a4 c6 c3 i4 e8 f4 g1 e9 f6 f5 g2 g3 g6 f1 e5 r g8 e1))))))))))))))) ((I2 k ((i64.wrap (a0+(1:Int)))) e c9 d0 a7 c1 c5 a8 c7 u v x a4 c6 c3 e3/\M2 k ((i64.wrap (a0+(1:Int)))) e c9 d0 a7 c1 c5 a8 c7 u v x a4 c6 c3 e3<M2 g n d d3 b8 b9 s8 d2 d5 d9 d4 d6 s9 d8 e0 m p)))) ((I2 k ((i64.wrap (a0+(1:Int)))) e c9 d0 a7 c1 c5 a8 c7 u v x a4 c6 c3 e1/\M2 k ((i64.wrap (a0+(1:Int)))) e c9 d0 a7 c1 c5 a8 c7 u v x a4 c6 c3 e1<M2 g n d d3 b8 b9 s8 d2 d5 d9 d4 d6 s9 d8 e0 m p)))))))))))) (∃(I4:TV->Int->TV->Int->TV->V13 (B8->V13 (St->Prop))) (M4:TV->Int->TV->Int->TV->V13 (B8->V13 (St->Nat))),(I4 g 0 d n e2 d3 b8 b9 s8 d2 d5 d9 d4 d6 s9 d8 e0 m h1 g4 h6 i3 h5 h9 h4 i1 i2 i0 h7 h3 h0 h8 k0)/\∀l c0 c a1 i y a9 w d1 a3 z a2 c2 c8 b0 s a5 a6 h2 f3 f0 f9 g0 e6 e7 f7 g7 f2 g9 g5 q f8 d7,I4 l c0 c a1 i y a9 w d1 a3 z a2 c2 c8 b0 s a5 a6 h2 f3 f0 f9 g0 e6 e7 f7 g7 f2 g9 g5 q f8 d7->(need (isSl q) (BId (c0<(lenS q:Int)) (CallT PR Bn [(.agg (cV f3 f0 f9 g0 e6 e7 f7 g7 f2 g9 g5 q f8))] [.one .bool] d7 (fun (o8:Bool) e4=>BIf o8 (Ai (BV e4 1 i) (fun (q5:Nat×List TV)=>need (List.all q5.2 Aq) (Bl 9 1 16 (.list 1 .full 0 []) q5.1 q5.2 e4 (fun (j2:TV) l0=>need (List.all [j2] Aq) (need (List.all [.bool true,.bool true,j2,.int .i64 0,.bool false,.bool false,(.str []),.int .i64 0,.int .i64 0,.int .i64 0,.int .i64 0,.int .i64 0,(.str []),.nilSlice,.nilSlice,.nilSlice] Aq) (Bl 60 16 200 l 1 [.bool true,.bool true,j2,.int .i64 0,.bool false,.bool false,(.str []),.int .i64 0,.int .i64 0,.int .i64 0,.int .i64 0,.int .i64 0,(.str []),.nilSlice,.nilSlice,.nilSlice] l0 (fun (o6:TV) j3=>((0<=c0/\c0<(lenZ 13 q:Int))/\Ai ((Al j3 [] (.t (ixT 13 q c0.toNat)) 0 13).map TV.agg) (fun (x4:TV)=>Cd [.int .i64,.bool,.bool,.str,.int .i64,.int .i64,.int .i64,.int .i64,.int .i64,.str,.tv,.tv,.tv] x4 (fun (l9:Int) (m1 p2:Bool) (o1:B8) (l8 o4 p0 n0 m8:Int) (m3:B8) (m9 p3 l3:TV)=>CallT PR A4 [(.agg (cV l9 m1 p2 o1 l8 o4 p0 n0 m8 m3 m9 p3 l3)),i] [.one .tv] j3 (fun (l5:TV) j5=>Ai (BV j5 16 l5) (fun (q4:Nat×List TV)=>need (List.all q4.2 Aq) (Bl 60 16 200 o6 q4.1 q4.2 j5 (fun (k6:TV) i7=>(I4 k6 ((i64.wrap (c0+(1:Int)))) c a1 i y a9 w d1 a3 z a2 c2 c8 b0 s a5 a6 h2 f3 f0 f9 g0 e6 e7 f7 g7 f2 g9 g5 q f8 i7/\M4 k6 ((i64.wrap (c0+(1:Int)))) c a1 i y a9 w d1 a3 z a2 c2 c8 b0 s a5 a6 h2 f3 f0 f9 g0 e6 e7 f7 g7 f2 g9 g5 q f8 i7<M4 l c0 c a1 i y a9 w d1 a3 z a2 c2 c8 b0 s a5 a6 h2 f3 f0 f9 g0 e6 e7 f7 g7 f2 g9 g5 q f8 d7))))))))))))))) ((I2 l ((i64.wrap (a1+(1:Int)))) c y a9 w d1 a3 z a2 c2 c8 b0 s a5 a6 e4/\M2 l ((i64.wrap (a1+(1:Int)))) c y a9 w d1 a3 z a2 c2 c8 b0 s a5 a6 e4<M2 g n d d3 b8 b9 s8 d2 d5 d9 d4 d6 s9 d8 e0 m p)))) ((I2 l ((i64.wrap (a1+(1:Int)))) c y a9 w d1 a3 z a2 c2 c8 b0 s a5 a6 d7/\M2 l ((i64.wrap (a1+(1:Int)))) c y a9 w d1 a3 z a2 c2 c8 b0 s a5 a6 d7<M2 g n d d3 b8 b9 s8 d2 d5 d9 d4 d6 s9 d8 e0 m p)))))))))))))) (K g p))))))):CallT PR A4 [(.agg (cV v_0 v_1 v_2 v_3 v_4 v_5 v_6 v_7 v_8 v_9 v_10 v_11 v_12)),keys] [.one .tv] st K:=
 Ae (cfg:=⟨[2,7,9],[],[]⟩) (h:=(.seq .none (.seq .none (.seq (.seq .none (.block (.loop ⟨[(5,.tv),(6,.int .i64),(1,.tv)],[(2,0,0)],[(0,13)],[(0,0,.int .i64),(0,1,.bool),(0,2,.bool),(0,3,.str),(0,4,.int .i64),(0,5,.int .i64),(0,6,.int .i64),(0,7,.int .i64),(0,8,.int .i64),(0,9,.str),(0,10,.tv),(0,11,.tv),(0,12,.tv)]⟩ .none))) (.seq (.seq .none (.block (.loop ⟨[(5,.tv),(8,.int .i64),(1,.tv)],[(2,0,0)],[(0,13)],[(0,0,.int .i64),(0,1,.bool),(0,2,.bool),(0,3,.str),(0,4,.int .i64),(0,5,.int .i64),(0,6,.int .i64),(0,7,.int .i64),(0,8,.int .i64),(0,9,.str),(0,10,.tv),(0,11,.tv),(0,12,.tv)]⟩ (.seq .none (.seq (.block (.seq .none (.seq .none (.seq .none (.seq .none (.block (.loop ⟨[(5,.tv),(11,.int .i64),(1,.tv),(8,.int .i64),(10,.tv)],[(2,0,0),(9,2,0)],[(0,13),(2,14)],[(0,0,.int .i64),(0,1,.bool),(0,2,.bool),(0,3,.str),(0,4,.int .i64),(0,5,.int .i64),(0,6,.int .i64),(0,7,.int .i64),(0,8,.int .i64),(0,9,.str),(0,10,.tv),(0,11,.tv),(0,12,.tv),(2,0,.str),(2,1,.int .i64),(2,2,.bool),(2,3,.bool),(2,4,.str),(2,5,.int .i64),(2,6,.int .i64),(2,7,.int .i64),(2,8,.int .i64),(2,9,.int .i64),(2,10,.str),(2,11,.tv),(2,12,.tv),(2,13,.tv)]⟩ .none))))))) .none))))) .none))))) mixed (fun _ _=>Tryz.call33 _ _) Tryz.func33 (by kernel_rfl) (by kernel_rfl) h
theorem Js (v_0:Int) (v_1:Bool) (v_2:Bool) (v_3:B8) (v_4:Int) (v_5:Int) (v_6:Int) (v_7:Int) (v_8:Int) (v_9:B8) (v_10:TV) (v_11:TV) (v_12:TV) (st:St) (K:Bool->St->Prop) (h:BId (v_0=0) (K true st) (BId (v_0=5) (K true st) (CallT PR AC [v_11,(.func Ch [])] [.one .bool] st (fun (b1:Bool) a=>BIf b1 (K true a) (CallT PR AL [v_12,(.func EY [])] [.one .bool] a (fun (b2:Bool) b=>K b2 b)))))):CallT PR Ch [(.agg (cV v_0 v_1 v_2 v_3 v_4 v_5 v_6 v_7 v_8 v_9 v_10 v_11 v_12))] [.one .bool] st K:=
 Ae (cfg:=⟨[1],[],[]⟩) (h:= .none) mixed (fun _ _=>Tryz.call34 _ _) Tryz.func34 (by kernel_rfl) (by kernel_rfl) h
theorem GO (v_0:Int) (v_1:Bool) (v_2:Bool) (v_3:B8) (v_4:Int) (v_5:Int) (v_6:Int) (v_7:Int) (v_8:Int) (v_9:B8) (v_10:TV) (v_11:TV) (v_12:TV) (st:St) (K:Bool->St->Prop) (h:CallT PR B4 [(.agg (cV v_0 v_1 v_2 v_3 v_4 v_5 v_6 v_7 v_8 v_9 v_10 v_11 v_12))] [.one .tv] st (fun (v1:TV) g=>∃(I1:Int->TV->V13 (St->Prop)) (M1:Int->TV->V13 (St->Nat)),(I1 0 v1 v_0 v_1 v_2 v_3 v_4 v_5 v_6 v_7 v_8 v_9 v_10 v_11 v_12 g)/\∀b a n1 b1 b2 s1 n2 n3 n4 n5 n6 s2 v2 v3 v4 c,I1 b a n1 b1 b2 s1 n2 n3 n4 n5 n6 s2 v2 v3 v4 c->(need (isSl a) (BId (b<(lenS a:Int)) (((0<=b/\b<(lenZ 13 a:Int))/\Ai ((Al c [] (.t (ixT 13 a b.toNat)) 0 13).map TV.agg) (fun (x1:TV)=>Cd [.int .i64,.bool,.bool,.str,.int .i64,.int .i64,.int .i64,.int .i64,.int .i64,.str,.tv,.tv,.tv] x1 (fun (n7:Int) (b3 b4:Bool) (s3:B8) (n8 n9 e i f:Int) (s4:B8) (v5 v6 v7:TV)=>CallT PR BP [(.agg (cV n7 b3 b4 s3 n8 n9 e i f s4 v5 v6 v7))] [.one .bool] c (fun (b5:Bool) d=>BIf b5 (K true d) ((I1 ((i64.wrap (b+(1:Int)))) a n1 b1 b2 s1 n2 n3 n4 n5 n6 s2 v2 v3 v4 d/\M1 ((i64.wrap (b+(1:Int)))) a n1 b1 b2 s1 n2 n3 n4 n5 n6 s2 v2 v3 v4 d<M1 b a n1 b1 b2 s1 n2 n3 n4 n5 n6 s2 v2 v3 v4 c))))))) (BId (n1=0) (K true c) (K ((decide (n1=5))) c)))))):CallT PR BP [(.agg (cV v_0 v_1 v_2 v_3 v_4 v_5 v_6 v_7 v_8 v_9 v_10 v_11 v_12))] [.one .bool] st K:=
 Ae (cfg:=⟨[1],[],[]⟩) (h:=(.seq .none (.seq .none (.seq (.seq .none (.block (.loop ⟨[(4,.int .i64),(3,.tv)],[(1,0,0)],[(0,13)],[(0,0,.int .i64),(0,1,.bool),(0,2,.bool),(0,3,.str),(0,4,.int .i64),(0,5,.int .i64),(0,6,.int .i64),(0,7,.int .i64),(0,8,.int .i64),(0,9,.str),(0,10,.tv),(0,11,.tv),(0,12,.tv)]⟩ .none))) .none)))) mixed (fun _ _=>Tryz.call35 _ _) Tryz.func35 (by kernel_rfl) (by kernel_rfl) h
theorem Gk (st:St) (K:V13 (St->Prop)) (h:K 2 false false str5 0 0 0 0 0 [] .nilSlice .nilSlice .nilSlice st):CallT PR DH [] [sV] st K:=
 Ae (cfg:=⟨[0],[],[]⟩) (h:= .none) mixed (fun _ _=>Tryz.call44 _ _) Tryz.func44 (by kernel_rfl) (by kernel_rfl) h
theorem GN (st:St) (K:TV->St->Prop) (h:need (List.all [(.map st.nb)] Aq) (CallT PR Ax [(.box (st.push (.pmap []) none).nb 0),.int .i64 1] [.one .tv] ((st.push (.pmap []) none).push (.cells [.nilPtr,.nilPtr,(.map st.nb),.int .i64 0]) (some 74)) (fun (v1:TV) c=>need (List.all [v1] Aq) (stB c (.box (st.push (.pmap []) none).nb 0) [v1] (fun a=>Ai (Ac a [] (.t (.box (st.push (.pmap []) none).nb 0)) 0) (fun (v2:TV)=>need (List.all [v2] Aq) (stB a (.box (st.push (.pmap []) none).nb 1) [v2] (fun b=>K ((.box (st.push (.pmap []) none).nb 0)) b)))))))):CallT PR CA [] [.one .tv] st K:=
 Ae (cfg:=⟨[],[],[]⟩) (h:= .none) mixed (fun _ _=>Tryz.call45 _ _) Tryz.func45 (by kernel_rfl) (by kernel_rfl) h
theorem Fc (b:Nat) (a_0:Bool) (a_1:Bool) (a_2:TV) (a_3:Int) (a_4:Bool) (a_5:Bool) (a_6:B8) (a_7:Int) (a_8:Int) (a_9:Int) (a_10:Int) (a_11:Int) (a_12:B8) (a_13:TV) (a_14:TV) (a_15:TV) (atx:Int) (st:St) (K:Int->St->Prop) (h:CallT PR CI [(.agg [.bool a_0,.bool a_1,a_2,.int .i64 a_3,.bool a_4,.bool a_5,.str a_6,.int .i64 a_7,.int .i64 a_8,.int .i64 a_9,.int .i64 a_10,.int .i64 a_11,.str a_12,a_13,a_14,a_15])] [.one .bool] st (fun (b1:Bool) i=>BIf (!b1) (K 1 i) (Ai (Ac i [] (.t (.box b 1)) 0) (fun (v1:TV)=>∃(C1:TV->TV->Int->Bool->Bool->TV->V13 (St->Prop)),(BIf a_0 (Ai (Ac i [] (.t (.box b 0)) 0) (fun (v2:TV)=>C1 v2 ((.box b 0)) atx a_0 a_1 a_2 a_3 a_4 a_5 a_6 a_7 a_8 a_9 a_10 a_11 a_12 a_13 a_14 a_15 i)) (C1 v1 ((.box b 0)) atx a_0 a_1 a_2 a_3 a_4 a_5 a_6 a_7 a_8 a_9 a_10 a_11 a_12 a_13 a_14 a_15 i))/\∀j a p b2 b3 v3 n1 b4 b5 s1 n2 n3 n4 n5 n6 s2 v4 v5 v6 r,C1 j a p b2 b3 v3 n1 b4 b5 s1 n2 n3 n4 n5 n6 s2 v4 v5 v6 r->(CallT PR B7 [a,j,(.agg [.bool b2,.bool b3,v3,.int .i64 n1,.bool b4,.bool b5,.str s1,.int .i64 n2,.int .i64 n3,.int .i64 n4,.int .i64 n5,.int .i64 n6,.str s2,v4,v5,v6])] [.one .tv,.one .bool] r (fun (v7:TV) (b6:Bool) c=>BIf (!b6) (K 8 c) (need (isSl v3) (((0<=(i64.wrap ((lenS v3:Int)-(1:Int)))/\(i64.wrap ((lenS v3:Int)-(1:Int)))<(lenZ 1 v3:Int))/\Ai (Ac c [] (.t (ixT 1 v3 (Int.toNat (i64.wrap ((lenS v3:Int)-(1:Int)))))) 0) (fun (x3:TV)=>AS .str x3 (fun (s3:B8)=>need (isPtr v7) (need (isPtr v7) (Ai (Ac c [] (.t (Au v7 2)) 0) (fun (x4:TV)=>AS (.int .i64) x4 (fun (n7:Int)=>BIf b3 (CallT PR BM [a,v7,.str s3] [.one (.int .i64)] c (fun (n8:Int) f=>BId (n8≠0) (K n8 f) (BId ((48:Int)<(i64.wrap (n7+(2:Int)))) (need (isPtr a) (need (isPtr a) (Ai (Ac f [] (.t (Au a 0)) 0) (fun (v8:TV)=>CallT PR Ak [a,v8] [sV] f (fun (n9:Int) (b7 b8:Bool) (s4:B8) (k7 i9 c4 o5 j2:Int) (s5:B8) (v9 j0 p4:TV) h1=>CallT PR AB [(.agg (cV n9 b7 b8 s4 k7 i9 c4 o5 j2 s5 v9 j0 p4))] [.one (.int .i64)] h1 (fun (g7:Int) c8=>K g7 c8)))))) (need (isPtr a) (need (isPtr a) (Ai (Ac f [] (.t (Au a 3)) 0) (fun (x6:TV)=>AS (.int .i64) x6 (fun (k1:Int)=>BId ((65536:Int)<k1) (need (isPtr a) (need (isPtr a) (Ai (Ac f [] (.t (Au a 0)) 0) (fun (q7:TV)=>CallT PR Ak [a,q7] [sV] f (fun (i1:Int) (b9 k2:Bool) (s6:B8) (c3 h3 f9 o9 p7:Int) (s7:B8) (k4 f7 c6:TV) h4=>CallT PR AB [(.agg (cV i1 b9 k2 s6 c3 h3 f9 o9 p7 s7 k4 f7 c6))] [.one (.int .i64)] h4 (fun (l6:Int) t4=>K l6 t4)))))) (CallT PR Av [v3,(.func Bc [])] [.one .bool] f (fun (q4:Bool) o=>BIf q4 (need (isPtr a) (need (isPtr a) (Ai (Ac o [] (.t (Au a 0)) 0) (fun (m5:TV)=>CallT PR Ak [a,m5] [sV] o (fun (p0:Int) (r8 l0:Bool) (s8:B8) (p6 n0 g5 q1 q2:Int) (s9:B8) (d8 l7 j8:TV) v=>CallT PR AB [(.agg (cV p0 r8 l0 s8 p6 n0 g5 q1 q2 s9 d8 l7 j8))] [.one (.int .i64)] v (fun (o6:Int) c0=>K o6 c0)))))) (K 0 o))))))))))) (BIf b2 (CallT PR BS [a,v7,.str s3] [.one (.int .i64)] c (fun (u:Int) d=>BId (u≠0) (K u d) (BId ((48:Int)<(i64.wrap (n7+(2:Int)))) (need (isPtr a) (need (isPtr a) (Ai (Ac d [] (.t (Au a 0)) 0) (fun (r5:TV)=>CallT PR Ak [a,r5] [sV] d (fun (q5:Int) (h9 k9:Bool) (d2:B8) (l1 r6 c7 d0 e8:Int) (g8:B8) (m2 i3 r1:TV) a4=>CallT PR AB [(.agg (cV q5 h9 k9 d2 l1 r6 c7 d0 e8 g8 m2 i3 r1))] [.one (.int .i64)] a4 (fun (j5:Int) a9=>K j5 a9)))))) (need (isPtr a) (need (isPtr a) (Ai (Ac d [] (.t (Au a 3)) 0) (fun (l4:TV)=>AS (.int .i64) l4 (fun (i2:Int)=>BId ((65536:Int)<i2) (need (isPtr a) (need (isPtr a) (Ai (Ac d [] (.t (Au a 0)) 0) (fun (q0:TV)=>CallT PR Ak [a,q0] [sV] d (fun (l2:Int) (m9 e9:Bool) (k8:B8) (o7 q6 i0 q3 h6:Int) (o0:B8) (c1 r9 r0:TV) a6=>CallT PR AB [(.agg (cV l2 m9 e9 k8 o7 q6 i0 q3 h6 o0 c1 r9 r0))] [.one (.int .i64)] a6 (fun (k3:Int) y=>K k3 y)))))) (CallT PR Av [v3,(.func Bc [])] [.one .bool] d (fun (h7:Bool) l=>BIf h7 (need (isPtr a) (need (isPtr a) (Ai (Ac l [] (.t (Au a 0)) 0) (fun (c2:TV)=>CallT PR Ak [a,c2] [sV] l (fun (l3:Int) (l8 d4:Bool) (d6:B8) (r2 e2 h2 e3 g6:Int) (s0:B8) (r4 g0 f6:TV) a8=>CallT PR AB [(.agg (cV l3 l8 d4 d6 r2 e2 h2 e3 g6 s0 r4 g0 f6))] [.one (.int .i64)] a8 (fun (p8:Int) a2=>K p8 a2)))))) (K 0 l))))))))))) (need (isPtr v7) (need (isPtr v7) (Ai (Ac c [] (.t (Au v7 1)) 0) (fun (m7:TV)=>Ai (Et c m7) (fun (es1:List (B8×TV))=>need (FC (At .nilPtr (Aw s3 es1))) (BIf (!CP (At .nilPtr (Aw s3 es1))) (K 8 c) (CallT PR AJ [v7,.str s3,(.box c.nb 0)] [] (c.push (.cells [.nilPtr,.nilSlice,.int .i64 n1,.bool b4,.bool b5,.str s1,.int .i64 n2,.int .i64 n3,.int .i64 n4,.int .i64 n5,.int .i64 n6,.str s2,v4,v5,v6,.int .i64 p]) (some 92)) (fun (a5:St)=>CallT PR AB [(.agg (cV n1 b4 b5 s1 n2 n3 n4 n5 n6 s2 v4 v5 v6))] [.one (.int .i64)] a5 (fun (r7:Int) g=>BId (r7≠0) (need (isPtr a) (need (isPtr a) (Ai (Ac g [] (.t (Au a 0)) 0) (fun (t3:TV)=>CallT PR Ak [a,t3] [sV] g (fun (h5:Int) (f2 k5:Bool) (f0:B8) (d7 e5 j7 q8 h0:Int) (f3:B8) (j1 c5 i5:TV) x=>CallT PR AB [(.agg (cV h5 f2 k5 f0 d7 e5 j7 q8 h0 f3 j1 c5 i5))] [.one (.int .i64)] x (fun (f8:Int) z=>K f8 z)))))) (need (isPtr a) (need (isPtr a) (Ai (Ac g [] (.t (Au a 3)) 0) (fun (t0:TV)=>AS (.int .i64) t0 (fun (q:Int)=>CallT PR FG [(.agg (cV n1 b4 b5 s1 n2 n3 n4 n5 n6 s2 v4 v5 v6))] [.one (.int .i64)] g (fun (l9:Int) m=>(Ac m [] (.t (Au a 3)) 0=some (.int .i64 q)/\need (isPtr a) (need (isPtr a) (stB m (Au a 3) [(.int .i64 (i64.wrap (q+l9)))] (fun n=>need (isPtr v7) (need (isPtr v7) (Ai (Ac n [] (.t (Au v7 2)) 0) (fun (d9:TV)=>AS (.int .i64) d9 (fun (s:Int)=>CallT PR EX [(.agg (cV n1 b4 b5 s1 n2 n3 n4 n5 n6 s2 v4 v5 v6))] [.one (.int .i64)] n (fun (j6:Int) e=>(Ac e [] (.t (Au v7 2)) 0=some (.int .i64 s)/\BId ((48:Int)<(i64.wrap (s+j6))) (need (isPtr a) (need (isPtr a) (Ai (Ac e [] (.t (Au a 0)) 0) (fun (i6:TV)=>CallT PR Ak [a,i6] [sV] e (fun (i7:Int) (m8 g2:Bool) (g3:B8) (g4 e7 p1 m6 r3:Int) (o4:B8) (p9 q9 k0:TV) a7=>CallT PR AB [(.agg (cV i7 m8 g2 g3 g4 e7 p1 m6 r3 o4 p9 q9 k0))] [.one (.int .i64)] a7 (fun (d5:Int) b0=>K d5 b0)))))) (need (isPtr a) (need (isPtr a) (Ai (Ac e [] (.t (Au a 3)) 0) (fun (e4:TV)=>AS (.int .i64) e4 (fun (e6:Int)=>BId ((65536:Int)<e6) (need (isPtr a) (need (isPtr a) (Ai (Ac e [] (.t (Au a 0)) 0) (fun (o2:TV)=>CallT PR Ak [a,o2] [sV] e (fun (j4:Int) (p2 i4:Bool) (t2:B8) (h8 o1 j3 p3 e0:Int) (m3:B8) (m4 i8 p5:TV) w=>CallT PR AB [(.agg (cV j4 p2 i4 t2 h8 o1 j3 p3 e0 m3 m4 i8 p5))] [.one (.int .i64)] w (fun (d1:Int) a3=>K d1 a3)))))) (CallT PR Av [v3,(.func Bc [])] [.one .bool] e (fun (o8:Bool) k=>BIf o8 (need (isPtr a) (need (isPtr a) (Ai (Ac k [] (.t (Au a 0)) 0) (fun (d3:TV)=>CallT PR Ak [a,d3] [sV] k (fun (m0:Int) (f5 g9:Bool) (f4:B8) (o3 j9 c9 t1 f1:Int) (k6:B8) (e1 l5 g1:TV) a1=>CallT PR AB [(.agg (cV m0 f5 g9 f4 o3 j9 c9 t1 f1 k6 e1 l5 g1))] [.one (.int .i64)] a1 (fun (m1:Int) a0=>K m1 a0)))))) (K 0 k))))))))))))))))))))))))))))))))))))))))))))))))):CallT PR BT [(.box b 0),(.agg [.bool a_0,.bool a_1,a_2,.int .i64 a_3,.bool a_4,.bool a_5,.str a_6,.int .i64 a_7,.int .i64 a_8,.int .i64 a_9,.int .i64 a_10,.int .i64 a_11,.str a_12,a_13,a_14,a_15]),.int .i64 atx] [.one (.int .i64)] st K:=
 Ae (cfg:=⟨[4],[],[71,81]⟩) (h:=(.seq .none (.seq .none (.seq .none (.cut ⟨[(7,.tv),(0,.tv),(2,.int .i64)],[(4,0,0)],[(0,16)],[(0,0,.bool),(0,1,.bool),(0,2,.tv),(0,3,.int .i64),(0,4,.bool),(0,5,.bool),(0,6,.str),(0,7,.int .i64),(0,8,.int .i64),(0,9,.int .i64),(0,10,.int .i64),(0,11,.int .i64),(0,12,.str),(0,13,.tv),(0,14,.tv),(0,15,.tv)]⟩ .none .none))))) mixed (fun _ _=>Tryz.call46 _ _) Tryz.func46 (by kernel_rfl) (by kernel_rfl) h
theorem Kg (v_0:Int) (c:Bool) (b:Bool) (v_3:B8) (v_4:Int) (v_5:Int) (v_6:Int) (v_7:Int) (v_8:Int) (v_9:B8) (v_10:TV) (v_11:TV) (v_12:TV) (left:Int) (st:St) (K:V13 (St->Prop)) (h:CallT PR Bv [v_10] [.one .tv] st (fun (v1:TV) c9=>need (List.all [v1] Aq) (BId (left<1) (need (List.all (cV v_0 c b v_3 v_4 v_5 v_6 v_7 v_8 v_9 v1 .nilSlice .nilSlice) Aq) (K v_0 c b v_3 v_4 v_5 v_6 v_7 v_8 v_9 v1 .nilSlice .nilSlice c9)) (need (isSl v_11) (∃(I1:TV->Int->Int->TV->Int->V13 (V13 (St->Prop))) (M1:TV->Int->Int->TV->Int->V13 (V13 (St->Nat))),(I1 .nilSlice 0 left v_11 ((lenS v_11:Int)) v_0 c b v_3 v_4 v_5 v_6 v_7 v_8 v_9 v1 v_11 v_12 0 false false [] 0 0 0 0 0 [] .nilSlice .nilSlice .nilSlice c9)/\∀a9 f a c z n1 b1 b2 s1 n2 n3 n4 n5 n6 s2 v2 v3 v4 n7 b3 b4 s3 n8 n9 x w s s4 v5 v6 v7 u,I1 a9 f a c z n1 b1 b2 s1 n2 n3 n4 n5 n6 s2 v2 v3 v4 n7 b3 b4 s3 n8 n9 x w s s4 v5 v6 v7 u->(BId (f<z) (((0<=f/\f<(lenZ 13 c:Int))/\Ai ((Al u [] (.t (ixT 13 c f.toNat)) 0 13).map TV.agg) (fun (x1:TV)=>Cd [.int .i64,.bool,.bool,.str,.int .i64,.int .i64,.int .i64,.int .i64,.int .i64,.str,.tv,.tv,.tv] x1 (fun (f8:Int) (b5 b6:Bool) (s5:B8) (e6 d6 e8 e2 c7:Int) (s6:B8) (v8 v9 e5:TV)=>need (List.all (cV f8 b5 b6 s5 e6 d6 e8 e2 c7 s6 v8 v9 e5) Aq) (CallT PR Cu [(.agg (cV f8 b5 b6 s5 e6 d6 e8 e2 c7 s6 v8 v9 e5)),(.int .i64 (i64.wrap (a-(1:Int))))] [sV] u (fun (d7:Int) (b7 b8:Bool) (s7:B8) (d5 g0 g3 f5 g1:Int) (s8:B8) (g2 g7 f0:TV) h4=>need (List.all (cV d7 b7 b8 s7 d5 g0 g3 f5 g1 s8 g2 g7 f0) Aq) (Jo 33 13 168 a9 1 (cV d7 b7 b8 s7 d5 g0 g3 f5 g1 s8 g2 g7 f0) h4 (fun (d4:TV) d2=>(I1 d4 ((i64.wrap (f+(1:Int)))) a c z n1 b1 b2 s1 n2 n3 n4 n5 n6 s2 v2 v3 v4 n7 b3 b4 s3 n8 n9 x w s s4 v5 v6 v7 d2/\M1 d4 ((i64.wrap (f+(1:Int)))) a c z n1 b1 b2 s1 n2 n3 n4 n5 n6 s2 v2 v3 v4 n7 b3 b4 s3 n8 n9 x w s s4 v5 v6 v7 d2<M1 a9 f a c z n1 b1 b2 s1 n2 n3 n4 n5 n6 s2 v2 v3 v4 n7 b3 b4 s3 n8 n9 x w s s4 v5 v6 v7 u))))))))) (need (isSl v4) (∃(I2:TV->Int->Int->TV->TV->Int->V13 (V13 (St->Prop))) (M2:TV->Int->Int->TV->TV->Int->V13 (V13 (St->Nat))),(I2 .nilSlice 0 a a9 v4 ((lenS v4:Int)) n1 b1 b2 s1 n2 n3 n4 n5 n6 s2 v2 v3 v4 n7 b3 b4 s3 n8 n9 x w s s4 v5 v6 v7 u)/\∀k e d g b y p b9 m s9 n l q r o j i a8 a2 c3 b0 c4 a3 c0 a6 c2 a0 a1 a5 a7 a4 c1 v,I2 k e d g b y p b9 m s9 n l q r o j i a8 a2 c3 b0 c4 a3 c0 a6 c2 a0 a1 a5 a7 a4 c1 v->(BId (e<y) (((0<=e/\e<(lenZ 14 b:Int))/\Ai ((Al v [] (.t (ixT 14 b e.toNat)) 0 14).map TV.agg) (fun (x2:TV)=>Cd [.str,.int .i64,.bool,.bool,.str,.int .i64,.int .i64,.int .i64,.int .i64,.int .i64,.str,.tv,.tv,.tv] x2 (fun (c5:B8) (d0:Int) (f2 e0:Bool) (c8:B8) (e7 e3 f3 f9 g6:Int) (h2:B8) (f6 e4 g9:TV)=>need (List.all [.str c5,.int .i64 d0,.bool f2,.bool e0,.str c8,.int .i64 e7,.int .i64 e3,.int .i64 f3,.int .i64 f9,.int .i64 g6,.str h2,f6,e4,g9] Aq) (CallT PR Cu [(.agg (cV d0 f2 e0 c8 e7 e3 f3 f9 g6 h2 f6 e4 g9)),(.int .i64 (i64.wrap (d-(1:Int))))] [sV] v (fun (e1:Int) (f1 f7:Bool) (d1:B8) (g5 d9 e9 f4 h0:Int) (d3:B8) (g4 c6 h1:TV) h3=>need (List.all [.str c5,.int .i64 e1,.bool f1,.bool f7,.str d1,.int .i64 g5,.int .i64 d9,.int .i64 e9,.int .i64 f4,.int .i64 h0,.str d3,g4,c6,h1] Aq) (Jo 65 14 184 k 1 [.str c5,.int .i64 e1,.bool f1,.bool f7,.str d1,.int .i64 g5,.int .i64 d9,.int .i64 e9,.int .i64 f4,.int .i64 h0,.str d3,g4,c6,h1] h3 (fun (g8:TV) d8=>(I2 g8 ((i64.wrap (e+(1:Int)))) d g b y p b9 m s9 n l q r o j i a8 a2 c3 b0 c4 a3 c0 a6 c2 a0 a1 a5 a7 a4 c1 d8/\M2 g8 ((i64.wrap (e+(1:Int)))) d g b y p b9 m s9 n l q r o j i a8 a2 c3 b0 c4 a3 c0 a6 c2 a0 a1 a5 a7 a4 c1 d8<M2 k e d g b y p b9 m s9 n l q r o j i a8 a2 c3 b0 c4 a3 c0 a6 c2 a0 a1 a5 a7 a4 c1 v))))))))) (need (List.all [g] Aq) (need (List.all [k] Aq) (need (List.all (cV p b9 m s9 n l q r o j i g k) Aq) (K p b9 m s9 n l q r o j i g k v))))))))))))):CallT PR Cu [(.agg (cV v_0 c b v_3 v_4 v_5 v_6 v_7 v_8 v_9 v_10 v_11 v_12)),.int .i64 left] [sV] st K:=
 Ae (cfg:=⟨[2,4,7,10],[33,52],[]⟩) (h:=(.seq .none (.seq .none (.seq .none (.seq .none (.seq (.seq .none (.block (.loop ⟨[(5,.tv),(23,.int .i64),(1,.int .i64),(21,.tv),(22,.int .i64)],[(2,0,0),(4,1,0)],[(0,13),(1,13)],[(0,0,.int .i64),(0,1,.bool),(0,2,.bool),(0,3,.str),(0,4,.int .i64),(0,5,.int .i64),(0,6,.int .i64),(0,7,.int .i64),(0,8,.int .i64),(0,9,.str),(0,10,.tv),(0,11,.tv),(0,12,.tv),(1,0,.int .i64),(1,1,.bool),(1,2,.bool),(1,3,.str),(1,4,.int .i64),(1,5,.int .i64),(1,6,.int .i64),(1,7,.int .i64),(1,8,.int .i64),(1,9,.str),(1,10,.tv),(1,11,.tv),(1,12,.tv)]⟩ .none))) (.seq .none (.seq (.seq .none (.block (.loop ⟨[(8,.tv),(38,.int .i64),(1,.int .i64),(5,.tv),(36,.tv),(37,.int .i64)],[(2,0,0),(4,1,0)],[(0,13),(1,13)],[(0,0,.int .i64),(0,1,.bool),(0,2,.bool),(0,3,.str),(0,4,.int .i64),(0,5,.int .i64),(0,6,.int .i64),(0,7,.int .i64),(0,8,.int .i64),(0,9,.str),(0,10,.tv),(0,11,.tv),(0,12,.tv),(1,0,.int .i64),(1,1,.bool),(1,2,.bool),(1,3,.str),(1,4,.int .i64),(1,5,.int .i64),(1,6,.int .i64),(1,7,.int .i64),(1,8,.int .i64),(1,9,.str),(1,10,.tv),(1,11,.tv),(1,12,.tv)]⟩ .none))) .none)))))))) mixed (fun _ _=>Tryz.call47 _ _) Tryz.func47 (by kernel_rfl) (by kernel_rfl) h
theorem KH (v_0:Int) (e:Bool) (d:Bool) (v_3:B8) (v_4:Int) (v_5:Int) (v_6:Int) (v_7:Int) (v_8:Int) (v_9:B8) (v_10:TV) (v_11:TV) (v_12:TV) (depth:Int) (n:Nat) (st:St) (K:Int->St->Prop) (h:Ai (Ac st [] (.t (.box n 0)) 0) (fun (x1:TV)=>AS (.int .i64) x1 (fun (n1:Int)=>stB st (.box n 0) [(.int .i64 (i64.wrap (n1+(1:Int))))] (fun m=>∃(C1:Int->TV->V13 (St->Prop)),(BId ((48:Int)<depth) (K 9 m) (Ai (Ac m [] (.t (.box n 0)) 0) (fun (x2:TV)=>AS (.int .i64) x2 (fun (n2:Int)=>BId ((65536:Int)<n2) (K 10 m) (∃(C2:Bool->Int->TV->V13 (St->Prop)),(BId (v_0<0) (C2 true depth ((.box n 0)) v_0 e d v_3 v_4 v_5 v_6 v_7 v_8 v_9 v_10 v_11 v_12 m) (BId ((8:Int)<=v_0) (C2 true depth ((.box n 0)) v_0 e d v_3 v_4 v_5 v_6 v_7 v_8 v_9 v_10 v_11 v_12 m) (CallT PR EW [(.agg (cV v_0 e d v_3 v_4 v_5 v_6 v_7 v_8 v_9 v_10 v_11 v_12))] [.one .bool] m (fun (b1:Bool) g8=>C2 b1 depth ((.box n 0)) v_0 e d v_3 v_4 v_5 v_6 v_7 v_8 v_9 v_10 v_11 v_12 g8))))/\∀d8 b r n3 b2 b3 s1 n4 n5 n6 n7 n8 s2 v1 v2 v3 s,C2 d8 b r n3 b2 b3 s1 n4 n5 n6 n7 n8 s2 v1 v2 v3 s->(BIf d8 (K 6 s) (∃(C3:Bool->Int->TV->V13 (St->Prop)),(BId (n3=2) (CallT PR D2 [(.agg [.bool b3,.str s1,.int .i64 n4])] [.one .bool] s (fun (b4:Bool) c1=>BIf (!b4) (C3 true b r n3 b2 b3 s1 n4 n5 n6 n7 n8 s2 v1 v2 v3 c1) (BId (n3=3) (CallT PR Do [(.agg [.int .i64 n5,.int .i64 n6,.int .i64 n7,.int .i64 n8])] [.one .bool] c1 (fun (b5:Bool) h0=>C3 ((!b5)) b r n3 b2 b3 s1 n4 n5 n6 n7 n8 s2 v1 v2 v3 h0)) (C3 false b r n3 b2 b3 s1 n4 n5 n6 n7 n8 s2 v1 v2 v3 c1)))) (BId (n3=3) (CallT PR Do [(.agg [.int .i64 n5,.int .i64 n6,.int .i64 n7,.int .i64 n8])] [.one .bool] s (fun (b6:Bool) g7=>C3 ((!b6)) b r n3 b2 b3 s1 n4 n5 n6 n7 n8 s2 v1 v2 v3 g7)) (C3 false b r n3 b2 b3 s1 n4 n5 n6 n7 n8 s2 v1 v2 v3 s)))/\∀g6 f c6 n9 b7 b8 s3 c4 c2 b0 c5 c3 s4 v4 v5 v6 o,C3 g6 f c6 n9 b7 b8 s3 c4 c2 b0 c5 c3 s4 v4 v5 v6 o->(BIf g6 (K 2 o) (BId (n9=4) (CallT PR EE [.str s4] [.one .bool] o (fun (b9:Bool) a9=>BIf (!b9) (K 5 a9) (BId ((65536:Int)<(s4.length:Int)) (K 10 a9) (need (isSl v4) (BId ((65536:Int)<(lenS v4:Int)) (K 10 a9) (C1 f c6 n9 b7 b8 s3 c4 c2 b0 c5 c3 s4 v4 v5 v6 a9)))))) (BId ((65536:Int)<(s4.length:Int)) (K 10 o) (need (isSl v4) (BId ((65536:Int)<(lenS v4:Int)) (K 10 o) (C1 f c6 n9 b7 b8 s3 c4 c2 b0 c5 c3 s4 v4 v5 v6 o)))))))))))))/\∀p e4 d7 e5 g2 s5 e6 e1 c7 d9 d6 s6 v7 v8 v9 f4,C1 p e4 d7 e5 g2 s5 e6 e1 c7 d9 d6 s6 v7 v8 v9 f4->(CallT PR FF [v9] [.one (.int .i64)] f4 (fun (f9:Int) c0=>BId (f9≠0) (K f9 c0) (need (isSl v8) (∃(I1:Int->Int->TV->TV->Int->V13 (St->Prop)) (M1:Int->Int->TV->TV->Int->V13 (St->Nat)),(I1 0 p e4 v8 ((lenS v8:Int)) d7 e5 g2 s5 e6 e1 c7 d9 d6 s6 v7 v8 v9 c0)/\∀i a q e u a7 a8 a1 s7 a2 a4 a6 a3 z s8 a0 a5 k l,I1 i a q e u a7 a8 a1 s7 a2 a4 a6 a3 z s8 a0 a5 k l->(BId (i<u) (((0<=i/\i<(lenZ 13 e:Int))/\Ai ((Al l [] (.t (ixT 13 e i.toNat)) 0 13).map TV.agg) (fun (x3:TV)=>Cd [.int .i64,.bool,.bool,.str,.int .i64,.int .i64,.int .i64,.int .i64,.int .i64,.str,.tv,.tv,.tv] x3 (fun (g0:Int) (e0 e9:Bool) (s9:B8) (g1 f7 g5 g3 f0:Int) (d1:B8) (e7 d5 c9:TV)=>need (List.all (cV g0 e0 e9 s9 g1 f7 g5 g3 f0 d1 e7 d5 c9) Aq) (CallT PR CR [(.agg (cV g0 e0 e9 s9 g1 f7 g5 g3 f0 d1 e7 d5 c9)),(.int .i64 (i64.wrap (a+(1:Int)))),q] [.one (.int .i64)] l (fun (g4:Int) x=>BId (g4≠0) (K g4 x) ((I1 ((i64.wrap (i+(1:Int)))) a q e u a7 a8 a1 s7 a2 a4 a6 a3 z s8 a0 a5 k x/\M1 ((i64.wrap (i+(1:Int)))) a q e u a7 a8 a1 s7 a2 a4 a6 a3 z s8 a0 a5 k x<M1 i a q e u a7 a8 a1 s7 a2 a4 a6 a3 z s8 a0 a5 k l)))))))) (need (isSl k) (∃(I2:Int->Int->TV->TV->Int->St->Prop) (M2:Int->Int->TV->TV->Int->St->Nat),(I2 0 a q k ((lenS k:Int)) l)/\∀g c v d w j,I2 g c v d w j->(BId (g<w) (((0<=g/\g<(lenZ 14 d:Int))/\Ai ((Al j [] (.t (ixT 14 d g.toNat)) 0 14).map TV.agg) (fun (x4:TV)=>Cd [.str,.int .i64,.bool,.bool,.str,.int .i64,.int .i64,.int .i64,.int .i64,.int .i64,.str,.tv,.tv,.tv] x4 (fun (g9:B8) (c8:Int) (f5 d4:Bool) (e8:B8) (d0 d3 e3 e2 f1:Int) (f6:B8) (f3 d2 f2:TV)=>need (List.all [.str g9,.int .i64 c8,.bool f5,.bool d4,.str e8,.int .i64 d0,.int .i64 d3,.int .i64 e3,.int .i64 e2,.int .i64 f1,.str f6,f3,d2,f2] Aq) (CallT PR CR [(.agg (cV c8 f5 d4 e8 d0 d3 e3 e2 f1 f6 f3 d2 f2)),(.int .i64 (i64.wrap (c+(1:Int)))),v] [.one (.int .i64)] j (fun (f8:Int) y=>BId (f8≠0) (K f8 y) ((I2 ((i64.wrap (g+(1:Int)))) c v d w y/\M2 ((i64.wrap (g+(1:Int)))) c v d w y<M2 g c v d w j)))))))) (K 0 j))))))))))))):CallT PR CR [(.agg (cV v_0 e d v_3 v_4 v_5 v_6 v_7 v_8 v_9 v_10 v_11 v_12)),.int .i64 depth,(.box n 0)] [.one (.int .i64)] st K:=
 Ae (cfg:=⟨[3,9,12],[],[]⟩) (h:=(.seq .none (.seq .none (.cut ⟨[(1,.int .i64),(2,.tv)],[(3,0,0)],[(0,13)],[(0,0,.int .i64),(0,1,.bool),(0,2,.bool),(0,3,.str),(0,4,.int .i64),(0,5,.int .i64),(0,6,.int .i64),(0,7,.int .i64),(0,8,.int .i64),(0,9,.str),(0,10,.tv),(0,11,.tv),(0,12,.tv)]⟩ (.block (.seq .none (.cond .none (.seq .none (.cond .none (.cut ⟨[(27,.bool),(1,.int .i64),(2,.tv)],[(3,0,0)],[(0,13)],[(0,0,.int .i64),(0,1,.bool),(0,2,.bool),(0,3,.str),(0,4,.int .i64),(0,5,.int .i64),(0,6,.int .i64),(0,7,.int .i64),(0,8,.int .i64),(0,9,.str),(0,10,.tv),(0,11,.tv),(0,12,.tv)]⟩ .none (.cond .none (.cut ⟨[(40,.bool),(1,.int .i64),(2,.tv)],[(3,0,0)],[(0,13)],[(0,0,.int .i64),(0,1,.bool),(0,2,.bool),(0,3,.str),(0,4,.int .i64),(0,5,.int .i64),(0,6,.int .i64),(0,7,.int .i64),(0,8,.int .i64),(0,9,.str),(0,10,.tv),(0,11,.tv),(0,12,.tv)]⟩ .none .none)))))))) (.seq .none (.seq (.seq .none (.block (.loop ⟨[(91,.int .i64),(1,.int .i64),(2,.tv),(89,.tv),(90,.int .i64)],[(3,0,0)],[(0,13)],[(0,0,.int .i64),(0,1,.bool),(0,2,.bool),(0,3,.str),(0,4,.int .i64),(0,5,.int .i64),(0,6,.int .i64),(0,7,.int .i64),(0,8,.int .i64),(0,9,.str),(0,10,.tv),(0,11,.tv),(0,12,.tv)]⟩ .none))) (.seq (.seq .none (.block (.loop ⟨[(107,.int .i64),(1,.int .i64),(2,.tv),(105,.tv),(106,.int .i64)],[],[],[]⟩ .none))) .none))))))) mixed (fun _ _=>Tryz.call50 _ _) Tryz.func50 (by kernel_rfl) (by kernel_rfl) h
theorem Ki (v_0:Int) (v_1:Bool) (v_2:Bool) (v_3:B8) (v_4:Int) (v_5:Int) (v_6:Int) (v_7:Int) (v_8:Int) (v_9:B8) (v_10:TV) (v_11:TV) (v_12:TV) (st:St) (K:Bool->St->Prop) (h:BId (v_0=6) (need (isSl v_11) (BId ((0:Int)<(lenS v_11:Int)) (CallT PR AC [v_11,(.func Fp [])] [.one .bool] st (fun (b1:Bool) a=>K ((!b1)) a)) (K false st))) (K false st)):CallT PR Dm [(.agg (cV v_0 v_1 v_2 v_3 v_4 v_5 v_6 v_7 v_8 v_9 v_10 v_11 v_12))] [.one .bool] st K:=
 Ae (cfg:=⟨[1],[],[]⟩) (h:= .none) mixed (fun _ _=>Tryz.call51 _ _) Tryz.func51 (by kernel_rfl) (by kernel_rfl) h
theorem DB (s:TV) (st:St) (K:TV->St->Prop) (h:need (isSl s) (BIf (CP s) (K .nilSlice st) (Ai (BV st 1 s) (fun (q1:Nat×List TV)=>need (List.all q1.2 Aq) (Bl 9 1 16 (.list 1 .full 0 []) q1.1 q1.2 st (fun (v1:TV) a=>K v1 a)))))):CallT PR AI [s] [.one .tv] st K:=
 Ae (cfg:=⟨[],[],[]⟩) (h:= .none) mixed (fun _ _=>Tryz.call52 _ _) Tryz.func52 (by kernel_rfl) (by kernel_rfl) h
theorem G6 (v_0:Int) (v_1:Bool) (v_2:Bool) (v_3:B8) (v_4:Int) (v_5:Int) (v_6:Int) (v_7:Int) (v_8:Int) (v_9:B8) (v_10:TV) (v_11:TV) (v_12:TV) (depth:Int) (seen:Int) (st:St) (K:Int->Int->St->Prop) (h:BId ((48:Int)<depth) (K seen 9 st) (BId ((65536:Int)<=seen) (K seen 10 st) (CallT PR Dc [(.agg (cV v_0 v_1 v_2 v_3 v_4 v_5 v_6 v_7 v_8 v_9 v_10 v_11 v_12))] [.one (.int .i64)] st (fun (n1:Int) g=>BId (n1≠0) (K seen n1 g) (CallT PR B4 [(.agg (cV v_0 v_1 v_2 v_3 v_4 v_5 v_6 v_7 v_8 v_9 v_10 v_11 v_12))] [.one .tv] g (fun (v1:TV) i=>∃(I1:Int->Int->Int->TV->St->Prop) (M1:Int->Int->Int->TV->St->Nat),(I1 ((i64.wrap (seen+(1:Int)))) 0 depth v1 i)/\∀b d a c e,I1 b d a c e->(need (isSl c) (BId (d<(lenS c:Int)) (((0<=d/\d<(lenZ 13 c:Int))/\Ai ((Al e [] (.t (ixT 13 c d.toNat)) 0 13).map TV.agg) (fun (x1:TV)=>Cd [.int .i64,.bool,.bool,.str,.int .i64,.int .i64,.int .i64,.int .i64,.int .i64,.str,.tv,.tv,.tv] x1 (fun (n2:Int) (b1 b2:Bool) (s1:B8) (n3 n4 n5 n6 n7:Int) (s2:B8) (v2 v3 v4:TV)=>CallT PR B3 [(.agg (cV n2 b1 b2 s1 n3 n4 n5 n6 n7 s2 v2 v3 v4)),(.int .i64 (i64.wrap (a+(1:Int)))),.int .i64 b] [.one (.int .i64),.one (.int .i64)] e (fun (n8 n9:Int) f=>BId (n9≠0) (K n8 n9 f) ((I1 n8 ((i64.wrap (d+(1:Int)))) a c f/\M1 n8 ((i64.wrap (d+(1:Int)))) a c f<M1 b d a c e))))))) (K b 0 e))))))))):CallT PR B3 [(.agg (cV v_0 v_1 v_2 v_3 v_4 v_5 v_6 v_7 v_8 v_9 v_10 v_11 v_12)),.int .i64 depth,.int .i64 seen] [.one (.int .i64),.one (.int .i64)] st K:=
 Ae (cfg:=⟨[3],[],[]⟩) (h:=(.seq .none (.seq .none (.seq .none (.seq .none (.seq .none (.seq .none (.seq (.seq .none (.block (.loop ⟨[(2,.int .i64),(10,.int .i64),(1,.int .i64),(9,.tv)],[],[],[]⟩ .none))) .none)))))))) mixed (fun _ _=>Tryz.call53 _ _) Tryz.func53 (by kernel_rfl) (by kernel_rfl) h
theorem G1 (v_0:Int) (v_1:Bool) (v_2:Bool) (v_3:B8) (v_4:Int) (v_5:Int) (v_6:Int) (v_7:Int) (v_8:Int) (v_9:B8) (v_10:TV) (v_11:TV) (v_12:TV) (st:St) (K:Bool->St->Prop) (h:∃(I1:Int->V13 (St->Prop)) (M1:Int->V13 (St->Nat)),(I1 0 v_0 v_1 v_2 v_3 v_4 v_5 v_6 v_7 v_8 v_9 v_10 v_11 v_12 st)/\∀a n1 b1 b2 s1 n2 n3 n4 n5 n6 s2 v1 v2 v3 b,I1 a n1 b1 b2 s1 n2 n3 n4 n5 n6 s2 v1 v2 v3 b->(need (isSl v2) (BId (a<(lenS v2:Int)) (((0<=a/\a<(lenZ 13 v2:Int))/\need (isPtr (ixT 13 v2 a.toNat)) (Ai (Ac b [] (.t (Au (ixT 13 v2 a.toNat) 0)) 0) (fun (x1:TV)=>AS (.int .i64) x1 (fun (n7:Int)=>BId (n7≠7) (K false b) ((I1 ((i64.wrap (a+(1:Int)))) n1 b1 b2 s1 n2 n3 n4 n5 n6 s2 v1 v2 v3 b/\M1 ((i64.wrap (a+(1:Int)))) n1 b1 b2 s1 n2 n3 n4 n5 n6 s2 v1 v2 v3 b<M1 a n1 b1 b2 s1 n2 n3 n4 n5 n6 s2 v1 v2 v3 b))))))) (need (isSl v2) (K ((decide ((0:Int)<(lenS v2:Int)))) b))))):CallT PR Bn [(.agg (cV v_0 v_1 v_2 v_3 v_4 v_5 v_6 v_7 v_8 v_9 v_10 v_11 v_12))] [.one .bool] st K:=
 Ae (cfg:=⟨[1],[],[]⟩) (h:=(.seq .none (.seq (.seq .none (.block (.loop ⟨[(3,.int .i64)],[(1,0,0)],[(0,13)],[(0,0,.int .i64),(0,1,.bool),(0,2,.bool),(0,3,.str),(0,4,.int .i64),(0,5,.int .i64),(0,6,.int .i64),(0,7,.int .i64),(0,8,.int .i64),(0,9,.str),(0,10,.tv),(0,11,.tv),(0,12,.tv)]⟩ .none))) .none))) mixed (fun _ _=>Tryz.call54 _ _) Tryz.func54 (by kernel_rfl) (by kernel_rfl) h
theorem Ha (v_0:Int) (v_1:Bool) (v_2:Bool) (v_3:B8) (v_4:Int) (v_5:Int) (v_6:Int) (v_7:Int) (v_8:Int) (v_9:B8) (v_10:TV) (v_11:TV) (v_12:TV) (st:St) (K:V13 (St->Prop)) (h:need (List.all (cV v_0 v_1 v_2 v_3 v_4 v_5 v_6 v_7 v_8 v_9 v_10 v_11 v_12) Aq) (Ai (BV st 1 v_10) (fun (q1:Nat×List TV)=>need (List.all q1.2 Aq) (Bl 5 1 1 (.list 1 .full 0 []) q1.1 q1.2 st (fun (v1:TV) h1=>need (List.all [v1] Aq) (∃(I1:Int->V13 (V13 (V13 (St->Prop)))) (M1:Int->V13 (V13 (V13 (St->Nat)))),(I1 0 v_0 v_1 v_2 v_3 v_4 v_5 v_6 v_7 v_8 v_9 v_10 v_11 v_12 0 false false [] 0 0 0 0 0 [] .nilSlice .nilSlice .nilSlice v_0 v_1 v_2 v_3 v_4 v_5 v_6 v_7 v_8 v_9 v1 .nilSlice .nilSlice h1)/\∀c n1 b1 b2 s1 n2 n3 n4 n5 n6 s2 v2 v3 v4 n7 b3 b4 s3 n8 n9 a1 x s s4 v5 v6 v7 a2 b5 b6 s5 z v a0 w r s6 v8 v9 y u,I1 c n1 b1 b2 s1 n2 n3 n4 n5 n6 s2 v2 v3 v4 n7 b3 b4 s3 n8 n9 a1 x s s4 v5 v6 v7 a2 b5 b6 s5 z v a0 w r s6 v8 v9 y u->(need (isSl v3) (BId (c<(lenS v3:Int)) (((0<=c/\c<(lenZ 13 v3:Int))/\Ai ((Al u [] (.t (ixT 13 v3 c.toNat)) 0 13).map TV.agg) (fun (x1:TV)=>Cd [.int .i64,.bool,.bool,.str,.int .i64,.int .i64,.int .i64,.int .i64,.int .i64,.str,.tv,.tv,.tv] x1 (fun (h8:Int) (b7 b8:Bool) (s7:B8) (h3 i3 i6 i1 i4:Int) (s8:B8) (i5 i8 i0:TV)=>CallT PR Bp [(.agg (cV h8 b7 b8 s7 h3 i3 i6 i1 i4 s8 i5 i8 i0))] [sV] u (fun (g3:Int) (b9 f6:Bool) (s9:B8) (g1 f1 g4 g5 g2:Int) (e3:B8) (e9 e1 f9:TV) h4=>need (List.all (cV g3 b9 f6 s9 g1 f1 g4 g5 g2 e3 e9 e1 f9) Aq) (Bl 33 13 168 v9 1 (cV g3 b9 f6 s9 g1 f1 g4 g5 g2 e3 e9 e1 f9) h4 (fun (d8:TV) e7=>need (List.all [d8] Aq) ((I1 ((i64.wrap (c+(1:Int)))) n1 b1 b2 s1 n2 n3 n4 n5 n6 s2 v2 v3 v4 n7 b3 b4 s3 n8 n9 a1 x s s4 v5 v6 v7 a2 b5 b6 s5 z v a0 w r s6 v8 d8 y e7/\M1 ((i64.wrap (c+(1:Int)))) n1 b1 b2 s1 n2 n3 n4 n5 n6 s2 v2 v3 v4 n7 b3 b4 s3 n8 n9 a1 x s s4 v5 v6 v7 a2 b5 b6 s5 z v a0 w r s6 v8 d8 y e7<M1 c n1 b1 b2 s1 n2 n3 n4 n5 n6 s2 v2 v3 v4 n7 b3 b4 s3 n8 n9 a1 x s s4 v5 v6 v7 a2 b5 b6 s5 z v a0 w r s6 v8 v9 y u))))))))) (∃(I2:Int->V13 (V13 (V13 (St->Prop)))) (M2:Int->V13 (V13 (V13 (St->Nat)))),(I2 0 n1 b1 b2 s1 n2 n3 n4 n5 n6 s2 v2 v3 v4 n7 b3 b4 s3 n8 n9 a1 x s s4 v5 v6 v7 a2 b5 b6 s5 z v a0 w r s6 v8 v9 y u)/\∀a d6 d1 d7 a8 d2 c4 d5 a4 a5 c3 c7 c2 b a7 c5 a9 c9 c1 b0 c6 d0 d3 a6 c8 c0 d4 i k m q o g j l p e n d a3 f,I2 a d6 d1 d7 a8 d2 c4 d5 a4 a5 c3 c7 c2 b a7 c5 a9 c9 c1 b0 c6 d0 d3 a6 c8 c0 d4 i k m q o g j l p e n d a3 f->(need (isSl b) (BId (a<(lenS b:Int)) (((0<=a/\a<(lenZ 14 b:Int))/\need (isPtr (ixT 14 b a.toNat)) (Ai (Ac f [] (.t (Au (ixT 14 b a.toNat) 0)) 0) (fun (x2:TV)=>AS .str x2 (fun (d9:B8)=>((0<=a/\a<(lenZ 14 b:Int))/\need (isPtr (ixT 14 b a.toNat)) (Ai ((Al f [] (.t (Au (ixT 14 b a.toNat) 1)) 0 13).map TV.agg) (fun (x3:TV)=>Cd [.int .i64,.bool,.bool,.str,.int .i64,.int .i64,.int .i64,.int .i64,.int .i64,.str,.tv,.tv,.tv] x3 (fun (g9:Int) (h2 h9:Bool) (h5:B8) (h7 h0 h6 i7 j1:Int) (i2:B8) (i9 g8 j0:TV)=>CallT PR Bp [(.agg (cV g9 h2 h9 h5 h7 h0 h6 i7 j1 i2 i9 g8 j0))] [sV] f (fun (f4:Int) (f7 e4:Bool) (g7:B8) (e5 e6 f5 g6 f2:Int) (f8:B8) (f0 e8 g0:TV) e2=>(Ac e2 [] (.t (Au (ixT 14 b a.toNat) 0)) 0=some (.str d9)/\need (List.all [.str d9,.int .i64 f4,.bool f7,.bool e4,.str g7,.int .i64 e5,.int .i64 e6,.int .i64 f5,.int .i64 g6,.int .i64 f2,.str f8,f0,e8,g0] Aq) (Bl 65 14 184 a3 1 [.str d9,.int .i64 f4,.bool f7,.bool e4,.str g7,.int .i64 e5,.int .i64 e6,.int .i64 f5,.int .i64 g6,.int .i64 f2,.str f8,f0,e8,g0] e2 (fun (e0:TV) f3=>need (List.all [e0] Aq) ((I2 ((i64.wrap (a+(1:Int)))) d6 d1 d7 a8 d2 c4 d5 a4 a5 c3 c7 c2 b a7 c5 a9 c9 c1 b0 c6 d0 d3 a6 c8 c0 d4 i k m q o g j l p e n d e0 f3/\M2 ((i64.wrap (a+(1:Int)))) d6 d1 d7 a8 d2 c4 d5 a4 a5 c3 c7 c2 b a7 c5 a9 c9 c1 b0 c6 d0 d3 a6 c8 c0 d4 i k m q o g j l p e n d e0 f3<M2 a d6 d1 d7 a8 d2 c4 d5 a4 a5 c3 c7 c2 b a7 c5 a9 c9 c1 b0 c6 d0 d3 a6 c8 c0 d4 i k m q o g j l p e n d a3 f))))))))))))))) (need (List.all (cV i k m q o g j l p e n d a3) Aq) (K i k m q o g j l p e n d a3 f))))))))))))):CallT PR Bp [(.agg (cV v_0 v_1 v_2 v_3 v_4 v_5 v_6 v_7 v_8 v_9 v_10 v_11 v_12))] [sV] st K:=
 Ae (cfg:=⟨[1,2,3],[],[27,46,52]⟩) (h:=(.seq .none (.seq .none (.seq .none (.seq .none (.seq .none (.seq (.seq .none (.block (.loop ⟨[(4,.int .i64)],[(1,0,0),(2,1,0),(3,2,0)],[(0,13),(1,13),(2,13)],[(0,0,.int .i64),(0,1,.bool),(0,2,.bool),(0,3,.str),(0,4,.int .i64),(0,5,.int .i64),(0,6,.int .i64),(0,7,.int .i64),(0,8,.int .i64),(0,9,.str),(0,10,.tv),(0,11,.tv),(0,12,.tv),(1,0,.int .i64),(1,1,.bool),(1,2,.bool),(1,3,.str),(1,4,.int .i64),(1,5,.int .i64),(1,6,.int .i64),(1,7,.int .i64),(1,8,.int .i64),(1,9,.str),(1,10,.tv),(1,11,.tv),(1,12,.tv),(2,0,.int .i64),(2,1,.bool),(2,2,.bool),(2,3,.str),(2,4,.int .i64),(2,5,.int .i64),(2,6,.int .i64),(2,7,.int .i64),(2,8,.int .i64),(2,9,.str),(2,10,.tv),(2,11,.tv),(2,12,.tv)]⟩ .none))) (.seq (.seq .none (.block (.loop ⟨[(5,.int .i64)],[(1,0,0),(2,1,0),(3,2,0)],[(0,13),(1,13),(2,13)],[(0,0,.int .i64),(0,1,.bool),(0,2,.bool),(0,3,.str),(0,4,.int .i64),(0,5,.int .i64),(0,6,.int .i64),(0,7,.int .i64),(0,8,.int .i64),(0,9,.str),(0,10,.tv),(0,11,.tv),(0,12,.tv),(1,0,.int .i64),(1,1,.bool),(1,2,.bool),(1,3,.str),(1,4,.int .i64),(1,5,.int .i64),(1,6,.int .i64),(1,7,.int .i64),(1,8,.int .i64),(1,9,.str),(1,10,.tv),(1,11,.tv),(1,12,.tv),(2,0,.int .i64),(2,1,.bool),(2,2,.bool),(2,3,.str),(2,4,.int .i64),(2,5,.int .i64),(2,6,.int .i64),(2,7,.int .i64),(2,8,.int .i64),(2,9,.str),(2,10,.tv),(2,11,.tv),(2,12,.tv)]⟩ .none))) .none)))))))) mixed (fun _ _=>Tryz.call55 _ _) Tryz.func55 (by kernel_rfl) (by kernel_rfl) h
theorem Ca (s:TV) (f:TV) (st:St) (K:Bool->St->Prop) (h:CallT PR Ba [s,f] [.one (.int .i64)] st (fun (n1:Int) a=>K ((decide ((0:Int)<=n1))) a)):CallT PR AC [s,f] [.one .bool] st K:=
 Ae (cfg:=⟨[],[],[]⟩) (h:= .none) mixed (fun _ _=>Tryz.call56 _ _) Tryz.func56 (by kernel_rfl) (by kernel_rfl) h
theorem Cb (s:TV) (f:TV) (st:St) (K:Bool->St->Prop) (h:CallT PR Bb [s,f] [.one (.int .i64)] st (fun (n1:Int) a=>K ((decide ((0:Int)<=n1))) a)):CallT PR AL [s,f] [.one .bool] st K:=
 Ae (cfg:=⟨[],[],[]⟩) (h:= .none) mixed (fun _ _=>Tryz.call57 _ _) Tryz.func57 (by kernel_rfl) (by kernel_rfl) h
theorem If (f_0:B8) (f_1:Int) (f_2:Bool) (f_3:Bool) (f_4:B8) (f_5:Int) (f_6:Int) (f_7:Int) (f_8:Int) (f_9:Int) (f_10:B8) (f_11:TV) (f_12:TV) (f_13:TV) (st:St) (K:Bool->St->Prop) (h:CallT PR Ch [(.agg (cV f_1 f_2 f_3 f_4 f_5 f_6 f_7 f_8 f_9 f_10 f_11 f_12 f_13))] [.one .bool] st (fun (b1:Bool) a=>K b1 a)):CallT PR EY [(.agg [.str f_0,.int .i64 f_1,.bool f_2,.bool f_3,.str f_4,.int .i64 f_5,.int .i64 f_6,.int .i64 f_7,.int .i64 f_8,.int .i64 f_9,.str f_10,f_11,f_12,f_13])] [.one .bool] st K:=
 Ae (cfg:=⟨[1],[],[]⟩) (h:= .none) mixed (fun _ _=>Tryz.call58 _ _) Tryz.func58 (by kernel_rfl) (by kernel_rfl) h
theorem G8 (v_0:Int) (v_1:Bool) (v_2:Bool) (v_3:B8) (v_4:Int) (v_5:Int) (v_6:Int) (v_7:Int) (v_8:Int) (v_9:B8) (v_10:TV) (v_11:TV) (v_12:TV) (st:St) (K:TV->St->Prop) (h:BId (v_0≠7) (K v_11 st) (∃(I1:TV->Int->V13 (St->Prop)) (M1:TV->Int->V13 (St->Nat)),(I1 .nilSlice 0 v_0 v_1 v_2 v_3 v_4 v_5 v_6 v_7 v_8 v_9 v_10 v_11 v_12 st)/\∀b a n1 b1 b2 s1 n2 n3 n4 n5 n6 s2 v1 v2 v3 c,I1 b a n1 b1 b2 s1 n2 n3 n4 n5 n6 s2 v1 v2 v3 c->(need (isSl v3) (BId (a<(lenS v3:Int)) (((0<=a/\a<(lenZ 14 v3:Int))/\need (isPtr (ixT 14 v3 a.toNat)) (Ai ((Al c [] (.t (Au (ixT 14 v3 a.toNat) 1)) 0 13).map TV.agg) (fun (x1:TV)=>Cd [.int .i64,.bool,.bool,.str,.int .i64,.int .i64,.int .i64,.int .i64,.int .i64,.str,.tv,.tv,.tv] x1 (fun (n7:Int) (b3 b4:Bool) (s3:B8) (n8 n9 d g e:Int) (s4:B8) (v4 v5 v6:TV)=>need (List.all (cV n7 b3 b4 s3 n8 n9 d g e s4 v4 v5 v6) Aq) (Bl 33 13 168 b 1 (cV n7 b3 b4 s3 n8 n9 d g e s4 v4 v5 v6) c (fun (v7:TV) f=>(I1 v7 ((i64.wrap (a+(1:Int)))) n1 b1 b2 s1 n2 n3 n4 n5 n6 s2 v1 v2 v3 f/\M1 v7 ((i64.wrap (a+(1:Int)))) n1 b1 b2 s1 n2 n3 n4 n5 n6 s2 v1 v2 v3 f<M1 b a n1 b1 b2 s1 n2 n3 n4 n5 n6 s2 v1 v2 v3 c)))))))) (K b c))))):CallT PR B4 [(.agg (cV v_0 v_1 v_2 v_3 v_4 v_5 v_6 v_7 v_8 v_9 v_10 v_11 v_12))] [.one .tv] st K:=
 Ae (cfg:=⟨[1],[],[]⟩) (h:=(.seq .none (.seq .none (.seq .none (.seq (.seq .none (.block (.loop ⟨[(3,.tv),(4,.int .i64)],[(1,0,0)],[(0,13)],[(0,0,.int .i64),(0,1,.bool),(0,2,.bool),(0,3,.str),(0,4,.int .i64),(0,5,.int .i64),(0,6,.int .i64),(0,7,.int .i64),(0,8,.int .i64),(0,9,.str),(0,10,.tv),(0,11,.tv),(0,12,.tv)]⟩ .none))) .none))))) mixed (fun _ _=>Tryz.call59 _ _) Tryz.func59 (by kernel_rfl) (by kernel_rfl) h
theorem Nc (s:B8) (st:St) (K:Bool->St->Prop) (h:CallT PR Ix [.str s] [.one (.int .i64),.one (.int .i64)] st (fun (n1 n2:Int) a=>K ((decide (n2=0))) a)):CallT PR EE [.str s] [.one .bool] st K:=
 Ae (cfg:=⟨[],[],[]⟩) (h:= .none) mixed (fun _ _=>Tryz.call60 _ _) Tryz.func60 (by kernel_rfl) (by kernel_rfl) h
theorem GT (s:B8) (st:St) (K:Bool->St->Prop) (h:CallT PR BN [.str s] [.one .tv,.one .bool] st (fun (v1:TV) (b1:Bool) a=>K b1 a)):CallT PR A1 [.str s] [.one .bool] st K:=
 Ae (cfg:=⟨[],[],[]⟩) (h:= .none) mixed (fun _ _=>Tryz.call62 _ _) Tryz.func62 (by kernel_rfl) (by kernel_rfl) h
theorem Fu (b:Nat) (depth:Int) (st:St) (K:TV->St->Prop) (h:need (List.all [(.map st.nb)] Aq) (Ai (Ac ((st.push (.map []) none).push (.cells [.nilSlice,(.map st.nb),.int .i64 depth]) (some 89)) [] (.t (.box b 2)) 0) (fun (v1:TV)=>puK v1 (.box (st.push (.map []) none).nb 0) (.bool true) ((st.push (.map []) none).push (.cells [.nilSlice,(.map st.nb),.int .i64 depth]) (some 89)) (fun a=>Ai (Ac a [] (.t (.box b 3)) 0) (fun (x2:TV)=>AS (.int .i64) x2 (fun (n1:Int)=>stB a (.box b 3) [(.int .i64 (i64.wrap (n1+(1:Int))))] (fun c=>K ((.box (st.push (.map []) none).nb 0)) c))))))):CallT PR Ax [(.box b 0),.int .i64 depth] [.one .tv] st K:=
 Ae (cfg:=⟨[],[],[]⟩) (h:= .none) mixed (fun _ _=>Tryz.call70 _ _) Tryz.func70 (by kernel_rfl) (by kernel_rfl) h
theorem IG (a_0:Bool) (a_1:Bool) (a_2:TV) (a_3:Int) (a_4:Bool) (a_5:Bool) (a_6:B8) (a_7:Int) (a_8:Int) (a_9:Int) (a_10:Int) (a_11:Int) (a_12:B8) (a_13:TV) (a_14:TV) (a_15:TV) (st:St) (K:Bool->St->Prop) (h:need (isSl a_2) (BId ((0:Int)<(lenS a_2:Int)) (BIf a_0 (BIf (!a_0) (K true st) (CallT PR Cv [(.agg (cV a_3 a_4 a_5 a_6 a_7 a_8 a_9 a_10 a_11 a_12 a_13 a_14 a_15))] [.one .bool] st (fun (b1:Bool) a=>K b1 a))) (BIf (!a_1) (BIf (!a_0) (K true st) (CallT PR Cv [(.agg (cV a_3 a_4 a_5 a_6 a_7 a_8 a_9 a_10 a_11 a_12 a_13 a_14 a_15))] [.one .bool] st (fun (b2:Bool) b=>K b2 b))) (K false st))) (K false st))):CallT PR CI [(.agg [.bool a_0,.bool a_1,a_2,.int .i64 a_3,.bool a_4,.bool a_5,.str a_6,.int .i64 a_7,.int .i64 a_8,.int .i64 a_9,.int .i64 a_10,.int .i64 a_11,.str a_12,a_13,a_14,a_15])] [.one .bool] st K:=
 Ae (cfg:=⟨[1],[],[]⟩) (h:= .none) mixed (fun _ _=>Tryz.call71 _ _) Tryz.func71 (by kernel_rfl) (by kernel_rfl) h
theorem Fv (b:Nat) (t:Nat) (a_0:Bool) (a_1:Bool) (a_2:TV) (a_3:Int) (a_4:Bool) (a_5:Bool) (a_6:B8) (a_7:Int) (a_8:Int) (a_9:Int) (a_10:Int) (a_11:Int) (a_12:B8) (a_13:TV) (a_14:TV) (a_15:TV) (st:St) (K:TV->Bool->St->Prop) (h:need (isSl a_2) (((HY 1 a_2=true/\0<=(i64.wrap ((lenS a_2:Int)-(1:Int)))/\(i64.wrap ((lenS a_2:Int)-(1:Int)))<=(lenS a_2:Int))/\need (isSl (slT 1 .non a_2 0 (Int.toNat (i64.wrap ((lenS a_2:Int)-(1:Int)))))) (∃(I1:TV->Int->TV->TV->Int->Bool->Bool->TV->V13 (St->Prop)) (M1:TV->Int->TV->TV->Int->Bool->Bool->TV->V13 (St->Nat)),(I1 ((.box t 0)) 0 ((.box b 0)) ((slT 1 .non a_2 0 (Int.toNat (i64.wrap ((lenS a_2:Int)-(1:Int)))))) ((lenS (slT 1 .non a_2 0 (Int.toNat (i64.wrap ((lenS a_2:Int)-(1:Int))))):Int)) a_0 a_1 a_2 a_3 a_4 a_5 a_6 a_7 a_8 a_9 a_10 a_11 a_12 a_13 a_14 a_15 st)/\∀e c g d f b1 b2 v1 n1 b3 b4 s1 n2 n3 n4 n5 n6 s2 v2 v3 v4 a,I1 e c g d f b1 b2 v1 n1 b3 b4 s1 n2 n3 n4 n5 n6 s2 v2 v3 v4 a->(BId (c<f) (((0<=c/\c<(lenZ 1 d:Int))/\Ai (Ac a [] (.t (ixT 1 d c.toNat)) 0) (fun (x1:TV)=>AS .str x1 (fun (s3:B8)=>need (isPtr e) (need (isPtr e) (Ai (Ac a [] (.t (Au e 1)) 0) (fun (v5:TV)=>Ai (Et a v5) (fun (es1:List (B8×TV))=>need (FC (At .nilPtr (Aw s3 es1))) (BIf (CP (At .nilPtr (Aw s3 es1))) (need (isPtr e) (need (isPtr e) (Ai (Ac a [] (.t (Au e 2)) 0) (fun (x3:TV)=>AS (.int .i64) x3 (fun (n7:Int)=>CallT PR Ax [g,(.int .i64 (i64.wrap (n7+(1:Int))))] [.one .tv] a (fun (v6:TV) l=>need (List.all [v6] Aq) (CallT PR AJ [e,.str s3,(.box l.nb 0)] [] (l.push (.cells [v6,.nilSlice,.int .i64 0,.bool false,.bool false,(.str []),.int .i64 0,.int .i64 0,.int .i64 0,.int .i64 0,.int .i64 0,(.str []),.nilSlice,.nilSlice,.nilSlice,.int .i64 0]) (some 92)) (fun (m:St)=>(I1 v6 ((i64.wrap (c+(1:Int)))) g d f b1 b2 v1 n1 b3 b4 s1 n2 n3 n4 n5 n6 s2 v2 v3 v4 m/\M1 v6 ((i64.wrap (c+(1:Int)))) g d f b1 b2 v1 n1 b3 b4 s1 n2 n3 n4 n5 n6 s2 v2 v3 v4 m<M1 e c g d f b1 b2 v1 n1 b3 b4 s1 n2 n3 n4 n5 n6 s2 v2 v3 v4 a))))))))) (need (isPtr (At .nilPtr (Aw s3 es1))) (need (isPtr (At .nilPtr (Aw s3 es1))) (Ai (Ac a [] (.t (Au (At .nilPtr (Aw s3 es1)) 0)) 0) (fun (v7:TV)=>need (FC v7) (BIf (!CP v7) (need (isPtr (At .nilPtr (Aw s3 es1))) (need (isPtr (At .nilPtr (Aw s3 es1))) (Ai (Ac a [] (.t (Au (At .nilPtr (Aw s3 es1)) 0)) 0) (fun (v8:TV)=>(I1 v8 ((i64.wrap (c+(1:Int)))) g d f b1 b2 v1 n1 b3 b4 s1 n2 n3 n4 n5 n6 s2 v2 v3 v4 a/\M1 v8 ((i64.wrap (c+(1:Int)))) g d f b1 b2 v1 n1 b3 b4 s1 n2 n3 n4 n5 n6 s2 v2 v3 v4 a<M1 e c g d f b1 b2 v1 n1 b3 b4 s1 n2 n3 n4 n5 n6 s2 v2 v3 v4 a))))) (need (isPtr (At .nilPtr (Aw s3 es1))) (need (isPtr (At .nilPtr (Aw s3 es1))) (Ai (Ac a [] (.t (Au (At .nilPtr (Aw s3 es1)) 1)) 0) (fun (v9:TV)=>need (isSl v9) (BId ((0:Int)<(lenS v9:Int)) (BIf b1 (need (isPtr (At .nilPtr (Aw s3 es1))) (need (isPtr (At .nilPtr (Aw s3 es1))) (Ai (Ac a [] (.t (Au (At .nilPtr (Aw s3 es1)) 1)) 0) (fun (j:TV)=>need (isPtr (At .nilPtr (Aw s3 es1))) (need (isPtr (At .nilPtr (Aw s3 es1))) (Ai (Ac a [] (.t (Au (At .nilPtr (Aw s3 es1)) 1)) 0) (fun (i:TV)=>need (isSl i) (((0<=(i64.wrap ((lenS i:Int)-(1:Int)))/\(i64.wrap ((lenS i:Int)-(1:Int)))<(lenZ 1 j:Int))/\Ai (Ac a [] (.t (ixT 1 j (Int.toNat (i64.wrap ((lenS i:Int)-(1:Int)))))) 0) (fun (k:TV)=>(I1 k ((i64.wrap (c+(1:Int)))) g d f b1 b2 v1 n1 b3 b4 s1 n2 n3 n4 n5 n6 s2 v2 v3 v4 a/\M1 k ((i64.wrap (c+(1:Int)))) g d f b1 b2 v1 n1 b3 b4 s1 n2 n3 n4 n5 n6 s2 v2 v3 v4 a<M1 e c g d f b1 b2 v1 n1 b3 b4 s1 n2 n3 n4 n5 n6 s2 v2 v3 v4 a))))))))))) (K .nilPtr false a)) (K .nilPtr false a)))))))))))))))))))) (K e true a)))))):CallT PR B7 [(.box b 0),(.box t 0),(.agg [.bool a_0,.bool a_1,a_2,.int .i64 a_3,.bool a_4,.bool a_5,.str a_6,.int .i64 a_7,.int .i64 a_8,.int .i64 a_9,.int .i64 a_10,.int .i64 a_11,.str a_12,a_13,a_14,a_15])] [.one .tv,.one .bool] st K:=
 Ae (cfg:=⟨[5],[],[]⟩) (h:=(.seq .none (.seq (.seq .none (.block (.loop ⟨[(1,.tv),(20,.int .i64),(0,.tv),(18,.tv),(19,.int .i64)],[(5,0,0)],[(0,16)],[(0,0,.bool),(0,1,.bool),(0,2,.tv),(0,3,.int .i64),(0,4,.bool),(0,5,.bool),(0,6,.str),(0,7,.int .i64),(0,8,.int .i64),(0,9,.int .i64),(0,10,.int .i64),(0,11,.int .i64),(0,12,.str),(0,13,.tv),(0,14,.tv),(0,15,.tv)]⟩ .none))) .none))) mixed (fun _ _=>Tryz.call72 _ _) Tryz.func72 (by kernel_rfl) (by kernel_rfl) h
theorem EQ (b:Nat) (t:Nat) (key:B8) (st:St) (K:Int->St->Prop) (h:Ai (Ac st [] (.t (.box t 1)) 0) (fun (v1:TV)=>Ai (Et st v1) (fun (es1:List (B8×TV))=>need (FC (At .nilPtr (Aw key es1))) (BIf (CP (At .nilPtr (Aw key es1))) (CallT PR AJ [(.box t 0),.str key,(.box st.nb 0)] [] (st.push (.cells [.nilPtr,.nilSlice,.int .i64 0,.bool false,.bool false,(.str []),.int .i64 0,.int .i64 0,.int .i64 0,.int .i64 0,.int .i64 0,(.str []),.nilSlice,.nilSlice,.nilSlice,.int .i64 0]) (some 92)) (fun (e:St)=>Ai (Ac e [] (.t (.box b 3)) 0) (fun (x2:TV)=>AS (.int .i64) x2 (fun (n1:Int)=>stB e (.box b 3) [(.int .i64 (i64.wrap (n1+(1:Int))))] (fun f=>Ai (Ac f [] (.t (.box t 2)) 0) (fun (x3:TV)=>AS (.int .i64) x3 (fun (n2:Int)=>CallT PR Ax [(.box b 0),(.int .i64 (i64.wrap (n2+(2:Int))))] [.one .tv] f (fun (v2:TV) m=>need (List.all [v2] Aq) (stB m (.box b 1) [v2] (fun a=>Ai (Ac a [] (.t (.box st.nb 1)) 0) (fun (v3:TV)=>Ai (Ac a [] (.t (.box b 1)) 0) (fun (v4:TV)=>need (List.all [v4] Aq) (need (List.all [v4] Aq) (Bl 71 1 8 v3 1 [v4] a (fun (v5:TV) i=>need (List.all [v5] Aq) (stB i (.box st.nb 1) [v5] (fun k=>K 0 k))))))))))))))))) (need (isPtr (At .nilPtr (Aw key es1))) (need (isPtr (At .nilPtr (Aw key es1))) (Ai (Ac st [] (.t (Au (At .nilPtr (Aw key es1)) 1)) 0) (fun (v6:TV)=>need (isSl v6) (BId ((lenS v6:Int)=(0:Int)) (K 6 st) (Ai (Ac st [] (.t (.box t 2)) 0) (fun (x7:TV)=>AS (.int .i64) x7 (fun (n3:Int)=>CallT PR Ax [(.box b 0),(.int .i64 (i64.wrap (n3+(2:Int))))] [.one .tv] st (fun (v7:TV) j=>need (List.all [v7] Aq) (stB j (.box b 1) [v7] (fun c=>need (isPtr (At .nilPtr (Aw key es1))) (need (isPtr (At .nilPtr (Aw key es1))) (Ai (Ac c [] (.t (Au (At .nilPtr (Aw key es1)) 1)) 0) (fun (v8:TV)=>Ai (Ac c [] (.t (.box b 1)) 0) (fun (v9:TV)=>need (List.all [v9] Aq) (need (List.all [v9] Aq) (Bl 71 1 8 v8 1 [v9] c (fun (d:TV) l=>need (isPtr (At .nilPtr (Aw key es1))) (need (isPtr (At .nilPtr (Aw key es1))) (need (List.all [d] Aq) (stB l (Au (At .nilPtr (Aw key es1)) 1) [d] (fun g=>K 0 g)))))))))))))))))))))))))):CallT PR BM [(.box b 0),(.box t 0),.str key] [.one (.int .i64)] st K:=
 Ae (cfg:=⟨[],[],[]⟩) (h:= .none) mixed (fun _ _=>Tryz.call73 _ _) Tryz.func73 (by kernel_rfl) (by kernel_rfl) h
theorem Fb (b:Nat) (t:Nat) (key:B8) (st:St) (K:Int->St->Prop) (h:Ai (Ac st [] (.t (.box t 1)) 0) (fun (v1:TV)=>Ai (Et st v1) (fun (es1:List (B8×TV))=>need (FC (At .nilPtr (Aw key es1))) (BIf (CP (At .nilPtr (Aw key es1))) (Ai (Ac st [] (.t (.box t 2)) 0) (fun (x2:TV)=>AS (.int .i64) x2 (fun (n1:Int)=>CallT PR Ax [(.box b 0),(.int .i64 (i64.wrap (n1+(1:Int))))] [.one .tv] st (fun (v2:TV) c=>need (List.all [v2] Aq) (CallT PR AJ [(.box t 0),.str key,(.box c.nb 0)] [] (c.push (.cells [v2,.nilSlice,.int .i64 0,.bool false,.bool false,(.str []),.int .i64 0,.int .i64 0,.int .i64 0,.int .i64 0,.int .i64 0,(.str []),.nilSlice,.nilSlice,.nilSlice,.int .i64 0]) (some 92)) (fun (a:St)=>Ai (Ac a [] (.t (.box c.nb 0)) 0) (fun (v3:TV)=>need (FC v3) (BIf (CP v3) (K 8 a) (Ai (Ac a [] (.t (.box b 2)) 0) (fun (v4:TV)=>Ai (Ac a [] (.t (.box c.nb 0)) 0) (fun (v5:TV)=>Ai (plook a v4 v5 false (.bool false)) (fun (x6:TV)=>AS .bool x6 (fun (b1:Bool)=>BIf (!b1) (K 8 a) (Ai (Ac a [] (.t (.box b 2)) 0) (fun (v6:TV)=>Ai (Ac a [] (.t (.box c.nb 0)) 0) (fun (v7:TV)=>pdK v6 v7 a (fun f=>Ai (Ac f [] (.t (.box c.nb 0)) 0) (fun (v8:TV)=>need (List.all [v8] Aq) (stB f (.box b 1) [v8] (fun m=>K 0 m)))))))))))))))))))) (need (isPtr (At .nilPtr (Aw key es1))) (need (isPtr (At .nilPtr (Aw key es1))) (Ai (Ac st [] (.t (Au (At .nilPtr (Aw key es1)) 0)) 0) (fun (v9:TV)=>need (FC v9) (BIf (CP v9) (K 8 st) (Ai (Ac st [] (.t (.box b 2)) 0) (fun (g:TV)=>need (isPtr (At .nilPtr (Aw key es1))) (need (isPtr (At .nilPtr (Aw key es1))) (Ai (Ac st [] (.t (Au (At .nilPtr (Aw key es1)) 0)) 0) (fun (j:TV)=>Ai (plook st g j false (.bool false)) (fun (i:TV)=>AS .bool i (fun (b2:Bool)=>BIf (!b2) (K 8 st) (Ai (Ac st [] (.t (.box b 2)) 0) (fun (n:TV)=>need (isPtr (At .nilPtr (Aw key es1))) (need (isPtr (At .nilPtr (Aw key es1))) (Ai (Ac st [] (.t (Au (At .nilPtr (Aw key es1)) 0)) 0) (fun (k:TV)=>pdK n k st (fun d=>need (isPtr (At .nilPtr (Aw key es1))) (need (isPtr (At .nilPtr (Aw key es1))) (Ai (Ac d [] (.t (Au (At .nilPtr (Aw key es1)) 0)) 0) (fun (e:TV)=>need (List.all [e] Aq) (stB d (.box b 1) [e] (fun l=>K 0 l))))))))))))))))))))))))))):CallT PR BS [(.box b 0),(.box t 0),.str key] [.one (.int .i64)] st K:=
 Ae (cfg:=⟨[],[],[]⟩) (h:= .none) mixed (fun _ _=>Tryz.call74 _ _) Tryz.func74 (by kernel_rfl) (by kernel_rfl) h
theorem G0 (t:Nat) (key:B8) (e:Nat) (st:St) (K:St->Prop) (h:Ai (Ac st [] (.t (.box t 0)) 0) (fun (v1:TV)=>Bl 9 1 16 v1 1 [.str key] st (fun (v2:TV) c=>need (List.all [v2] Aq) (stB c (.box t 0) [v2] (fun a=>Ai (Ac a [] (.t (.box t 1)) 0) (fun (v3:TV)=>muK v3 key (.box e 0) a (fun b=>K b))))))):CallT PR AJ [(.box t 0),.str key,(.box e 0)] [] st K:=
 Ae (cfg:=⟨[],[],[]⟩) (h:= .none) mixed (fun _ _=>Tryz.call75 _ _) Tryz.func75 (by kernel_rfl) (by kernel_rfl) h
theorem LT (v_0:Int) (v_1:Bool) (v_2:Bool) (v_3:B8) (v_4:Int) (v_5:Int) (v_6:Int) (v_7:Int) (v_8:Int) (v_9:B8) (v_10:TV) (v_11:TV) (v_12:TV) (st:St) (K:Int->St->Prop) (h:CallT PR D6 [(.agg (cV v_0 v_1 v_2 v_3 v_4 v_5 v_6 v_7 v_8 v_9 v_10 v_11 v_12)),.int .i64 65536] [.one (.int .i64)] st (fun (n1:Int) a=>K n1 a)):CallT PR FG [(.agg (cV v_0 v_1 v_2 v_3 v_4 v_5 v_6 v_7 v_8 v_9 v_10 v_11 v_12))] [.one (.int .i64)] st K:=
 Ae (cfg:=⟨[1],[],[]⟩) (h:= .none) mixed (fun _ _=>Tryz.call76 _ _) Tryz.func76 (by kernel_rfl) (by kernel_rfl) h
theorem KI (v_0:Int) (v_1:Bool) (v_2:Bool) (v_3:B8) (v_4:Int) (v_5:Int) (v_6:Int) (v_7:Int) (v_8:Int) (v_9:B8) (v_10:TV) (v_11:TV) (v_12:TV) (st:St) (K:Int->St->Prop) (h:CallT PR D8 [(.agg (cV v_0 v_1 v_2 v_3 v_4 v_5 v_6 v_7 v_8 v_9 v_10 v_11 v_12)),.int .i64 65536] [.one (.int .i64)] st (fun (n1:Int) a=>K n1 a)):CallT PR EX [(.agg (cV v_0 v_1 v_2 v_3 v_4 v_5 v_6 v_7 v_8 v_9 v_10 v_11 v_12))] [.one (.int .i64)] st K:=
 Ae (cfg:=⟨[1],[],[]⟩) (h:= .none) mixed (fun _ _=>Tryz.call77 _ _) Tryz.func77 (by kernel_rfl) (by kernel_rfl) h
theorem CJ (s:TV) (f:TV) (st:St) (K:Bool->St->Prop) (h:CallT PR Bz [s,f] [.one (.int .i64)] st (fun (n1:Int) a=>K ((decide ((0:Int)<=n1))) a)):CallT PR Av [s,f] [.one .bool] st K:=
 Ae (cfg:=⟨[],[],[]⟩) (h:= .none) mixed (fun _ _=>Tryz.call78 _ _) Tryz.func78 (by kernel_rfl) (by kernel_rfl) h
theorem KK (s:B8) (st:St) (K:Bool->St->Prop) (h:CallT PR Eu [.str s] [.one .bool] st (fun (b1:Bool) a=>BIf (!b1) (K true a) (K ((decide ((1024:Int)<(s.length:Int)))) a))):CallT PR Bc [.str s] [.one .bool] st K:=
 Ae (cfg:=⟨[],[],[]⟩) (h:= .none) mixed (fun _ _=>Tryz.call79 _ _) Tryz.func79 (by kernel_rfl) (by kernel_rfl) h
theorem Ej (s:TV) (st:St) (K:TV->St->Prop) (h:need (isSl s) (BIf (CP s) (K .nilSlice st) (Ai (BV st 1 s) (fun (q1:Nat×List TV)=>need (List.all q1.2 Aq) (Jo 5 1 1 (.list 1 .full 0 []) q1.1 q1.2 st (fun (v1:TV) a=>K v1 a)))))):CallT PR Bv [s] [.one .tv] st K:=
 Ae (cfg:=⟨[],[7],[]⟩) (h:= .none) mixed (fun _ _=>Tryz.call80 _ _) Tryz.func80 (by kernel_rfl) (by kernel_rfl) h
end Go.TVF
