/- What the laws below rest on: a framework for Go programs, and contracts of the functions that they reach. -/
import Derived.Test.YtbbjecpcjdmfgaaGreatDoorSaB
import Derived.Deep.Slices
import Derived.WideShapes
import Derived.ChangeArms
import Derived.OpenShut
import Derived.Test.YtbbjecpcjdmfgaaGreatDoorProg
import Derived.KernelRfl
set_option maxRecDepth 20000
set_option linter.unusedVariables false
set_option linter.unusedSimpArgs false
section
namespace Go.TVF
open Go.IntKind(i64 u8)
open Go.RowKit (Below)
section
variable {P:Program} {g:Ghost} {st:St} {w:World}
theorem LI {s:Nat} {f:Nat->TV}:∀{ps:List (Nat×CTy)} {rest:List TV} {v:TV},Qy s ps (ps.map (fun p=>f p.1)++rest)=some v->v=f s
 | [],rest,v,h=>by cases rest<;>simp[Qy]at h
 | p::ps,rest,v,h=>by
  simp only[List.map_cons,List.cons_append,Qy]at h
  split at h
  ·rename_i hb;simp only[Option.some.injEq]at h;rw[<-h,Nat.eq_of_beq_eq_true hb]
  ·exact LI h
theorem Kv {i o:Nat} {f:Nat->Nat->TV}:∀{ps:List (Nat×Nat×CTy)} {v:TV},Na i o ps (ps.map fun p=>f p.1 p.2.1)=some v->v=f i o
 | [],v,h=>by simp[Na]at h
 | p::ps,v,h=>by
  simp only[List.map_cons,Na]at h
  split at h
  ·rename_i hb
   simp only[Bool.and_eq_true]at hb
   simp only[Option.some.injEq]at h;rw[<-h,Nat.eq_of_beq_eq_true hb.1,Nat.eq_of_beq_eq_true hb.2]
  ·exact Kv h
theorem M7 {s:Nat}:∀{ps:List (Nat×Nat×Nat)} {q:Nat×Nat},Pk s ps=some q->(s,q)∈ps
 | [],q,h=>by simp[Pk]at h
 | p::ps,q,h=>by
  simp only[Pk]at h
  split at h
  ·rename_i hb;simp only[Option.some.injEq]at h;subst h;rw[<-Nat.eq_of_beq_eq_true hb];simp
  ·exact List.mem_cons_of_mem _ (M7 h)
theorem M9 {s:Nat}:∀{ps:List (Nat×Nat)} {q:Nat},Ku s ps=some q->(s,q)∈ps
 | [],q,h=>by simp[Ku]at h
 | p::ps,q,h=>by
  simp only[Ku]at h
  split at h
  ·rename_i hb;simp only[Option.some.injEq]at h;subst h;rw[<-Nat.eq_of_beq_eq_true hb];simp
  ·exact List.mem_cons_of_mem _ (M9 h)
theorem HM (k:Ev) (vals:List TV) (i:Nat):∀n o,(EN k vals i n o).length=n
 | 0,o=>rfl
 | n+1,o=>by simp[EN,HM k vals i n]
theorem Kt (k:Ev) (vals:List TV) (i:Nat):∀n o j,j<n->(EN k vals i n o)[j]? =some (QU k vals i (o+j))
 | 0,o,j,h=>absurd h (Nat.not_lt_zero _)
 | n+1,o,0,h=>by simp[EN]
 | n+1,o,j+1,h=>by
  simp only[EN,List.getElem?_cons_succ]
  rw[Kt k vals i n (o+1) j (by omega),show o+1+j=o+(j+1)from by omega]
theorem M0 (k:Ev) (vals:List TV):∀n s i x,(IA k vals n s)[i]? =some (some x)->∃m,Ku (s+i) k.locs=some m/\x=EN k vals (s+i) m 0
 | 0,s,i,x,h=>by simp[IA]at h
 | n+1,s,0,x,h=>by
  simp only[IA,List.getElem?_cons_zero,Option.some.injEq]at h
  split at h
  ·rename_i m hm;simp only[Option.some.injEq]at h;exact⟨m,by simpa using hm,by simpa using h.symm⟩
  ·cases h
 | n+1,s,i+1,x,h=>by
  simp only[IA,List.getElem?_cons_succ]at h
  obtain⟨m,h1,h2⟩:=M0 k vals n (s+1) i x h
  rw[show s+1+i=s+(i+1)from by omega]at h1 h2
  exact⟨m,h1,h2⟩
theorem LD (k:Ev) (vals:List TV):∀n s i m,i<n->Ku (s+i) k.locs=some m->(IA k vals n s)[i]? =some (some (EN k vals (s+i) m 0))
 | 0,s,i,m,h,_=>absurd h (Nat.not_lt_zero _)
 | n+1,s,0,m,h,hm=>by simp only[IA,List.getElem?_cons_zero,Nat.add_zero]at hm⊢;rw[hm]
 | n+1,s,i+1,m,h,hm=>by
  simp only[IA,List.getElem?_cons_succ]
  have:=LD k vals n (s+1) i m (by omega) (by rw[show s+1+i=s+(i+1)from by omega];exact hm)
  rw[show s+1+i=s+(i+1)from by omega]at this
  exact this
theorem Sim.weakLoc {loc loc':List (Option (List TV))} (s:Sim g st loc w) (h:∀(j:Nat) (x':List TV),loc'[j]? =some (some x')->∃x,loc[j]? =some (some x)/\x'.length=x.length/\∀i (hi:i<x'.length),x'[i]? =x[i]?∨x'[i]? =some .junk):Sim g st loc' w:=by
 have hd:∀k,Dom st loc' k->Dom st loc k:=by
  intro k d
  cases k with
  | box i=>exact d
  | loc i=>obtain⟨x',hx'⟩:=d;obtain⟨x,hx,_⟩:=h i x' hx';exact⟨x,hx⟩
 refine⟨s.nb,s.nt,s.below,s.fits,fun k d=>?_,fun k k' d d'=>s.inj k k' (hd k d) (hd k' d'),fun k d=>s.lo k (hd k d),s.own,?_,s.spApart,s.spLt,?_,?_,s.spTop,s.spTy,s.bTy,s.glob⟩
 ·cases k with
  | box i=>exact s.obj (.box i) d
  | loc i=>
   obtain⟨x',hx'⟩:=d
   obtain⟨x,hx,hlen,hel⟩:=h i x' hx'
   have:=s.obj (.loc i) ⟨x,hx⟩
   simp only[A4,hx]at this
   simp only[A4,hx']
   obtain⟨cs,hc,hr⟩:=this
   refine⟨cs,hc,hlen.trans hr.1,fun j hj=>?_⟩
   rcases hel j hj with e | e
   ·have hj':j<x.length:=hlen▸hj
    rw[List.getElem?_eq_getElem hj,List.getElem?_eq_getElem hj']at e
    simp only[Option.some.injEq]at e
    rw[e];exact hr.2 j hj'
   ·rw[List.getElem?_eq_getElem hj]at e
    simp only[Option.some.injEq]at e
    rw[e];exact .junk _
 ·intro id b l h' hsp
  obtain⟨c1,c2,c3,c4,c5⟩:=s.spCell id b l h' hsp
  exact⟨c1,c2,c3,fun k d=>c4 k (hd k d),c5⟩
 ·intro a ha
  obtain⟨c1,c2,c3,c4⟩:=s.sCell a ha
  exact⟨c1,c2,fun k d=>c3 k (hd k d),c4⟩
 ·intro b hb
  obtain⟨c1,c2,c3⟩:=s.protOk b hb
  exact⟨c1,fun k d=>c2 k (hd k d),c3⟩
theorem Ev.weak {k:Ev} {fr:Fr} {tmps:Array Value} {ns nl:Nat} (hk:k.ok nl fr=true) (s:Sim g st fr.loc w) (hf:Fs g w fr tmps) (hn:tmps.size=ns):
  Sim g st (k.frame ns nl (k.vals fr)).loc w/\Fs g w (k.frame ns nl (k.vals fr)) tmps:=by
 simp only[Ev.ok,Bool.and_eq_true,List.all_eq_true]at hk
 obtain⟨hp,hl⟩:=hk
 have hvals:(k.vals fr).drop k.slots.length=k.cells.map fun p=>Kk fr p.1 p.2.1:=by
  unfold Ev.vals
  rw[List.drop_append_of_le_length (by simp)]
  simp
 have hloc:∀(j:Nat) (x':List TV),(IA k (k.vals fr) nl 0)[j]? =some (some x')->∃x,fr.loc[j]? =some (some x)/\x'.length=x.length/\∀i (hi:i<x'.length),x'[i]? =x[i]?∨x'[i]? =some .junk:=by
  intro j x' hx'
  obtain⟨m,hm,rfl⟩:=M0 _ _ _ _ _ _ hx'
  rw[Nat.zero_add]at hm
  have hsz:=hl _ (M9 hm)
  unfold Ts at hsz
  simp only at hsz
  split at hsz
  ·rename_i x hx
   have hxl:=Nat.eq_of_beq_eq_true hsz
   refine⟨x,hx,by rw[HM];exact hxl.symm,fun i hi=>?_⟩
   have him:i<m:=by rw[HM]at hi;exact hi
   rw[Kt _ _ _ _ _ _ him,Nat.zero_add,Nat.zero_add]
   unfold QU
   rw[hvals]
   cases hc:Na j i k.cells (k.cells.map fun p=>Kk fr p.1 p.2.1)with
   | none=>exact .inr rfl
   | some v=>
    have:=Kv (f:=Kk fr) hc
    left
    have hix:i<x.length:=by omega
    simp only[this,Kk,hx,List.getD_eq_getElem?_getD,List.getElem?_eq_getElem hix,Option.getD_some]
  ·cases hsz
 refine⟨s.weakLoc hloc,hn.symm,fun i=>?_⟩
 ·have hget:(k.frame ns nl (k.vals fr)).slots.f i=Qe k (k.vals fr) i:=rfl
  rw[hget]
  have hold:=hf.2 i
  unfold Qe
  split
  ·rename_i v hv
   have hv':Qy i k.slots (k.slots.map (fun p=>JU fr p.1)++k.cells.map fun p=>Kk fr p.1 p.2.1)=some v:=hv
   have:=LI (f:=JU fr) hv'
   rw[this]
   show Rel g w (JU fr i) _
   exact hold.tv
  ·split
   ·rename_i q hq
    obtain⟨hpi,hloc2⟩:=hp _ (M7 hq)
    unfold TB at hloc2
    unfold Rv at hpi
    simp only at hpi
    split at hpi
    ·rename_i j p hs
     simp only[Bool.and_eq_true]at hpi
     have e1:=Nat.eq_of_beq_eq_true hpi.1
     have e2:=Nat.eq_of_beq_eq_true hpi.2
     rw[hs]at hold
     obtain⟨⟨x,hx⟩,hv⟩:=hold
     split at hloc2
     ·rename_i m hm
      have hlt:=Nat.le_of_ble_eq_true hloc2
      simp only at hlt hm
      have:=LD k (k.vals fr) nl 0 q.1 m (by omega) (by rw[Nat.zero_add];exact hm)
      exact⟨⟨_,this⟩,by rw[hv,e1,e2]⟩
     ·cases hloc2
    ·cases hpi
   ·exact Rel.junk _
end
end Go.TVF
end
section
namespace Go.TVF
open Go.IntKind(i64 u8)
open Go.RowKit (Below)
theorem OB {P:Program} {Q:Exit->Act->World->Prop} {a:Act} {w:World} {c:Code} (I:Nat->Act->World->Prop) (h₀:∃m,I m a w)
  (round:∀m a w,I m a w->c.wp P (Exit.then (fun a' w'=>∃m',m'<m/\I m' a' w') Q) a w):(Code.loop c).wp P Q a w:=by
 intro b k cs
 have key:∀m a w,I m a w->∃e a' w',Q e a' w'/\Arrives P (lone (b.at a (.code c:: .inLoop c::k)) cs w) b k cs e a' w':=by
  intro m
  induction m using Nat.strongRecOn with
  | _ m ih=>
   intro a w hI
   obtain⟨e,a₁,w₁,hq,harr⟩:=round m a w hI b (.inLoop c::k) cs
   cases e with
   | normal=>
    obtain⟨m',hlt,hI₁⟩:=hq
    obtain⟨e₂,a₂,w₂,hq₂,harr₂⟩:=ih m' hlt a₁ w₁ hI₁
    exact⟨e₂,a₂,w₂,hq₂,.of_steps (Steps.trans harr (.one step_inLoop)) harr₂⟩
   | exit id=>exact⟨_,a₁,w₁,hq,.pass (x:= .inLoop c) rfl (fun _ _=> .inl (by simp)) harr⟩
   | goto l=>exact⟨_,a₁,w₁,hq,.pass (x:= .inLoop c) rfl (fun _ _=> .inl (by simp)) harr⟩
   | ret=>exact⟨_,a₁,w₁,hq,.pass (x:= .inLoop c) rfl (fun _ _=> .inl (by simp)) harr⟩
   | panic ch=>exact⟨_,a₁,w₁,hq,.pass (x:= .inLoop c) rfl (fun _ _=> .inl (by simp)) harr⟩
   | outgrown=>exact⟨_,a₁,w₁,hq,.pass (x:= .inLoop c) rfl (fun _ _=> .inl (by simp)) harr⟩
 obtain⟨m,hm⟩:=h₀
 obtain⟨e,a',w',hq,harr⟩:=key m a w hm
 exact⟨e,a',w',hq,.of_steps (.one step_loop) harr⟩
theorem Mg:∀{cs:List CTy} {vs:List TV} {I:Fun cs (St->Prop)} {M:Fun cs (St->Nat)} {B:List TV->Nat->St->Prop} {st:St},AllC cs I M B->IJ cs vs I (fun p=>p st)->∃m,B vs m st
 | [],[],I,M,B,st,h,hd=>⟨_,h st hd⟩
 | [],_::_,I,M,B,st,h,hd=>hd.elim
 | _::_,[],I,M,B,st,h,hd=>hd.elim
 | c::cs,v::vs,I,M,B,st,h,hd=>by
  obtain⟨y,rfl,hd2⟩:=DC hd
  exact Mg (B:=fun l=>B (enc c y::l)) (h y) hd2
theorem NA:∀{cs:List CTy} {vs:List TV} {I:Fun cs (St->Prop)} {M:Fun cs (St->Nat)} {B:List TV->Nat->St->Prop} {st:St} {m:Nat},AllC cs I M B->PG cs vs I M (fun p q=>p st/\q st<m)->∃m',m'<m/\B vs m' st
 | [],[],I,M,B,st,m,h,hd=>⟨_,hd.2,h st hd.1⟩
 | [],_::_,I,M,B,st,m,h,hd=>hd.elim
 | _::_,[],I,M,B,st,m,h,hd=>hd.elim
 | c::cs,v::vs,I,M,B,st,m,h,hd=>by
  obtain⟨y,rfl,hd2⟩:=DC hd
  exact NA (B:=fun l=>B (enc c y::l)) (h y) hd2
theorem KB:∀{cs:List CTy} {vs:List TV} {I:Fun cs (St->Prop)} {B:List TV->St->Prop} {st:St},Uj cs I B->IJ cs vs I (fun p=>p st)->B vs st
 | [],[],I,B,st,h,hd=>h st hd
 | [],_::_,I,B,st,h,hd=>hd.elim
 | _::_,[],I,B,st,h,hd=>hd.elim
 | c::cs,v::vs,I,B,st,h,hd=>by
  obtain⟨y,rfl,hd2⟩:=DC hd
  exact KB (B:=fun l=>B (enc c y::l)) (h y) hd2
def QPost (g:Ghost) (w:World) (a0:Act) (Q:Exit->Fr->St->Prop) (e:Exit) (a:Act) (w':World):Prop:=IK g w a0 (Q e) a w'
section
variable {P:Program} {cfg:Cfg} {ns nl:Nat}
theorem Sy (hm:P.follows .mixedOrders=true):∀(c:Code) (h:HW) (Q:Exit->Fr->St->Prop) (fr:Fr) (st:St) (g:Ghost) (w:World) (a:Act),cwp cfg P ns nl c h Q fr st->Sim g st fr.loc w->Fs g w fr a.tmps->a.tmps.size=ns->
  c.wp P (QPost g w a Q) a w:=by
 intro c
 induction c with
 | skip=>intro h Q fr st g w a hc s hf hn;exact wp_skip ⟨fr,st,g,hc,s,hf,Ext.refl _ _,rfl,rfl⟩
 | region id ops draw=>
  intro h Q fr st g w a hc s hf hn
  cases draw with
  | false=>exact wp_region_list (Kr ops.toList fr st g w a hc s hf fun a' w' hp=>hp)
  | true=>exact Oe hm hc s hf fun a' w' hp=>hp
 | seq x y ihx ihy=>
  intro h Q fr st g w a hc s hf hn
  have key:∀(hx hy:HW),cwp cfg P ns nl x hx (OK (cwp cfg P ns nl y hy Q) Q) fr st->(Code.seq x y).wp P (QPost g w a Q) a w:=by
   intro hx hy hcx
   refine wp_seq (wp_mono (ihx hx _ fr st g w a hcx s hf hn) fun e a' w' hq=>?_)
   obtain⟨fr',st',g',h1,h2,h3,h4,h5⟩:=hq
   cases e with
   | normal=>
    refine wp_mono (ihy hy Q fr' st' g' w' a' h1 h2 h3 (h5.2.trans hn)) fun e a'' w'' hq2=>?_
    exact hq2.ext h4 h5
   | _=>exact⟨fr',st',g',h1,h2,h3,h4,h5⟩
  cases h with
  | cut k hx hy=>
   obtain⟨R,h1,h2⟩:=hc
   refine wp_seq (wp_mono (ihx hx _ fr st g w a h1 s hf hn) fun e a' w' hq=>?_)
   obtain⟨fr',st',g',q1,q2,q3,q4,q5⟩:=hq
   cases e with
   | normal=>
    have q1':need (k.ok nl fr') (IJ k.tys (k.vals fr') R fun p=>p st'):=q1
    rw[Ai]at q1'
    obtain⟨w1,w2⟩:=Ev.weak (ns:=ns) q1'.1 q2 q3 (q5.2.trans hn)
    have hb:=KB h2 q1'.2
    exact wp_mono (ihy hy Q _ st' g' w' a' hb w1 w2 (q5.2.trans hn)) fun e a'' w'' hq2=>hq2.ext q4 q5
   | _=>exact⟨fr',st',g',q1,q2,q3,q4,q5⟩
  | none=>exact key _ _ hc
  | seq p q=>exact key _ _ hc
  | cond p q=>exact key _ _ hc
  | block p=>exact key _ _ hc
  | loop k p=>exact key _ _ hc
 | cond c x y ihx ihy=>
  intro h Q fr st g w a hc s hf hn
  simp only[cwp]at hc
  split at hc
  ·rename_i b hb
   have hr:=NV hf c
   rw[hb]at hr
   have hr':Rel g w (.bool b) (a.eval c):=hr
   have hev:a.eval c= .bool b:=by generalize a.eval c=q at hr';cases hr';rfl
   cases b with
   | true=>exact wp_cond_true hev (ihx h.l Q fr st g w a hc s hf hn)
   | false=>exact wp_cond_false hev (ihy h.r Q fr st g w a hc s hf hn)
  ·exact hc.elim
 | block id x ih=>
  intro h Q fr st g w a hc s hf hn
  refine wp_block (wp_mono (ih h.l (QY id Q) fr st g w a hc s hf hn) fun e a' w' hq=>?_)
  obtain⟨fr',st',g',h1,h2,h3,h4,h5⟩:=hq
  cases e with
  | exit id'=>
   simp only[QY]at h1
   by_cases hid:id'=id
   ·subst hid
    have hbe:(id'.beq id')=true:=Nat.beq_refl id'
    simp only[hbe]at h1
    simp only[Exit.inBlock,if_true]
    exact⟨fr',st',g',h1,h2,h3,h4,h5⟩
   ·have hbe:(id'.beq id)=false:=by
     cases hq:id'.beq id with
     | false=>rfl
     | true=>exact absurd (Nat.eq_of_beq_eq_true hq) hid
    simp only[hbe]at h1
    simp only[Exit.inBlock,hid,if_false]
    exact⟨fr',st',g',h1,h2,h3,h4,h5⟩
  | _=>exact⟨fr',st',g',h1,h2,h3,h4,h5⟩
 | loop x ih=>
  intro h Q fr st g w a hc s hf hn
  cases h with
  | loop k hx=>
   obtain⟨I,M,h1,h2⟩:=hc
   rw[Ai]at h1
   refine OB (fun m a' w'=>∃vals st' g',cwp cfg P ns nl x hx (OK (fun fr st=>need (k.ok nl fr) (PG k.tys (k.vals fr) I M fun p q=>p st/\q st<m)) Q) (k.frame ns nl vals) st'/\
    Sim g' st' (k.frame ns nl vals).loc w'/\Fs g' w' (k.frame ns nl vals) a'.tmps/\Ext g w g' w'/\a'.defers=a.defers/\a'.tmps.size=a.tmps.size) ?_ ?_
   ·obtain⟨m,hm⟩:=Mg h2 h1.2
    obtain⟨w1,w2⟩:=Ev.weak (ns:=ns) h1.1 s hf hn
    exact⟨m,_,st,g,hm,w1,w2,Ext.refl _ _,rfl,rfl⟩
   ·rintro m a' w' ⟨vals,st',g',q1,q2,q3,q4,q5⟩
    refine wp_mono (ih hx _ _ st' g' w' a' q1 q2 q3 (q5.2.trans hn)) fun e a'' w'' hq=>?_
    obtain⟨fr2,st2,g2,r1,r2,r3,r4,r5⟩:=hq
    cases e with
    | normal=>
     have r1':need (k.ok nl fr2) (PG k.tys (k.vals fr2) I M fun p q=>p st2/\q st2<m):=r1
     rw[Ai]at r1'
     obtain⟨m',hlt,hB⟩:=NA h2 r1'.2
     obtain⟨w1,w2⟩:=Ev.weak (ns:=ns) r1'.1 r2 r3 (r5.2.trans (q5.2.trans hn))
     exact⟨m',hlt,_,st2,g2,hB,w1,w2,q4.trans r4,r5.1.trans q5.1,r5.2.trans q5.2⟩
    | _=>exact⟨fr2,st2,g2,r1,r2,r3,q4.trans r4,r5.1.trans q5.1,r5.2.trans q5.2⟩
  | _=>exact hc.elim
 | exit id=>intro h Q fr st g w a hc s hf hn;exact wp_exit ⟨fr,st,g,hc,s,hf,Ext.refl _ _,rfl,rfl⟩
 | ret=>intro h Q fr st g w a hc s hf hn;exact wp_ret ⟨fr,st,g,hc,s,hf,Ext.refl _ _,rfl,rfl⟩
 | _=>intro h Q fr st g w a hc s hf hn;exact hc.elim
def J0 (P:Program) (fr:Fr) (st:St):ResultVar->Option TV
 | .tmp t=>some (JU fr t)
 | .cell a t=>match Jb P t with
  | some true=>match P.cellsOf t with
   | 0=>none
   | n=>(Al st fr.loc (fr.slots.f a) 0 n).map .agg
  | some false=>Ac st fr.loc (fr.slots.f a) 0
  | none=>none
def HI (P:Program) (fr:Fr) (st:St):List ResultVar->Option (List TV)
 | []=>some []
 | r::rs=>match J0 P fr st r with
  | some v=>(HI P fr st rs).map (v::·)
  | none=>none
def P9:List TV->TV
 | [v]=>v
 | vs=> .tuple vs
def resT (P:Program) (fn:Func) (fr:Fr) (st:St):Option TV:=(HI P fr st fn.results.toList).map P9
def NX (P:Program) (fr:Fr) (st:St) (r:ResultVar) (k:TV->Prop):Prop:=
 match r with
 | .tmp t=>k (JU fr t)
 | .cell a t=>match Jb P t with
  | some true=>match P.cellsOf t with
   | 0=>False
   | n=>Ak ((Al st fr.loc (fr.slots.f a) 0 n).map .agg) k
  | some false=>Ak (Ac st fr.loc (fr.slots.f a) 0) k
  | none=>False
def Ju (P:Program) (fr:Fr) (st:St):List ResultVar->(List TV->Prop)->Prop
 | [],k=>k []
 | r::rs,k=>NX P fr st r fun v=>Ju P fr st rs fun vs=>k (v::vs)
theorem Mw {P:Program} {fr:Fr} {st:St} {r:ResultVar} {k:TV->Prop} (h:NX P fr st r k):∃v,J0 P fr st r=some v/\k v:=by
 cases r with
 | tmp t=>exact⟨_,rfl,h⟩
 | cell a t=>
  unfold NX at h
  unfold J0
  simp only at h⊢
  cases ha:Jb P t with
  | none=>rw[ha]at h;exact h.elim
  | some b=>
   rw[ha]at h
   cases b with
   | true=>
    simp only at h⊢
    cases hn:P.cellsOf t with
    | zero=>rw[hn]at h;exact h.elim
    | succ n=>
     rw[hn]at h
     exact BY.1 h
   | false=>exact BY.1 h
theorem Iz {P:Program} {fr:Fr} {st:St}:∀{rs:List ResultVar} {k:List TV->Prop},Ju P fr st rs k->∃vs,HI P fr st rs=some vs/\k vs
 | [],k,h=>⟨[],rfl,h⟩
 | r::rs,k,h=>by
  obtain⟨v,h1,h2⟩:=Mw h
  obtain⟨vs,h3,h4⟩:=Iz h2
  exact⟨v::vs,by simp[HI,h1,h3],h4⟩
def retQ (P:Program) (fn:Func) (R:TV->St->Prop):Exit->Fr->St->Prop
 | .normal,fr,st=>Ju P fr st fn.results.toList fun vs=>R (P9 vs) st
 | .ret,fr,st=>Ju P fr st fn.results.toList fun vs=>R (P9 vs) st
 | _,_,_=>False
def GP (cfg:Cfg) (fn:Func) (args:List TV):Fr:=⟨⟨fn.ntmps,fun i=>match args[i]? with | some v=> .t v | none=> .t .undef⟩,cfg.loc.map fun _=>none⟩
theorem NW {g:Ghost} {st:St} {w:World} {fr:Fr} {tmps:Array Value} (s:Sim g st fr.loc w) (hf:Fs g w fr tmps) {r:ResultVar} {v:TV} (h:J0 P fr st r=some v):
  ∃u,(match r with | .tmp t=>pure (tmps.getD t Go.undef) | .cell a t=>do loadVar t (<-asAddr (tmps.getD a Go.undef)):Sem Value).run P w= .ok u w/\Rel g w v u:=by
 cases r with
 | tmp t=>
  simp only[J0,Option.some.injEq]at h
  subst h
  exact⟨_,rfl,(hf.2 t).tv⟩
 | cell a t=>
  simp only[J0]at h
  have hld:∀p,Bk g w fr.loc p (tmps.getD a Go.undef)->(DR P st fr.loc t p).Is (.t v)->∃u,(do loadVar t (<-asAddr (tmps.getD a Go.undef)):Sem Value).run P w= .ok u w/\Rel g w v u:=by
   intro p hp hl
   have hl':=hl
   obtain⟨u,hu,hr⟩:=LJ (P:=P) s hp hl'
   have hsa:(Instr.loadAt t (tmps.getD a Go.undef)).run P w=(do loadVar t (<-asAddr (tmps.getD a Go.undef)):Sem Value).run P w:=by
    generalize hq:tmps.getD a Go.undef=q at hp hu
    simp only[Instr.loadAt,Sem.run_bind]
    cases q with
    | pointer o=>cases o with
     | none=>simp[Instr.loadAt,Instr.sureAddr]at hu
     | some ad=>simp[Instr.sureAddr,asAddr]
    | _=>simp[Instr.loadAt,Instr.sureAddr]at hu
   exact⟨u,by rw[<-hsa];exact hu,hr⟩
  split at h
  ·rename_i ha
   split at h
   ·cases h
   ·rename_i n hn
    refine hld _ (hf.2 a) ?_
    unfold DR
    rw[ha]
    exact⟨v,by
     split
     ·rename_i h0;exact absurd h0 hn
     ·exact h,rfl⟩
  ·rename_i ha
   refine hld _ (hf.2 a) ?_
   unfold DR
   rw[ha]
   exact⟨v,h,rfl⟩
  ·cases h
theorem Jt {g:Ghost} {st:St} {w:World} {fr:Fr} {tmps:Array Value} (s:Sim g st fr.loc w) (hf:Fs g w fr tmps):∀{rs:List ResultVar} {vs:List TV},HI P fr st rs=some vs->
  ∃us:List Value,(rs.mapM (fun r=>match r with | .tmp t=>pure (tmps.getD t Go.undef) | .cell a t=>do loadVar t (<-asAddr (tmps.getD a Go.undef))):Sem (List Value)).run P w= .ok us w/\AG g w vs us
 | [],vs,h=>by simp only[HI,Option.some.injEq]at h;subst h;exact⟨[],rfl,.nil _ _⟩
 | r::rs,vs,h=>by
  simp only[HI]at h
  split at h
  ·rename_i v hv
   obtain⟨vs',hvs',rfl⟩:=Option.map_eq_some_iff.1 h
   obtain⟨u,hu,hr⟩:=NW s hf hv
   obtain⟨us,hus,hrs⟩:=Jt s hf hvs'
   refine⟨u::us,?_,.cons hr hrs⟩
   rw[List.mapM_cons]
   simp only[Sem.run_bind,hu,Result.andThen_ok,hus,Sem.run_pure]
  ·cases h
theorem Qk {g:Ghost} {st:St} {w:World} {fr:Fr} {tmps:Array Value} (s:Sim g st fr.loc w) (hf:Fs g w fr tmps) {fn:Func} {v:TV} (h:resT P fn fr st=some v):∃u,(results fn tmps).run P w= .ok u w/\Rel g w v u:=by
 unfold resT at h
 cases hr:HI P fr st fn.results.toList with
 | none=>rw[hr]at h;cases h
 | some vs=>
  rw[hr]at h
  obtain⟨us,hus,hrel⟩:=Jt s hf hr
  have hrun:(fn.results.mapM (fun r=>match r with | .tmp t=>pure (tmps.getD t Go.undef) | .cell a t=>do loadVar t (<-asAddr (tmps.getD a Go.undef))):Sem (Array Value)).run P w= .ok us.toArray w:=by
   rw[<-Array.toArray_toList (xs:=fn.results),List.mapM_toArray]
   simp only[Sem.run_map,hus,Result.andThen_ok]
  refine⟨if h:us.toArray.size=1 then us.toArray[0]else .tuple us.toArray,?_,?_⟩
  ·have hres:results fn tmps=(do
     let vs<-(fn.results.mapM (fun r=>match r with | .tmp t=>pure (tmps.getD t Go.undef) | .cell a t=>do loadVar t (<-asAddr (tmps.getD a Go.undef))):Sem (Array Value))
     pure (if h:vs.size=1 then vs[0]else .tuple vs)):=rfl
   rw[hres,Sem.run_bind,hrun]
   rfl
  ·cases vs with
   | nil=>
    simp only[Option.map_some,Option.some.injEq,P9]at h;subst h
    have:us=[]:=List.eq_nil_of_length_eq_zero hrel.1.symm
    subst this
    exact Rel.tuple [] [] rfl (fun i hi=>absurd hi (Nat.not_lt_zero _))
   | cons v1 vs1=>cases vs1 with
    | nil=>
     simp only[Option.map_some,Option.some.injEq,P9]at h;subst h
     cases us with
     | nil=>have:=hrel.1;simp at this
     | cons u1 us1=>
      have:us1=[]:=List.eq_nil_of_length_eq_zero (by have:=hrel.1;simpa using this.symm)
      subst this
      simpa using hrel.2 0 (by simp)
    | cons v2 vs2=>
     simp only[Option.map_some,Option.some.injEq,P9]at h;subst h
     have hl:us.toArray.size≠1:=by have:=hrel.1;simp at this⊢;omega
     rw[dif_neg hl]
     exact Rel.tuple _ us hrel.1 hrel.2
theorem RU (hm:P.follows .mixedOrders=true) {f:FuncId} {fn:Func} {c:Code} (hcall:∀(vs:Array Value) (w:World),(callFunc f vs).run P w= .ok (.enter f vs) w) (hf:P.funcs[f]? =some fn) (hb:fn.body=some c)
  (cfg:Cfg) (h:HW) {args:List TV} {st:St} {R:TV->St->Prop} (hn:args.length<=fn.ntmps)
  (hc:cwp cfg P fn.ntmps cfg.loc.length c h (retQ P fn R) (GP cfg fn args) st):Dv P f args st R:=by
 refine GE hcall fun g w vargs s hr=>?_
 refine calls_of_wp hf hb ?_
 have hlen:vargs.length=args.length:=hr.1.symm
 have hsize:(vargs.toArray++Array.replicate (fn.ntmps-vargs.toArray.size) Go.undef).size=fn.ntmps:=by simp;omega
 have hsim:Sim g st (GP cfg fn args).loc w:=s.weakLoc fun j x' hx'=>by
  simp only[GP,List.getElem?_map]at hx'
  cases hq:cfg.loc[j]? with
  | none=>rw[hq]at hx';cases hx'
  | some q=>rw[hq]at hx';simp at hx'
 have hfr:Fs g w (GP cfg fn args) (vargs.toArray++Array.replicate (fn.ntmps-vargs.toArray.size) Go.undef):=by
  refine⟨by rw[hsize];rfl,fun i=>?_⟩
  by_cases hia:i<args.length
  ·have h1:(GP cfg fn args).slots.f i= .t args[i]:=by simp[GP,hia]
   have h2:(vargs.toArray++Array.replicate (fn.ntmps-vargs.toArray.size) Go.undef).getD i Go.undef=vargs.getD i Go.undef:=by
    have:i<vargs.length:=by omega
    have hin:i<fn.ntmps:=by omega
    simp[Array.getD,Array.getElem_append,this,hin,List.getD_eq_getElem?_getD]
    omega
   rw[h1,h2]
   exact hr.2 i hia
  ·have h1:(GP cfg fn args).slots.f i= .t .undef:=by simp[GP,hia]
   have h2:(vargs.toArray++Array.replicate (fn.ntmps-vargs.toArray.size) Go.undef).getD i Go.undef=Go.undef:=by
    have:¬i<vargs.length:=by omega
    simp[Array.getD,Array.getElem_append,this]
   rw[h1,h2]
   exact Rel.undef
 refine wp_mono (Sy hm c h _ _ st g w {tmps:=vargs.toArray++Array.replicate (fn.ntmps-vargs.toArray.size) Go.undef,defers:=[]} hc hsim hfr hsize) fun e a' w' hq=>?_
 obtain⟨fr',st',g',h1,h2,h3,h4,h5,h6⟩:=hq
 have fin:Ju P fr' st' fn.results.toList (fun vs=>R (P9 vs) st')->a'.defers=[]/\∃v,(results fn a'.tmps).run P w'= .ok v w'/\∃v',Ending.returned v= .returned v'/\∃r st' g',R r st'/\Sim g' st' [] w'/\Rel g' w' r v'/\Ext g w g' w':=by
  intro ho
  obtain⟨vs,hvs,hR⟩:=Iz ho
  obtain⟨u,hu,hrel⟩:=Qk (fn:=fn) h2 h3 (by unfold resT;rw[hvs];rfl)
  exact⟨h5,u,hu,u,rfl,_,st',g',hR,h2.dropLoc (fun j x hx=>by simp at hx),hrel,h4⟩
 cases e with
 | normal=>exact fin h1
 | ret=>exact fin h1
 | _=>exact h1.elim
def St.zero:St:={nb:=0,box:=fun _=> .dead,nt:=0,live:=fun _=>false,ty:=fun _=>none,bt:=fun _=>none}
def Ghost.start (w:World):Ghost:={base:=w.heap.size,w0:=w,nb:=0,bk:=fun _=>0,lam:=fun _=>0,nt:=0,sp:=fun _=>none,S:=fun a=>a.spot=none/\∃v,w.cell? a=some v,prot:=fun _=>False}
theorem Sim.start (w:World) (hG:∀w',Below w.heap.size w w'->Ox w'):Sim (Ghost.start w) St.zero [] w:=by
 have hd:∀k,¬Dom St.zero [] k:=by
  intro k d
  cases k with
  | box i=>exact absurd d (Nat.not_lt_zero _)
  | loc i=>obtain⟨x,hx⟩:=d;simp at hx
 exact⟨rfl,rfl,Below.refl _ _,Nat.le_refl _,fun k d=>absurd d (hd k),fun k k' d=>absurd d (hd k),fun k d=>absurd d (hd k),fun id h=>absurd h (Nat.not_lt_zero _),
  fun id b l h hh=>(by cases hh),fun i j b l h l' h' _ hh=>(by cases hh),fun id _=>rfl,fun a ha=>⟨ha.1,ha.2,fun k d=>absurd d (hd k),fun id l h hh=>(by cases hh)⟩,fun b hb=>hb.elim,fun id b l h hh=>(by cases hh),fun id b l h T hh=>(by cases hh),fun b T hb=>absurd hb (Nat.not_lt_zero _),hG⟩
theorem QV {f:FuncId} {args:List TV} (hcall:∀(vs:Array Value) (w:World),(callFunc f vs).run P w= .ok (.enter f vs) w) (h:Dv P f args St.zero fun r _=>r= .bool true) (w:World) (hG:∀w',Below w.heap.size w w'->Ox w') (vargs:List Value) (hr:AG (Ghost.start w) w args vargs):
  Calls P f vargs.toArray w fun e w'=>e= .returned (.bool true)/\Below w.heap.size w w':=by
 have h1:=h.run (Ghost.start w) w vargs (Sim.start w hG) hr
 unfold CS at h1
 rw[hcall]at h1
 refine Calls.mono h1 ?_
 rintro e w' ⟨v,rfl,r,st',g',rfl,s',hrel,e'⟩
 have hb:=s'.below
 rw[e'.base,e'.w0]at hb
 cases hrel
 exact⟨rfl,hb⟩
end
def QX (fn:Func):Code:=match fn.body with | some c=>c | none=> .skip
def Fw (cfg:Cfg) (P:Program) (h:HW) (fn:Func) (args:List TV) (st:St) (R:TV->St->Prop):Prop:=
 cwp cfg P fn.ntmps cfg.loc.length (QX fn) h (retQ P fn R) (GP cfg fn args) st
def fits (fn:Func) (args:List TV):Bool:=(fn.body.isSome).and (args.length.ble fn.ntmps)
theorem Af {P:Program} (hm:P.follows .mixedOrders=true) {f:FuncId} {fn:Func} (hcall:∀(vs:Array Value) (w:World),(callFunc f vs).run P w= .ok (.enter f vs) w) (hf:P.funcs[f]? =some fn)
  {cfg:Cfg} {h:HW} {args:List TV} {st:St} {R:TV->St->Prop} (hn:fits fn args=true) {V:Prop} (he:Fw cfg P h fn args st R=V) (hV:V):Dv P f args st R:=by
 simp only[fits,Bool.and_eq_true]at hn
 obtain⟨c,hc⟩:=Option.isSome_iff_exists.1 hn.1
 have hb:fn.body=some (QX fn):=by rw[QX,hc]
 rw[<-he]at hV
 exact RU hm hcall hf hb cfg h (Nat.le_of_ble_eq_true hn.2) hV
def B5 (cs:List CTy) (v:TV) (f:Fun cs Prop):Prop:=
 match v with
 | .agg l=>decL cs l f
 | _=>False
def stB (st:St) (p:TV) (xs:List TV) (k:St->Prop):Prop:=
 match p with
 | .box b off=>∃l,st.box b= .cells l/\off+xs.length<=l.length/\k (st.put b (.cells (setAll l off xs)))
 | _=>False
theorem Ab {p:Prop} [Decidable p] {x y:Prop} (h1:p->x) (h2:¬p->y):BIf (decide p) x y:=by
 by_cases h:p
 ·simp only[h,decide_true,BIf];exact h1 h
 ·simp only[h,decide_false,BIf];exact h2 h
theorem As {b:Bool} {x y:Prop} (h1:b=true->x) (h2:b=false->y):BIf b x y:=by
 cases b
 ·exact h2 rfl
 ·exact h1 rfl
end Go.TVF
end
section
namespace Go.TVF
open Go.IntKind(i64 u8)
structure Aj (a b:St):Prop where
 nb:a.nb<=b.nb
 box:∀i,i<a.nb->b.box i=a.box i
 nt:a.nt<=b.nt
 live:∀i,i<a.nt->b.live i=a.live i
 ty:∀i,i<a.nt->b.ty i=a.ty i
 bt:∀i,i<a.nb->b.bt i=a.bt i
theorem Aj.refl (a:St):Aj a a:=⟨Nat.le_refl _,fun _ _=>rfl,Nat.le_refl _,fun _ _=>rfl,fun _ _=>rfl,fun _ _=>rfl⟩
theorem Aj.trans {a b c:St} (h:Aj a b) (k:Aj b c):Aj a c:=
 ⟨Nat.le_trans h.nb k.nb,fun i hi=>(k.box i (Nat.lt_of_lt_of_le hi h.nb)).trans (h.box i hi),Nat.le_trans h.nt k.nt,fun i hi=>(k.live i (Nat.lt_of_lt_of_le hi h.nt)).trans (h.live i hi),fun i hi=>(k.ty i (Nat.lt_of_lt_of_le hi h.nt)).trans (h.ty i hi),fun i hi=>(k.bt i (Nat.lt_of_lt_of_le hi h.nb)).trans (h.bt i hi)⟩
theorem Aj.fresh {a b:St} (h:Aj a b) (T:Option Nat):Aj a (b.fresh T):=
 h.trans ⟨Nat.le_refl _,fun _ _=>rfl,Nat.le_succ _,fun i hi=>by simp only[St.fresh];rw[if_neg (by omega)],fun i hi=>by simp only[St.fresh];rw[if_neg (by omega)],fun _ _=>rfl⟩
theorem Aj.push {a b:St} (h:Aj a b) (o:JO) (T:Option Nat):Aj a (b.push o T):=
 h.trans ⟨Nat.le_succ _,fun i hi=>by simp only[St.push];rw[if_neg (by omega)],Nat.le_refl _,fun _ _=>rfl,fun _ _=>rfl,fun i hi=>by simp only[St.push];rw[if_neg (by omega)]⟩
theorem Aj.retire {a b:St} (h:Aj a b) {id:Nat} (hid:a.nt<=id):Aj a (b.retire id):=
 ⟨h.nb,h.box,h.nt,fun i hi=>by simp only[St.retire];rw[if_neg (by omega)];exact h.live i hi,h.ty,h.bt⟩
theorem FM (l:B8):(AN l).length=l.length:=by simp[AN]
theorem DZ:∀l:B8,EX (AN l)=some l
 | []=>rfl
 | c::l=>by
  have:=DZ l
  simp only[AN]at this
  simp[AN,EX,JM,Q1,this]
def Rd (sz:Nat) (v:TV) (n:Nat) (xs:List TV):Prop:=
 (v= .nilSlice/\n=0/\xs=[])∨∃tip,v= .list sz tip n xs
def Own (b sz:Nat) (st:St) (v:TV) (n:Nat) (xs:List TV):Prop:=
 (v= .nilSlice/\n=0/\xs=[])∨∃tip,v= .list sz tip n xs/\(tip= .full∨∃id,tip= .own id/\b<=id/\id<st.nt/\st.live id=true)
theorem Own.rd {b sz:Nat} {st:St} {v:TV} {n:Nat} {xs:List TV} (h:Own b sz st v n xs):Rd sz v n xs:=by
 rcases h with h | ⟨tip,h,_⟩
 ·exact .inl h
 ·exact .inr ⟨tip,h⟩
theorem Own.ext {b sz:Nat} {st st':St} {v:TV} {n:Nat} {xs:List TV} (h:Own b sz st v n xs) (e:Aj st st'):Own b sz st' v n xs:=by
 rcases h with h | ⟨tip,h,ht | ⟨id,h1,h2,h3,h4⟩⟩
 ·exact .inl h
 ·exact .inr ⟨tip,h,.inl ht⟩
 ·exact .inr ⟨tip,h,.inr ⟨id,h1,h2,Nat.lt_of_lt_of_le h3 e.nt,(e.live id h3).trans h4⟩⟩
theorem Own.nil (b sz:Nat) (st:St):Own b sz st .nilSlice 0 []:= .inl ⟨rfl,rfl,rfl⟩
theorem Own.full (b sz:Nat) (st:St) (n:Nat) (xs:List TV):Own b sz st (.list sz .full n xs) n xs:= .inr ⟨_,rfl,.inl rfl⟩
theorem Own.fresh {b sz:Nat} {st:St} {T:Option Nat} (n:Nat) (xs:List TV) (hb:b<=st.nt):Own b sz (st.fresh T) (.list sz (.own st.nt) n xs) n xs:=
 .inr ⟨_,rfl,.inr ⟨st.nt,rfl,hb,Nat.lt_succ_self _,by simp[St.fresh]⟩⟩
theorem Rd.isSl {sz:Nat} {v:TV} {n:Nat} {xs:List TV} (h:Rd sz v n xs):TVF.isSl v=true:=by
 rcases h with⟨rfl,_⟩ | ⟨tip,rfl⟩<;>rfl
theorem Rd.lenS {sz:Nat} {v:TV} {n:Nat} {xs:List TV} (h:Rd sz v n xs):TVF.lenS v=n:=by
 rcases h with⟨rfl,rfl,_⟩ | ⟨tip,rfl⟩<;>rfl
theorem Rd.lenZ {sz:Nat} {v:TV} {n:Nat} {xs:List TV} (h:Rd sz v n xs):TVF.lenZ sz v=n:=by
 rcases h with⟨rfl,rfl,_⟩ | ⟨tip,rfl⟩
 ·rfl
 ·simp[TVF.lenZ]
theorem Rd.isLst {sz:Nat} {v:TV} {n:Nat} {xs:List TV} (h:Rd sz v n xs):TVF.isLst sz v=true:=by
 rcases h with⟨rfl,rfl,_⟩ | ⟨tip,rfl⟩
 ·rfl
 ·simp[TVF.isLst]
theorem Rd.one {sz:Nat} {v:TV} {n:Nat} {xs:List TV} (h:Rd sz v n xs):Ah v=true:=by
 rcases h with⟨rfl,rfl,_⟩ | ⟨tip,rfl⟩<;>rfl
theorem Rd.ld {sz:Nat} {v:TV} {n:Nat} {xs:List TV} (h:Rd sz v n xs) (st:St) (i j:Nat) (hi:i*sz+j<xs.length):Ac st [] (.t (ixT sz v i)) j=some xs[i*sz+j]:=by
 rcases h with⟨rfl,rfl,rfl⟩ | ⟨tip,rfl⟩
 ·simp at hi
 ·simp[Ac,ixT,hi]
theorem Rd.ldf {sz:Nat} {v:TV} {n:Nat} {xs:List TV} (h:Rd sz v n xs) (st:St) (i f:Nat) (hi:i*sz+f<xs.length):Ac st [] (.t (Au (ixT sz v i) f)) 0=some xs[i*sz+f]:=by
 rcases h with⟨rfl,rfl,rfl⟩ | ⟨tip,rfl⟩
 ·simp at hi
 ·simp[Ac,ixT,Au,hi]
theorem HU {T b sz bytes:Nat} {st0 st:St} {v:TV} {n k:Nat} {xs ys:List TV} {K:TV->St->Prop} (e:Aj st0 st) (hb:b=st0.nt) (h:Own b sz st v n xs) (hby:(n+k)*bytes<=140737488355328) (hys:k=0->ys=[])
  (hK:∀v' st',Aj st0 st'->st'.box=st.box->Own b sz st' v' (n+k) (xs++ys)->K v' st'):Cl T sz bytes v k ys st K:=by
 subst hb
 rcases h with⟨rfl,rfl,rfl⟩ | ⟨tip,rfl,ht⟩
 ·simp only[Cl]
  cases k with
  | zero=>rw[hys rfl]at hK;exact hK _ _ e rfl (.nil _ _ _)
  | succ m=>
   simp only[Ai]
   refine⟨by simpa using hby,hK _ _ (e.fresh _) rfl ?_⟩
   simp only[List.nil_append,Nat.zero_add]
   exact Own.fresh _ _ e.nt
 ·simp only[Cl,Nat.beq_refl]
  refine⟨hby,?_⟩
  rcases ht with rfl | ⟨id,rfl,h1,h2,h3⟩
  ·cases k with
   | zero=>rw[hys rfl]at hK;simp only[List.append_nil]at hK;exact hK _ _ e rfl (Own.full _ _ _ _ _)
   | succ m=>exact hK _ _ (e.fresh _) rfl (Own.fresh _ _ e.nt)
  ·exact⟨h3,hK _ _ ((e.retire h1).fresh _) rfl (Own.fresh (st:=st.retire id) _ _ e.nt)⟩
theorem Aa {b:Bool} {k:Prop} (h:b=true) (hk:k):need b k:=Ai.2 ⟨h,hk⟩
theorem Ad {α:Type} {o:Option α} {x:α} {k:α->Prop} (h:o=some x) (hk:k x):Ak o k:=by rw[h];exact hk
theorem Ao (x:Int) (h1: -9223372036854775808<=x) (h2:x<=9223372036854775807):IntKind.wrap .i64 x=x:=by
 unfold IntKind.wrap
 simp only[IntKind.signed,IntKind.bits]
 simp
 omega
theorem wrapU8 (x:Int) (h1:0<=x) (h2:x<=255):IntKind.wrap .u8 x=x:=by
 unfold IntKind.wrap
 simp only[IntKind.signed,IntKind.bits]
 simp
 omega
end Go.TVF
end
section
namespace Go.TVF
open Go.IntKind(i64 u8)
open Go.RowKit (Below)
theorem T6 {r:TV} {st':St} (h:Ez [.one .bool] r (fun (b:Bool) (_:St)=>b=true) (fun p=>p st')):r= .bool true:=by
 cases r<;>simp only[Ez,Fm,AO]at h<;>first | exact h.elim | skip
 subst h;rfl
theorem calls_law {P:Program} {f:FuncId} {args:List TV} (hcall:∀(vs:Array Value) (w:World),(callFunc f vs).run P w= .ok (.enter f vs) w) (h:CallT P f args [.one .bool] St.zero (fun r _=>r=true)) (w:World) (hG:∀w',Below w.heap.size w w'->Ox w') (vargs:List Value) (hr:AG (Ghost.start w) w args vargs):
  Calls P f vargs.toArray w fun e w'=>e= .returned (.bool true)/\Below w.heap.size w w':=
 QV hcall (Dv.mono h fun r st' hd=>T6 hd) w hG vargs hr
theorem Lt (g:Ghost) (w:World) (s:ByteArray):Rel g w (.str s.data.toList) (.string s):=by
 have:=Rel.str (g:=g) (w:=w) s.data.toList
 simpa using this
def LV:List CTy->List TV->Prop
 | [],xs=>xs=[]
 | .int k::cs,xs=>∃n ys,xs= .int k n::ys/\(Lit.int k n).wf=true/\LV cs ys
 | .str::cs,xs=>∃l ys,xs= .str l::ys/\l.length<=maxLen/\LV cs ys
 | .bool::cs,xs=>∃b ys,xs= .bool b::ys/\LV cs ys
 | .tv::_,_=>False
def Ui (P:Program):CTy->TypeId->Prop
 | .int k,t=>P.underlying t=some (.int k)
 | .bool,t=>P.underlying t=some .bool
 | .str,t=>P.underlying t=some .string
 | .tv,_=>False
section
variable {H:Type} {enc:TypeId×Value->H} {P:Program} {w:World} {base:Nat} {sp:Nat->Bool} {held:Bool}
theorem Sg {c:CTy} {t:TypeId} {fuel:Nat} {cs:List Value} {x:DataW H×List MemPlace} (g:Ghost) (hc:Ui P c t) (h:DataW.trod enc P w base sp held fuel t cs=some x):
  ∃v u,cs=[u]/\Rel g w v u/\LV [c] [v]:=by
 cases c with
 | int k=>
  obtain⟨n,rfl,_,hw⟩:=DataW.trod_int hc h
  exact⟨_,_,rfl,.int k n,n,[],rfl,hw,rfl⟩
 | bool=>
  obtain⟨b,rfl,_⟩:=DataW.trod_bool hc h
  exact⟨_,_,rfl,.bool b,b,[],rfl,rfl⟩
 | str=>
  obtain⟨s,rfl,_,hs⟩:=DataW.trod_string hc h
  exact⟨_,_,rfl,Lt g w s,_,[],rfl,by rw[Array.length_toList];exact hs,rfl⟩
 | tv=>exact hc.elim
theorem Q5 (b off i:Nat):(⟨b,off,none⟩:Addr).add i=⟨b,off+i,none⟩:=by
 unfold Addr.add;split
 ·rename_i h;subst h;rfl
 ·rfl
end
end Go.TVF
end
namespace Go.TVF
open Go.IntKind(i64 u8)
open Go Go.Proofs
theorem mixed:Tryz.prog.follows .mixedOrders=true:=by kernel_rfl
noncomputable def PR:Program:=Tryz.prog
abbrev V13(X:Type):=Int->Bool->Bool->B8->Int->Int->Int->Int->Int->B8->TV->TV->TV->X
abbrev sV:RTy:=.agg [.int .i64,.bool,.bool,.str,.int .i64,.int .i64,.int .i64,.int .i64,.int .i64,.str,.tv,.tv,.tv]
abbrev cV(a:Int)(b c:Bool)(d:B8)(e f g h i:Int)(j:B8)(k l m:TV):List TV:=[.int .i64 a,.bool b,.bool c,.str d,.int .i64 e,.int .i64 f,.int .i64 g,.int .i64 h,.int .i64 i,.str j,k,l,m]
abbrev BId(p:Prop)[Decidable p](a b:Prop):Prop:=BIf (decide p) a b
def fn_datakitlaw25_SectionBuilds:Nat:=3
def CP:Nat:=7
def BQ:Nat:=8
def Dd:Nat:=9
def CF:Nat:=10
def Ch:Nat:=11
def A9:Nat:=12
def CG:Nat:=13
def AU:Nat:=23
def DU:Nat:=24
def Ej:Nat:=25
def Am:Nat:=26
def Dq:Nat:=27
def A8:Nat:=28
def Be:Nat:=29
def AI:Nat:=30
def CJ:Nat:=32
def DV:Nat:=44
def CD:Nat:=45
def BT:Nat:=46
def Cw:Nat:=47
def D4:Nat:=48
def C6:Nat:=49
def C5:Nat:=50
def B3:Nat:=53
def Bn:Nat:=55
def C7:Nat:=59
def ES:Nat:=60
def A5:Nat:=62
def CH:Nat:=63
def AB:Nat:=70
def CU:Nat:=71
def Cb:Nat:=72
def BN:Nat:=73
def BS:Nat:=74
def AM:Nat:=75
def FR:Nat:=76
def Fh:Nat:=77
def Aw:Nat:=78
def Bc:Nat:=79
def Bv:Nat:=80
def BD:Nat:=81
def CE:Nat:=82
def B2:Nat:=83
def Bd:Nat:=84
def Ay:Nat:=85
def AP:Nat:=86
def A0:Nat:=87
def Fg:Nat:=88
def Eb:Nat:=89
def DA:Nat:=90
def FQ:Nat:=91
def Ds:Nat:=93
def I6:Nat:=96
def BO:Nat:=98
def Cx:Nat:=103
def Eg:Nat:=104
def Ei:Nat:=105
def Bz:Nat:=106
def EG:Nat:=107
def Bi:Nat:=108
def CI:Nat:=109
def Ey:Nat:=110
def Ex:Nat:=111
def GR:Nat:=112
def Dr:Nat:=113
def CM:Nat:=114
def CL:Nat:=115
def Bm:Nat:=116
def FT:Nat:=117
def BF:Nat:=120
def Eh:Nat:=123
def FU:Nat:=125
def Er:Nat:=126
def CO:Nat:=127
def CN:Nat:=128
def CK:Nat:=129
def Bs:Nat:=130
def HR:Nat:=131
def FS:Nat:=132
def GS:Nat:=133
def BE:Nat:=134
def AZ:Nat:=138
def Cs:Nat:=143
def BU:Nat:=144
def Mu:B8:=[97]
def str1:B8:=[98]
def str2:B8:=[120]
def str3:B8:=[121]
def str4:B8:=[122]
def str5:B8:=[49]
def str6:B8:=[48]
theorem Ek (l:TV) (st:St) (K:Bool->St->Prop) (h:CallT PR CP [l] [.one .bool] st (fun (b1:Bool) e=>BIf (!b1) (CallT PR BQ [] [.one .bool] e (fun (b2:Bool) o=>K b2 o)) (CallT PR Dd [l] [sV,.one (.int .i64),.one (.int .i64)] e (fun (n1:Int) (b3 b4:Bool) (s1:B8) (n2 n3 n4 n5 n6:Int) (s2:B8) (v1 v2 v3:TV) (n7 n8:Int) q=>need (List.all (cV n1 b3 b4 s1 n2 n3 n4 n5 n6 s2 v1 v2 v3) Ah) (CallT PR CF [l] [sV,.one (.int .i64),.one (.int .i64)] q (fun (n9:Int) (b5 b6:Bool) (s3:B8) (c d g f b:Int) (s4:B8) (v4 v5 v6:TV) (p k:Int) r=>need (List.all (cV n9 b5 b6 s3 c d g f b s4 v4 v5 v6) Ah) (CallT PR Ch [l] [.one (.int .i64),.one (.int .i64)] r (fun (m n:Int) i=>CallT PR A9 [(.agg (cV n1 b3 b4 s1 n2 n3 n4 n5 n6 s2 v1 v2 v3)),(.agg (cV n9 b5 b6 s3 c d g f b s4 v4 v5 v6))] [.one .bool] i (fun (b7:Bool) a=>BIf b7 (BId (n7=p) (BId (n8=k) (BId (m=n7) (BId (n=n8) (CallT PR BQ [] [.one .bool] a (fun (b8:Bool) j=>K b8 j)) (K false a)) (K false a)) (K false a)) (K false a)) (K false a)))))))))):CallT PR fn_datakitlaw25_SectionBuilds [l] [.one .bool] st K:=
 Af (cfg:=⟨[3,6],[],[]⟩) (h:= .none) mixed (fun _ _=>Tryz.call3 _ _) Tryz.func3 (by kernel_rfl) (by kernel_rfl) h
theorem Hl (l:TV) (st:St) (K:Bool->St->Prop) (h:∃(I1:Int->TV->St->Prop) (M1:Int->TV->St->Nat),(I1 0 l st)/\∀c f g,I1 c f g->(need (isSl f) (BId (c<(lenS f:Int)) (BId ((30:Int)<=c) (K false g) (((0<=c/\c<(lenZ 16 f:Int))/\need (isPtr (ixT 16 f c.toNat)) (Ak (Ac g [] (.t (Au (ixT 16 f c.toNat) 2)) 0) (fun (v1:TV)=>need (isSl v1) (BId ((60:Int)<(lenS v1:Int)) (K false g) (((0<=c/\c<(lenZ 16 f:Int))/\need (isPtr (ixT 16 f c.toNat)) (Ak ((Al g [] (.t (Au (ixT 16 f c.toNat) 3)) 0 13).map TV.agg) (fun (x2:TV)=>B5 [.int .i64,.bool,.bool,.str,.int .i64,.int .i64,.int .i64,.int .i64,.int .i64,.str,.tv,.tv,.tv] x2 (fun (n1:Int) (b1 b2:Bool) (s1:B8) (n2 n3 n4 n5 n6:Int) (s2:B8) (v2 v3 v4:TV)=>CallT PR CG [(.agg (cV n1 b1 b2 s1 n2 n3 n4 n5 n6 s2 v2 v3 v4))] [.one .bool] g (fun (b3:Bool) j=>BIf (!b3) (K false j) (∃(I2:Int->Int->TV->Int->St->Prop) (M2:Int->Int->TV->Int->St->Nat),(I2 0 0 f c j)/\∀i e b a d,I2 i e b a d->(((0<=a/\a<(lenZ 16 b:Int))/\need (isPtr (ixT 16 b a.toNat)) (Ak (Ac d [] (.t (Au (ixT 16 b a.toNat) 2)) 0) (fun (v5:TV)=>need (isSl v5) (BId (e<(lenS v5:Int)) (((0<=a/\a<(lenZ 16 b:Int))/\need (isPtr (ixT 16 b a.toNat)) (Ak (Ac d [] (.t (Au (ixT 16 b a.toNat) 2)) 0) (fun (v6:TV)=>((0<=e/\e<(lenZ 1 v6:Int))/\Ak (Ac d [] (.t (ixT 1 v6 e.toNat)) 0) (fun (x5:TV)=>AO .str x5 (fun (s3:B8)=>BId ((i64.wrap ((2000:Int)-i))<(s3.length:Int)) (K false d) (((0<=a/\a<(lenZ 16 b:Int))/\need (isPtr (ixT 16 b a.toNat)) (Ak (Ac d [] (.t (Au (ixT 16 b a.toNat) 2)) 0) (fun (v7:TV)=>((0<=e/\e<(lenZ 1 v7:Int))/\Ak (Ac d [] (.t (ixT 1 v7 e.toNat)) 0) (fun (x7:TV)=>AO .str x7 (fun (s4:B8)=>(I2 ((i64.wrap (i+(s4.length:Int)))) ((i64.wrap (e+(1:Int)))) b a d/\M2 ((i64.wrap (i+(s4.length:Int)))) ((i64.wrap (e+(1:Int)))) b a d<M2 i e b a d))))))))))))))) ((I1 ((i64.wrap (a+(1:Int)))) b d/\M1 ((i64.wrap (a+(1:Int)))) b d<M1 c f g)))))))))))))))))))) (K true g)))):CallT PR CP [l] [.one .bool] st K:=
 Af (cfg:=⟨[],[],[]⟩) (h:=(.seq .none (.seq (.seq .none (.block (.loop ⟨[(3,.int .i64),(0,.tv)],[],[],[]⟩ (.seq .none (.seq (.block (.seq .none (.seq .none (.seq .none (.block (.loop ⟨[(4,.int .i64),(5,.int .i64),(0,.tv),(3,.int .i64)],[],[],[]⟩ .none)))))) .none))))) .none))) mixed (fun _ _=>Tryz.call7 _ _) Tryz.func7 (by kernel_rfl) (by kernel_rfl) h
theorem Hn (st:St) (K:Bool->St->Prop) (h:CallT PR AU [(.list 1 .full 2 [.str Mu,.str str1])] [.agg [.bool,.bool,.tv,.int .i64,.bool,.bool,.str,.int .i64,.int .i64,.int .i64,.int .i64,.int .i64,.str,.tv,.tv,.tv]] st (fun (b1 b2:Bool) (v1:TV) (n1:Int) (b3 b4:Bool) (s1:B8) (n2 n3 n4 n5 n6:Int) (s2:B8) (v2 v3 v4:TV) c0=>CallT PR AU [(.list 1 .full 1 [.str str4])] [.agg [.bool,.bool,.tv,.int .i64,.bool,.bool,.str,.int .i64,.int .i64,.int .i64,.int .i64,.int .i64,.str,.tv,.tv,.tv]] c0 (fun (b5 b6:Bool) (v5:TV) (n7:Int) (b7 b8:Bool) (s3:B8) (n8 n9 a6 f5 c4:Int) (s4:B8) (v6 v7 v8:TV) f4=>CallT PR Dd [(.list 16 .full 3 [.bool b1,.bool b2,v1,.int .i64 n1,.bool b3,.bool b4,.str s1,.int .i64 n2,.int .i64 n3,.int .i64 n4,.int .i64 n5,.int .i64 n6,.str s2,v2,v3,v4,.bool true,.bool false,(.list 1 .full 2 [.str str2,.str str3]),.int .i64 0,.bool false,.bool false,(.str []),.int .i64 0,.int .i64 0,.int .i64 0,.int .i64 0,.int .i64 0,(.str []),.nilSlice,.nilSlice,.nilSlice,.bool b5,.bool b6,v5,.int .i64 n7,.bool b7,.bool b8,.str s3,.int .i64 n8,.int .i64 n9,.int .i64 a6,.int .i64 f5,.int .i64 c4,.str s4,v6,v7,v8])] [sV,.one (.int .i64),.one (.int .i64)] f4 (fun (c3:Int) (b9 u:Bool) (s5:B8) (i d9 e6 e7 e9:Int) (s6:B8) (v9 f0 a:TV) (f9 f7:Int) c1=>need (List.all (cV c3 b9 u s5 i d9 e6 e7 e9 s6 v9 f0 a) Ah) (CallT PR AU [(.list 1 .full 1 [.str Mu])] [.agg [.bool,.bool,.tv,.int .i64,.bool,.bool,.str,.int .i64,.int .i64,.int .i64,.int .i64,.int .i64,.str,.tv,.tv,.tv]] c1 (fun (n p:Bool) (d6:TV) (f:Int) (a9 c2:Bool) (s7:B8) (a8 a3 l d1 c7:Int) (s8:B8) (q a4 z:TV) v=>CallT PR AU [(.list 1 .full 2 [.str Mu,.str str1])] [.agg [.bool,.bool,.tv,.int .i64,.bool,.bool,.str,.int .i64,.int .i64,.int .i64,.int .i64,.int .i64,.str,.tv,.tv,.tv]] v (fun (o m:Bool) (a0:TV) (a5:Int) (d5 e3:Bool) (s9:B8) (k c6 a1 a2 e0:Int) (a7:B8) (e2 e5 f6:TV) g=>CallT PR Ch [(.list 16 .full 2 [.bool n,.bool p,d6,.int .i64 f,.bool a9,.bool c2,.str s7,.int .i64 a8,.int .i64 a3,.int .i64 l,.int .i64 d1,.int .i64 c7,.str s8,q,a4,z,.bool o,.bool m,a0,.int .i64 a5,.bool d5,.bool e3,.str s9,.int .i64 k,.int .i64 c6,.int .i64 a1,.int .i64 a2,.int .i64 e0,.str a7,e2,e5,f6])] [.one (.int .i64),.one (.int .i64)] g (fun (f1 c8:Int) d2=>CallT PR AU [(.list 1 .full 1 [.str Mu])] [.agg [.bool,.bool,.tv,.int .i64,.bool,.bool,.str,.int .i64,.int .i64,.int .i64,.int .i64,.int .i64,.str,.tv,.tv,.tv]] d2 (fun (j e8:Bool) (e4:TV) (r:Int) (e1 x:Bool) (d0:B8) (y b0 c5 s f3:Int) (f2:B8) (c9 d8 f8:TV) d7=>CallT PR Ch [(.list 16 .full 2 [.bool j,.bool e8,e4,.int .i64 r,.bool e1,.bool x,.str d0,.int .i64 y,.int .i64 b0,.int .i64 c5,.int .i64 s,.int .i64 f3,.str f2,c9,d8,f8,.bool true,.bool true,(.list 1 .full 1 [.str Mu]),.int .i64 0,.bool false,.bool false,(.str []),.int .i64 0,.int .i64 0,.int .i64 0,.int .i64 0,.int .i64 0,(.str []),.nilSlice,.nilSlice,.nilSlice])] [.one (.int .i64),.one (.int .i64)] d7 (fun (w d3:Int) b=>BId (f7=0) (need (isSl a) (BId ((lenS a:Int)=(2:Int)) (((0<=(1:Int)/\(1:Int)<(lenZ 14 a:Int))/\need (isPtr (ixT 14 a (Int.toNat (1:Int)))) (Ak (Ac b [] (.t (Au (ixT 14 a (Int.toNat (1:Int))) 0)) 0) (fun (x1:TV)=>AO .str x1 (fun (d4:B8)=>BId (d4=str2) (((0<=(1:Int)/\(1:Int)<(lenZ 14 a:Int))/\need (isPtr (ixT 14 a (Int.toNat (1:Int)))) (need (isPtr (Au (ixT 14 a (Int.toNat (1:Int))) 1)) (Ak (Ac b [] (.t (Au (Au (ixT 14 a (Int.toNat (1:Int))) 1) 12)) 0) (fun (d:TV)=>need (isSl d) (BId ((lenS d:Int)=(1:Int)) (((0<=(1:Int)/\(1:Int)<(lenZ 14 a:Int))/\need (isPtr (ixT 14 a (Int.toNat (1:Int)))) (need (isPtr (Au (ixT 14 a (Int.toNat (1:Int))) 1)) (Ak (Ac b [] (.t (Au (Au (ixT 14 a (Int.toNat (1:Int))) 1) 12)) 0) (fun (c:TV)=>((0<=(0:Int)/\(0:Int)<(lenZ 14 c:Int))/\need (isPtr (ixT 14 c (Int.toNat (0:Int)))) (need (isPtr (Au (ixT 14 c (Int.toNat (0:Int))) 1)) (Ak (Ac b [] (.t (Au (Au (ixT 14 c (Int.toNat (0:Int))) 1) 12)) 0) (fun (e:TV)=>need (isSl e) (BId ((lenS e:Int)=(1:Int)) (BId (f1=1) (BId (c8=8) (BId (w=1) (K ((decide (d3=6))) b) (K false b)) (K false b)) (K false b)) (K false b))))))))))) (K false b))))))) (K false b)))))) (K false b))) (K false b))))))))))):CallT PR BQ [] [.one .bool] st K:=
 Af (cfg:=⟨[1],[],[]⟩) (h:= .none) mixed (fun _ _=>Tryz.call8 _ _) Tryz.func8 (by kernel_rfl) (by kernel_rfl) h
theorem JQ (l:TV) (st:St) (K:V13 (Int->Int->St->Prop)) (h:CallT PR DU [l] [.one .tv,.one (.int .i64),.one (.int .i64)] st (fun (v1:TV) (n1 n2:Int) a=>BId (n2≠0) (K 0 false false [] 0 0 0 0 0 [] .nilSlice .nilSlice .nilSlice n1 n2 a) (need (isPtr v1) (need (isPtr v1) (Ak (Ac a [] (.t (Au v1 0)) 0) (fun (v2:TV)=>CallT PR Am [v1,v2] [sV] a (fun (n3:Int) (b1 b2:Bool) (s1:B8) (n4 n5 n6 n7 n8:Int) (s2:B8) (v3 v4 v5:TV) g=>CallT PR Ej [(.agg (cV n3 b1 b2 s1 n4 n5 n6 n7 n8 s2 v3 v4 v5))] [sV] g (fun (n9:Int) (b3 b4:Bool) (s3:B8) (c d f e b:Int) (s4:B8) (v6 v7 v8:TV) i=>need (List.all (cV n9 b3 b4 s3 c d f e b s4 v6 v7 v8) Ah) (K n9 b3 b4 s3 c d f e b s4 v6 v7 v8 0 0 i))))))))):CallT PR Dd [l] [sV,.one (.int .i64),.one (.int .i64)] st K:=
 Af (cfg:=⟨[2],[],[]⟩) (h:= .none) mixed (fun _ _=>Tryz.call9 _ _) Tryz.func9 (by kernel_rfl) (by kernel_rfl) h
theorem Ha (l:TV) (st:St) (K:V13 (Int->Int->St->Prop)) (h:CallT PR Dq [l] [.agg [.int .i64,.bool,.bool,.str,.int .i64,.int .i64,.int .i64,.int .i64,.int .i64,.str,.tv,.tv,.tv,.tv,.tv],.one (.int .i64),.one (.int .i64)] st (fun (n1:Int) (b1 b2:Bool) (s1:B8) (n2 n3 n4 n5 n6:Int) (s2:B8) (v1 v2 v3 v4 v5:TV) (n7 n8:Int) a=>need (List.all [.int .i64 n1,.bool b1,.bool b2,.str s1,.int .i64 n2,.int .i64 n3,.int .i64 n4,.int .i64 n5,.int .i64 n6,.str s2,v1,v2,v3,v4,v5] Ah) (BId (n8≠0) (K 0 false false [] 0 0 0 0 0 [] .nilSlice .nilSlice .nilSlice n7 n8 a) (need (List.all (cV n1 b1 b2 s1 n2 n3 n4 n5 n6 s2 v1 v2 v3) Ah) (K n1 b1 b2 s1 n2 n3 n4 n5 n6 s2 v1 v2 v3 0 0 a))))):CallT PR CF [l] [sV,.one (.int .i64),.one (.int .i64)] st K:=
 Af (cfg:=⟨[2,5],[],[]⟩) (h:= .none) mixed (fun _ _=>Tryz.call10 _ _) Tryz.func10 (by kernel_rfl) (by kernel_rfl) h
theorem JP (l:TV) (st:St) (K:Int->Int->St->Prop) (h:CallT PR DU [l] [.one .tv,.one (.int .i64),.one (.int .i64)] st (fun (v1:TV) (n1 n2:Int) a=>K n1 n2 a)):CallT PR Ch [l] [.one (.int .i64),.one (.int .i64)] st K:=
 Af (cfg:=⟨[],[],[]⟩) (h:= .none) mixed (fun _ _=>Tryz.call11 _ _) Tryz.func11 (by kernel_rfl) (by kernel_rfl) h
theorem Hv (a_0:Int) (a_1:Bool) (a_2:Bool) (a_3:B8) (a_4:Int) (a_5:Int) (a_6:Int) (a_7:Int) (a_8:Int) (a_9:B8) (a_10:TV) (a_11:TV) (a_12:TV) (b_0:Int) (b_1:Bool) (b_2:Bool) (b_3:B8) (b_4:Int) (b_5:Int) (b_6:Int) (b_7:Int) (b_8:Int) (b_9:B8) (b_10:TV) (b_11:TV) (b_12:TV) (st:St) (K:Bool->St->Prop) (h:BId (a_0≠b_0) (K false st) (BIf (!(a_1==b_1)) (K false st) (BIf (!((a_2==b_2)&&(decide (a_3=b_3)&&(decide (a_4=b_4)&&true)))) (K false st) (BIf (!(decide (a_5=b_5)&&(decide (a_6=b_6)&&(decide (a_7=b_7)&&(decide (a_8=b_8)&&true))))) (K false st) (BId (a_9≠b_9) (K false st) (Ak ((toBytes st a_10).map TV.str) (fun (x1:TV)=>AO .str x1 (fun (s1:B8)=>Ak ((toBytes st b_10).map TV.str) (fun (x2:TV)=>AO .str x2 (fun (s2:B8)=>BId (s1≠s2) (K false st) (need (isSl a_11) (need (isSl b_11) (BId ((lenS a_11:Int)≠(lenS b_11:Int)) (K false st) (need (isSl a_12) (need (isSl b_12) (BId ((lenS a_12:Int)≠(lenS b_12:Int)) (K false st) (∃(I1:Int->V13 (V13 (St->Prop))) (M1:Int->V13 (V13 (St->Nat))),(I1 0 a_0 a_1 a_2 a_3 a_4 a_5 a_6 a_7 a_8 a_9 a_10 a_11 a_12 b_0 b_1 b_2 b_3 b_4 b_5 b_6 b_7 b_8 b_9 b_10 b_11 b_12 st)/\∀d n1 b1 b2 s3 n2 n3 n4 n5 n6 s4 v1 v2 v3 n7 b3 b4 s5 n8 n9 j g k s6 v4 v5 v6 f,I1 d n1 b1 b2 s3 n2 n3 n4 n5 n6 s4 v1 v2 v3 n7 b3 b4 s5 n8 n9 j g k s6 v4 v5 v6 f->(need (isSl v2) (BId (d<(lenS v2:Int)) (((0<=d/\d<(lenZ 13 v2:Int))/\Ak ((Al f [] (.t (ixT 13 v2 d.toNat)) 0 13).map TV.agg) (fun (x3:TV)=>B5 [.int .i64,.bool,.bool,.str,.int .i64,.int .i64,.int .i64,.int .i64,.int .i64,.str,.tv,.tv,.tv] x3 (fun (f5:Int) (b5 b6:Bool) (s7:B8) (e7 g0 c5 c6 g2:Int) (s8:B8) (v7 v8 v9:TV)=>((0<=d/\d<(lenZ 13 v5:Int))/\Ak ((Al f [] (.t (ixT 13 v5 d.toNat)) 0 13).map TV.agg) (fun (x4:TV)=>B5 [.int .i64,.bool,.bool,.str,.int .i64,.int .i64,.int .i64,.int .i64,.int .i64,.str,.tv,.tv,.tv] x4 (fun (f7:Int) (b7 b8:Bool) (s9:B8) (e5 g4 d1 f2 c2:Int) (d0:B8) (c7 c8 d2:TV)=>CallT PR A9 [(.agg (cV f5 b5 b6 s7 e7 g0 c5 c6 g2 s8 v7 v8 v9)),(.agg (cV f7 b7 b8 s9 e5 g4 d1 f2 c2 d0 c7 c8 d2))] [.one .bool] f (fun (b9:Bool) c1=>BIf (!b9) (K false c1) ((I1 ((i64.wrap (d+(1:Int)))) n1 b1 b2 s3 n2 n3 n4 n5 n6 s4 v1 v2 v3 n7 b3 b4 s5 n8 n9 j g k s6 v4 v5 v6 c1/\M1 ((i64.wrap (d+(1:Int)))) n1 b1 b2 s3 n2 n3 n4 n5 n6 s4 v1 v2 v3 n7 b3 b4 s5 n8 n9 j g k s6 v4 v5 v6 c1<M1 d n1 b1 b2 s3 n2 n3 n4 n5 n6 s4 v1 v2 v3 n7 b3 b4 s5 n8 n9 j g k s6 v4 v5 v6 f)))))))))) (∃(I2:Int->V13 (V13 (St->Prop))) (M2:Int->V13 (V13 (St->Nat))),(I2 0 n1 b1 b2 s3 n2 n3 n4 n5 n6 s4 v1 v2 v3 n7 b3 b4 s5 n8 n9 j g k s6 v4 v5 v6 f)/\∀a a9 s z m x l r a3 a0 p a7 v b a1 a6 a2 a5 n q a4 a8 u y w o c e,I2 a a9 s z m x l r a3 a0 p a7 v b a1 a6 a2 a5 n q a4 a8 u y w o c e->(need (isSl b) (BId (a<(lenS b:Int)) (((0<=a/\a<(lenZ 14 b:Int))/\need (isPtr (ixT 14 b a.toNat)) (Ak (Ac e [] (.t (Au (ixT 14 b a.toNat) 0)) 0) (fun (x5:TV)=>AO .str x5 (fun (b0:B8)=>((0<=a/\a<(lenZ 14 c:Int))/\need (isPtr (ixT 14 c a.toNat)) (Ak (Ac e [] (.t (Au (ixT 14 c a.toNat) 0)) 0) (fun (x6:TV)=>AO .str x6 (fun (c0:B8)=>BId (b0≠c0) ((Ac e [] (.t (Au (ixT 14 c a.toNat) 0)) 0=some (.str c0)/\(Ac e [] (.t (Au (ixT 14 b a.toNat) 0)) 0=some (.str b0)/\K false e))) (((0<=a/\a<(lenZ 14 b:Int))/\need (isPtr (ixT 14 b a.toNat)) (Ak ((Al e [] (.t (Au (ixT 14 b a.toNat) 1)) 0 13).map TV.agg) (fun (x7:TV)=>B5 [.int .i64,.bool,.bool,.str,.int .i64,.int .i64,.int .i64,.int .i64,.int .i64,.str,.tv,.tv,.tv] x7 (fun (c4:Int) (f4 d8:Bool) (f0:B8) (f6 d9 d6 f1 e1:Int) (f3:B8) (e4 d3 e0:TV)=>((0<=a/\a<(lenZ 14 c:Int))/\need (isPtr (ixT 14 c a.toNat)) (Ak ((Al e [] (.t (Au (ixT 14 c a.toNat) 1)) 0 13).map TV.agg) (fun (x8:TV)=>B5 [.int .i64,.bool,.bool,.str,.int .i64,.int .i64,.int .i64,.int .i64,.int .i64,.str,.tv,.tv,.tv] x8 (fun (g3:Int) (d7 f8:Bool) (e9:B8) (d5 c3 g1 e2 e8:Int) (e3:B8) (f9 e6 c9:TV)=>CallT PR A9 [(.agg (cV c4 f4 d8 f0 f6 d9 d6 f1 e1 f3 e4 d3 e0)),(.agg (cV g3 d7 f8 e9 d5 c3 g1 e2 e8 e3 f9 e6 c9))] [.one .bool] e (fun (d4:Bool) i=>(Ac i [] (.t (Au (ixT 14 c a.toNat) 0)) 0=some (.str c0)/\(Ac i [] (.t (Au (ixT 14 b a.toNat) 0)) 0=some (.str b0)/\BIf (!d4) (K false i) ((I2 ((i64.wrap (a+(1:Int)))) a9 s z m x l r a3 a0 p a7 v b a1 a6 a2 a5 n q a4 a8 u y w o c i/\M2 ((i64.wrap (a+(1:Int)))) a9 s z m x l r a3 a0 p a7 v b a1 a6 a2 a5 n q a4 a8 u y w o c i<M2 a a9 s z m x l r a3 a0 p a7 v b a1 a6 a2 a5 n q a4 a8 u y w o c e))))))))))))))))))))))) (K true e))))))))))))))))))))))):CallT PR A9 [(.agg (cV a_0 a_1 a_2 a_3 a_4 a_5 a_6 a_7 a_8 a_9 a_10 a_11 a_12)),(.agg (cV b_0 b_1 b_2 b_3 b_4 b_5 b_6 b_7 b_8 b_9 b_10 b_11 b_12))] [.one .bool] st K:=
 Af (cfg:=⟨[2,3],[],[78,83,98,104,112,118]⟩) (h:=(.seq .none (.seq .none (.seq (.seq .none (.block (.loop ⟨[(5,.int .i64)],[(2,0,0),(3,1,0)],[(0,13),(1,13)],[(0,0,.int .i64),(0,1,.bool),(0,2,.bool),(0,3,.str),(0,4,.int .i64),(0,5,.int .i64),(0,6,.int .i64),(0,7,.int .i64),(0,8,.int .i64),(0,9,.str),(0,10,.tv),(0,11,.tv),(0,12,.tv),(1,0,.int .i64),(1,1,.bool),(1,2,.bool),(1,3,.str),(1,4,.int .i64),(1,5,.int .i64),(1,6,.int .i64),(1,7,.int .i64),(1,8,.int .i64),(1,9,.str),(1,10,.tv),(1,11,.tv),(1,12,.tv)]⟩ .none))) (.seq (.seq .none (.block (.loop ⟨[(6,.int .i64)],[(2,0,0),(3,1,0)],[(0,13),(1,13)],[(0,0,.int .i64),(0,1,.bool),(0,2,.bool),(0,3,.str),(0,4,.int .i64),(0,5,.int .i64),(0,6,.int .i64),(0,7,.int .i64),(0,8,.int .i64),(0,9,.str),(0,10,.tv),(0,11,.tv),(0,12,.tv),(1,0,.int .i64),(1,1,.bool),(1,2,.bool),(1,3,.str),(1,4,.int .i64),(1,5,.int .i64),(1,6,.int .i64),(1,7,.int .i64),(1,8,.int .i64),(1,9,.str),(1,10,.tv),(1,11,.tv),(1,12,.tv)]⟩ .none))) .none))))) mixed (fun _ _=>Tryz.call12 _ _) Tryz.func12 (by kernel_rfl) (by kernel_rfl) h
theorem Hb (v_0:Int) (v_1:Bool) (v_2:Bool) (v_3:B8) (v_4:Int) (v_5:Int) (v_6:Int) (v_7:Int) (v_8:Int) (v_9:B8) (v_10:TV) (v_11:TV) (v_12:TV) (st:St) (K:Bool->St->Prop) (h:CallT PR A8 [(.agg (cV v_0 v_1 v_2 v_3 v_4 v_5 v_6 v_7 v_8 v_9 v_10 v_11 v_12)),.int .i64 60,.int .i64 150,.int .i64 3000] [.one (.int .i64)] st (fun (n1:Int) a=>BId ((0:Int)<=n1) (CallT PR Be [(.agg (cV v_0 v_1 v_2 v_3 v_4 v_5 v_6 v_7 v_8 v_9 v_10 v_11 v_12))] [.one (.int .i64)] a (fun (n2:Int) b=>K ((decide (n2<=20000))) b)) (K false a))):CallT PR CG [(.agg (cV v_0 v_1 v_2 v_3 v_4 v_5 v_6 v_7 v_8 v_9 v_10 v_11 v_12))] [.one .bool] st K:=
 Af (cfg:=⟨[1],[],[]⟩) (h:= .none) mixed (fun _ _=>Tryz.call13 _ _) Tryz.func13 (by kernel_rfl) (by kernel_rfl) h
theorem Hm (keys:TV) (st:St) (K:Bool->Bool->TV->V13 (St->Prop)) (h:CallT PR DV [] [sV] st (fun (n1:Int) (b1 b2:Bool) (s1:B8) (n2 n3 n4 n5 n6:Int) (s2:B8) (v1 v2 v3:TV) a=>need (List.all [keys] Ah) (need (List.all [.bool false,.bool false,keys,.int .i64 n1,.bool b1,.bool b2,.str s1,.int .i64 n2,.int .i64 n3,.int .i64 n4,.int .i64 n5,.int .i64 n6,.str s2,v1,v2,v3] Ah) (K false false keys n1 b1 b2 s1 n2 n3 n4 n5 n6 s2 v1 v2 v3 a)))):CallT PR AU [keys] [.agg [.bool,.bool,.tv,.int .i64,.bool,.bool,.str,.int .i64,.int .i64,.int .i64,.int .i64,.int .i64,.str,.tv,.tv,.tv]] st K:=
 Af (cfg:=⟨[2],[],[]⟩) (h:= .none) mixed (fun _ _=>Tryz.call23 _ _) Tryz.func23 (by kernel_rfl) (by kernel_rfl) h
theorem Ld (l:TV) (st:St) (K:TV->Int->Int->St->Prop) (h:CallT PR CD [] [.one .tv] st (fun (v1:TV) g=>need (isSl l) (∃(I1:Int->TV->TV->Int->St->Prop) (M1:Int->TV->TV->Int->St->Nat),(I1 0 v1 l ((lenS l:Int)) g)/\∀a b c d e,I1 a b c d e->(BId (a<d) (((0<=a/\a<(lenZ 16 c:Int))/\Ak ((Al e [] (.t (ixT 16 c a.toNat)) 0 16).map TV.agg) (fun (x1:TV)=>B5 [.bool,.bool,.tv,.int .i64,.bool,.bool,.str,.int .i64,.int .i64,.int .i64,.int .i64,.int .i64,.str,.tv,.tv,.tv] x1 (fun (b1 b2:Bool) (v2:TV) (n1:Int) (b3 b4:Bool) (s1:B8) (n2 n3 n4 n5 n6:Int) (s2:B8) (v3 v4 v5:TV)=>need (List.all [.bool b1,.bool b2,v2,.int .i64 n1,.bool b3,.bool b4,.str s1,.int .i64 n2,.int .i64 n3,.int .i64 n4,.int .i64 n5,.int .i64 n6,.str s2,v3,v4,v5] Ah) (CallT PR BT [b,(.agg [.bool b1,.bool b2,v2,.int .i64 n1,.bool b3,.bool b4,.str s1,.int .i64 n2,.int .i64 n3,.int .i64 n4,.int .i64 n5,.int .i64 n6,.str s2,v3,v4,v5]),.int .i64 a] [.one (.int .i64)] e (fun (n7:Int) f=>BId (n7≠0) (K .nilPtr a n7 f) ((I1 ((i64.wrap (a+(1:Int)))) b c d f/\M1 ((i64.wrap (a+(1:Int)))) b c d f<M1 a b c d e)))))))) (K b 0 0 e))))):CallT PR DU [l] [.one .tv,.one (.int .i64),.one (.int .i64)] st K:=
 Af (cfg:=⟨[7],[],[]⟩) (h:=(.seq .none (.seq .none (.seq (.seq .none (.block (.loop ⟨[(12,.int .i64),(5,.tv),(10,.tv),(11,.int .i64)],[],[],[]⟩ .none))) .none)))) mixed (fun _ _=>Tryz.call24 _ _) Tryz.func24 (by kernel_rfl) (by kernel_rfl) h
theorem Mo (v_0:Int) (v_1:Bool) (v_2:Bool) (v_3:B8) (v_4:Int) (v_5:Int) (v_6:Int) (v_7:Int) (v_8:Int) (v_9:B8) (v_10:TV) (v_11:TV) (v_12:TV) (st:St) (K:V13 (St->Prop)) (h:CallT PR Cw [(.agg (cV v_0 v_1 v_2 v_3 v_4 v_5 v_6 v_7 v_8 v_9 v_10 v_11 v_12)),.int .i64 65536] [sV] st (fun (n1:Int) (b1 b2:Bool) (s1:B8) (n2 n3 n4 n5 n6:Int) (s2:B8) (v1 v2 v3:TV) a=>need (List.all (cV n1 b1 b2 s1 n2 n3 n4 n5 n6 s2 v1 v2 v3) Ah) (K n1 b1 b2 s1 n2 n3 n4 n5 n6 s2 v1 v2 v3 a))):CallT PR Ej [(.agg (cV v_0 v_1 v_2 v_3 v_4 v_5 v_6 v_7 v_8 v_9 v_10 v_11 v_12))] [sV] st K:=
 Af (cfg:=⟨[1,2],[],[]⟩) (h:= .none) mixed (fun _ _=>Tryz.call25 _ _) Tryz.func25 (by kernel_rfl) (by kernel_rfl) h
theorem FH (b:Nat) (t:Nat) (st:St) (K:V13 (St->Prop)) (h:Ak (Ac st [] (.t (.box t 0)) 0) (fun (v1:TV)=>need (isSl v1) (∃(I1:Int->TV->TV->TV->Int->V13 (V13 (St->Prop))) (M1:Int->TV->TV->TV->Int->V13 (V13 (St->Nat))),(I1 0 ((.box b 0)) ((.box t 0)) v1 ((lenS v1:Int)) 0 false false [] 0 0 0 0 0 [] .nilSlice .nilSlice .nilSlice 7 false false [] 0 0 0 0 0 [] .nilSlice .nilSlice .nilSlice st)/\∀c j d g k n1 b1 b2 s1 n2 n3 n4 n5 n6 s2 v2 v3 v4 n7 b3 b4 s3 n8 n9 f e i s4 v5 v6 v7 a,I1 c j d g k n1 b1 b2 s1 n2 n3 n4 n5 n6 s2 v2 v3 v4 n7 b3 b4 s3 n8 n9 f e i s4 v5 v6 v7 a->(BId (c<k) (((0<=c/\c<(lenZ 1 g:Int))/\Ak (Ac a [] (.t (ixT 1 g c.toNat)) 0) (fun (x2:TV)=>AO .str x2 (fun (s5:B8)=>need (isPtr d) (need (isPtr d) (Ak (Ac a [] (.t (Au d 1)) 0) (fun (v8:TV)=>Ak (EF a v8) (fun (es1:List (B8×TV))=>need (isPtr (At .nilPtr (Az s5 es1))) (need (isPtr (At .nilPtr (Az s5 es1))) (Ak ((Al a [] (.t (Au (At .nilPtr (Az s5 es1)) 2)) 0 13).map TV.agg) (fun (x4:TV)=>B5 [.int .i64,.bool,.bool,.str,.int .i64,.int .i64,.int .i64,.int .i64,.int .i64,.str,.tv,.tv,.tv] x4 (fun (g0:Int) (b5 b6:Bool) (s6:B8) (f8 g2 e6 e7 g3:Int) (s7:B8) (v9 e8 e9:TV)=>need (List.all (cV g0 b5 b6 s6 f8 g2 e6 e7 g3 s7 v9 e8 e9) Ah) (need (isPtr (At .nilPtr (Az s5 es1))) (need (isPtr (At .nilPtr (Az s5 es1))) (Ak (Ac a [] (.t (Au (At .nilPtr (Az s5 es1)) 0)) 0) (fun (g9:TV)=>need (FO g9) (BIf (!Do g9) (need (isPtr (At .nilPtr (Az s5 es1))) (need (isPtr (At .nilPtr (Az s5 es1))) (Ak (Ac a [] (.t (Au (At .nilPtr (Az s5 es1)) 0)) 0) (fun (i7:TV)=>CallT PR Am [j,i7] [sV] a (fun (g1:Int) (b7 b8:Bool) (s8:B8) (f7 g4 f4 f9 e3:Int) (s9:B8) (f1 f5 f2:TV) i5=>need (List.all (cV g1 b7 b8 s8 f7 g4 f4 f9 e3 s9 f1 f5 f2) Ah) (need (List.all [.str s5,.int .i64 g1,.bool b7,.bool b8,.str s8,.int .i64 f7,.int .i64 g4,.int .i64 f4,.int .i64 f9,.int .i64 e3,.str s9,f1,f5,f2] Ah) (Cl 65 14 184 v7 1 [.str s5,.int .i64 g1,.bool b7,.bool b8,.str s8,.int .i64 f7,.int .i64 g4,.int .i64 f4,.int .i64 f9,.int .i64 e3,.str s9,f1,f5,f2] i5 (fun (e5:TV) i1=>need (List.all [e5] Ah) ((I1 ((i64.wrap (c+(1:Int)))) j d g k n1 b1 b2 s1 n2 n3 n4 n5 n6 s2 v2 v3 v4 n7 b3 b4 s3 n8 n9 f e i s4 v5 v6 e5 i1/\M1 ((i64.wrap (c+(1:Int)))) j d g k n1 b1 b2 s1 n2 n3 n4 n5 n6 s2 v2 v3 v4 n7 b3 b4 s3 n8 n9 f e i s4 v5 v6 e5 i1<M1 c j d g k n1 b1 b2 s1 n2 n3 n4 n5 n6 s2 v2 v3 v4 n7 b3 b4 s3 n8 n9 f e i s4 v5 v6 v7 a)))))))))) (need (isPtr (At .nilPtr (Az s5 es1))) (need (isPtr (At .nilPtr (Az s5 es1))) (Ak (Ac a [] (.t (Au (At .nilPtr (Az s5 es1)) 1)) 0) (fun (g7:TV)=>need (isSl g7) (BId ((0:Int)<(lenS g7:Int)) (need (isPtr (At .nilPtr (Az s5 es1))) (need (isPtr (At .nilPtr (Az s5 es1))) (Ak (Ac a [] (.t (Au (At .nilPtr (Az s5 es1)) 1)) 0) (fun (f6:TV)=>need (isSl f6) (∃(I2:Int->TV->TV->B8->TV->Int->Int->TV->Int->V13 (V13 (V13 (St->Prop)))) (M2:Int->TV->TV->B8->TV->Int->Int->TV->Int->V13 (V13 (V13 (St->Nat)))),(I2 0 j d s5 g k c f6 ((lenS f6:Int)) n1 b1 b2 s1 n2 n3 n4 n5 n6 s2 v2 v3 v4 n7 b3 b4 s3 n8 n9 f e i s4 v5 v6 v7 6 false false [] 0 0 0 0 0 [] .nilSlice .nilSlice .nilSlice a)/\∀l m c7 c9 d5 s d8 q d9 d6 b9 x a0 a1 n w c2 b0 p a3 c3 d7 c0 a6 d0 u r v c4 d1 z c5 c8 y e1 o c1 d3 a5 d4 a7 a4 d2 c6 a2 a8 e2 a9 e0,I2 l m c7 c9 d5 s d8 q d9 d6 b9 x a0 a1 n w c2 b0 p a3 c3 d7 c0 a6 d0 u r v c4 d1 z c5 c8 y e1 o c1 d3 a5 d4 a7 a4 d2 c6 a2 a8 e2 a9 e0->(BId (l<d9) (((0<=l/\l<(lenZ 1 q:Int))/\Ak (Ac e0 [] (.t (ixT 1 q l.toNat)) 0) (fun (i4:TV)=>CallT PR Am [m,i4] [sV] e0 (fun (i3:Int) (h2 h1:Bool) (h4:B8) (h0 g5 i2 h6 h8:Int) (i0:B8) (g8 h9 h7:TV) i6=>need (List.all (cV i3 h2 h1 h4 h0 g5 i2 h6 h8 i0 g8 h9 h7) Ah) (Cl 33 13 168 e2 1 (cV i3 h2 h1 h4 h0 g5 i2 h6 h8 i0 g8 h9 h7) i6 (fun (e4:TV) h5=>need (List.all [e4] Ah) ((I2 ((i64.wrap (l+(1:Int)))) m c7 c9 d5 s d8 q d9 d6 b9 x a0 a1 n w c2 b0 p a3 c3 d7 c0 a6 d0 u r v c4 d1 z c5 c8 y e1 o c1 d3 a5 d4 a7 a4 d2 c6 a2 a8 e4 a9 h5/\M2 ((i64.wrap (l+(1:Int)))) m c7 c9 d5 s d8 q d9 d6 b9 x a0 a1 n w c2 b0 p a3 c3 d7 c0 a6 d0 u r v c4 d1 z c5 c8 y e1 o c1 d3 a5 d4 a7 a4 d2 c6 a2 a8 e4 a9 h5<M2 l m c7 c9 d5 s d8 q d9 d6 b9 x a0 a1 n w c2 b0 p a3 c3 d7 c0 a6 d0 u r v c4 d1 z c5 c8 y e1 o c1 d3 a5 d4 a7 a4 d2 c6 a2 a8 e2 a9 e0)))))))) (need (List.all [.str c9,.int .i64 o,.bool c1,.bool d3,.str a5,.int .i64 d4,.int .i64 a7,.int .i64 a4,.int .i64 d2,.int .i64 c6,.str a2,a8,e2,a9] Ah) (Cl 65 14 184 e1 1 [.str c9,.int .i64 o,.bool c1,.bool d3,.str a5,.int .i64 d4,.int .i64 a7,.int .i64 a4,.int .i64 d2,.int .i64 c6,.str a2,a8,e2,a9] e0 (fun (f0:TV) g6=>need (List.all [f0] Ah) ((I1 ((i64.wrap (d8+(1:Int)))) m c7 d5 s d6 b9 x a0 a1 n w c2 b0 p a3 c3 d7 c0 a6 d0 u r v c4 d1 z c5 c8 y f0 g6/\M1 ((i64.wrap (d8+(1:Int)))) m c7 d5 s d6 b9 x a0 a1 n w c2 b0 p a3 c3 d7 c0 a6 d0 u r v c4 d1 z c5 c8 y f0 g6<M1 c j d g k n1 b1 b2 s1 n2 n3 n4 n5 n6 s2 v2 v3 v4 n7 b3 b4 s3 n8 n9 f e i s4 v5 v6 v7 a))))))))))) (need (List.all [.str s5,.int .i64 g0,.bool b5,.bool b6,.str s6,.int .i64 f8,.int .i64 g2,.int .i64 e6,.int .i64 e7,.int .i64 g3,.str s7,v9,e8,e9] Ah) (Cl 65 14 184 v7 1 [.str s5,.int .i64 g0,.bool b5,.bool b6,.str s6,.int .i64 f8,.int .i64 g2,.int .i64 e6,.int .i64 e7,.int .i64 g3,.str s7,v9,e8,e9] a (fun (f3:TV) h3=>need (List.all [f3] Ah) ((I1 ((i64.wrap (c+(1:Int)))) j d g k n1 b1 b2 s1 n2 n3 n4 n5 n6 s2 v2 v3 v4 n7 b3 b4 s3 n8 n9 f e i s4 v5 v6 f3 h3/\M1 ((i64.wrap (c+(1:Int)))) j d g k n1 b1 b2 s1 n2 n3 n4 n5 n6 s2 v2 v3 v4 n7 b3 b4 s3 n8 n9 f e i s4 v5 v6 f3 h3<M1 c j d g k n1 b1 b2 s1 n2 n3 n4 n5 n6 s2 v2 v3 v4 n7 b3 b4 s3 n8 n9 f e i s4 v5 v6 v7 a))))))))))))))))))))))))))) (need (List.all (cV n7 b3 b4 s3 n8 n9 f e i s4 v5 v6 v7) Ah) (K n7 b3 b4 s3 n8 n9 f e i s4 v5 v6 v7 a)))))):CallT PR Am [(.box b 0),(.box t 0)] [sV] st K:=
 Af (cfg:=⟨[4,5,9],[],[]⟩) (h:=(.seq .none (.seq .none (.seq (.seq .none (.block (.loop ⟨[(18,.int .i64),(0,.tv),(1,.tv),(16,.tv),(17,.int .i64)],[(4,0,0),(5,1,0)],[(0,13),(1,13)],[(0,0,.int .i64),(0,1,.bool),(0,2,.bool),(0,3,.str),(0,4,.int .i64),(0,5,.int .i64),(0,6,.int .i64),(0,7,.int .i64),(0,8,.int .i64),(0,9,.str),(0,10,.tv),(0,11,.tv),(0,12,.tv),(1,0,.int .i64),(1,1,.bool),(1,2,.bool),(1,3,.str),(1,4,.int .i64),(1,5,.int .i64),(1,6,.int .i64),(1,7,.int .i64),(1,8,.int .i64),(1,9,.str),(1,10,.tv),(1,11,.tv),(1,12,.tv)]⟩ (.seq .none (.seq .none (.seq (.block (.seq .none (.seq .none (.seq .none (.seq (.seq .none (.cond .none (.seq .none (.cond (.seq .none (.seq .none (.block (.loop ⟨[(55,.int .i64),(0,.tv),(1,.tv),(7,.str),(16,.tv),(17,.int .i64),(18,.int .i64),(53,.tv),(54,.int .i64)],[(4,0,0),(5,1,0),(9,2,0)],[(0,13),(1,13),(2,13)],[(0,0,.int .i64),(0,1,.bool),(0,2,.bool),(0,3,.str),(0,4,.int .i64),(0,5,.int .i64),(0,6,.int .i64),(0,7,.int .i64),(0,8,.int .i64),(0,9,.str),(0,10,.tv),(0,11,.tv),(0,12,.tv),(1,0,.int .i64),(1,1,.bool),(1,2,.bool),(1,3,.str),(1,4,.int .i64),(1,5,.int .i64),(1,6,.int .i64),(1,7,.int .i64),(1,8,.int .i64),(1,9,.str),(1,10,.tv),(1,11,.tv),(1,12,.tv),(2,0,.int .i64),(2,1,.bool),(2,2,.bool),(2,3,.str),(2,4,.int .i64),(2,5,.int .i64),(2,6,.int .i64),(2,7,.int .i64),(2,8,.int .i64),(2,9,.str),(2,10,.tv),(2,11,.tv),(2,12,.tv)]⟩ .none)))) .none)))) .none))))) .none)))))) .none)))) mixed (fun _ _=>Tryz.call26 _ _) Tryz.func26 (by kernel_rfl) (by kernel_rfl) h
theorem Iq (l:TV) (st:St) (K:V13 (TV->TV->Int->Int->St->Prop)) (h:CallT PR D4 [] [.agg [.int .i64,.bool,.bool,.str,.int .i64,.int .i64,.int .i64,.int .i64,.int .i64,.str,.tv,.tv,.tv,.tv,.tv]] st (fun (n1:Int) (b1 b2:Bool) (s1:B8) (n2 n3 n4 n5 n6:Int) (s2:B8) (v1 v2 v3 v4 v5:TV) c8=>need (List.all [.int .i64 n1,.bool b1,.bool b2,.str s1,.int .i64 n2,.int .i64 n3,.int .i64 n4,.int .i64 n5,.int .i64 n6,.str s2,v1,v2,v3,v4,v5] Ah) (∃(I1:Int->TV->V13 (TV->TV->V13 (TV->TV->St->Prop))) (M1:Int->TV->V13 (TV->TV->V13 (TV->TV->St->Nat))),(I1 0 l 0 false false [] 0 0 0 0 0 [] .nilSlice .nilSlice .nilSlice .nilSlice .nilSlice n1 b1 b2 s1 n2 n3 n4 n5 n6 s2 v1 v2 v3 v4 v5 c8)/\∀a b n7 b3 b4 s3 n8 n9 a3 a7 a5 s4 v6 v7 v8 v9 a6 g b5 b6 s5 c j k m n s6 e i d o f a8,I1 a b n7 b3 b4 s3 n8 n9 a3 a7 a5 s4 v6 v7 v8 v9 a6 g b5 b6 s5 c j k m n s6 e i d o f a8->(need (isSl b) (BId (a<(lenS b:Int)) (((0<=a/\a<(lenZ 16 b:Int))/\Ak ((Al a8 [] (.t (ixT 16 b a.toNat)) 0 16).map TV.agg) (fun (x1:TV)=>B5 [.bool,.bool,.tv,.int .i64,.bool,.bool,.str,.int .i64,.int .i64,.int .i64,.int .i64,.int .i64,.str,.tv,.tv,.tv] x1 (fun (b7 b8:Bool) (c6:TV) (c9:Int) (b9 c4:Bool) (s7:B8) (d3 c2 c7 c5 c3:Int) (s8:B8) (d0 d1 d2:TV)=>CallT PR C6 [(.agg [.int .i64 g,.bool b5,.bool b6,.str s5,.int .i64 c,.int .i64 j,.int .i64 k,.int .i64 m,.int .i64 n,.str s6,e,i,d,o,f]),.int .i64 a,(.agg [.bool b7,.bool b8,c6,.int .i64 c9,.bool b9,.bool c4,.str s7,.int .i64 d3,.int .i64 c2,.int .i64 c7,.int .i64 c5,.int .i64 c3,.str s8,d0,d1,d2])] [.agg [.int .i64,.bool,.bool,.str,.int .i64,.int .i64,.int .i64,.int .i64,.int .i64,.str,.tv,.tv,.tv,.tv,.tv],.one .tv,.one (.int .i64)] a8 (fun (z:Int) (q r:Bool) (s9:B8) (x u p w s:Int) (v:B8) (a1 y a0 a4 a2 d4:TV) (c0:Int) a9=>need (List.all [.int .i64 z,.bool q,.bool r,.str s9,.int .i64 x,.int .i64 u,.int .i64 p,.int .i64 w,.int .i64 s,.str v,a1,y,a0,a4,a2] Ah) (BId (c0=0) (CallT PR CJ [(.agg (cV z q r s9 x u p w s v a1 y a0))] [.one (.int .i64)] a9 (fun (c1:Int) b0=>BId (c1≠0) (need (List.all [.int .i64 g,.bool b5,.bool b6,.str s5,.int .i64 c,.int .i64 j,.int .i64 k,.int .i64 m,.int .i64 n,.str s6,e,i,d,o,f] Ah) (K g b5 b6 s5 c j k m n s6 e i d o f a c1 b0)) (need (List.all [.int .i64 z,.bool q,.bool r,.str s9,.int .i64 x,.int .i64 u,.int .i64 p,.int .i64 w,.int .i64 s,.str v,a1,y,a0,a4,a2] Ah) ((I1 ((i64.wrap (a+(1:Int)))) b n7 b3 b4 s3 n8 n9 a3 a7 a5 s4 v6 v7 v8 v9 a6 z q r s9 x u p w s v a1 y a0 a4 a2 b0/\M1 ((i64.wrap (a+(1:Int)))) b n7 b3 b4 s3 n8 n9 a3 a7 a5 s4 v6 v7 v8 v9 a6 z q r s9 x u p w s v a1 y a0 a4 a2 b0<M1 a b n7 b3 b4 s3 n8 n9 a3 a7 a5 s4 v6 v7 v8 v9 a6 g b5 b6 s5 c j k m n s6 e i d o f a8))))) (BId (c0≠0) (need (List.all [.int .i64 g,.bool b5,.bool b6,.str s5,.int .i64 c,.int .i64 j,.int .i64 k,.int .i64 m,.int .i64 n,.str s6,e,i,d,o,f] Ah) (K g b5 b6 s5 c j k m n s6 e i d o f a c0 a9)) (need (List.all [.int .i64 z,.bool q,.bool r,.str s9,.int .i64 x,.int .i64 u,.int .i64 p,.int .i64 w,.int .i64 s,.str v,a1,y,a0,a4,a2] Ah) ((I1 ((i64.wrap (a+(1:Int)))) b n7 b3 b4 s3 n8 n9 a3 a7 a5 s4 v6 v7 v8 v9 a6 z q r s9 x u p w s v a1 y a0 a4 a2 a9/\M1 ((i64.wrap (a+(1:Int)))) b n7 b3 b4 s3 n8 n9 a3 a7 a5 s4 v6 v7 v8 v9 a6 z q r s9 x u p w s v a1 y a0 a4 a2 a9<M1 a b n7 b3 b4 s3 n8 n9 a3 a7 a5 s4 v6 v7 v8 v9 a6 g b5 b6 s5 c j k m n s6 e i d o f a8)))))))))) (need (List.all [.int .i64 g,.bool b5,.bool b6,.str s5,.int .i64 c,.int .i64 j,.int .i64 k,.int .i64 m,.int .i64 n,.str s6,e,i,d,o,f] Ah) (K g b5 b6 s5 c j k m n s6 e i d o f 0 0 a8))))))):CallT PR Dq [l] [.agg [.int .i64,.bool,.bool,.str,.int .i64,.int .i64,.int .i64,.int .i64,.int .i64,.str,.tv,.tv,.tv,.tv,.tv],.one (.int .i64),.one (.int .i64)] st K:=
 Af (cfg:=⟨[2,5,7],[],[23]⟩) (h:=(.seq .none (.seq .none (.seq (.seq .none (.block (.loop ⟨[(6,.int .i64),(0,.tv)],[(2,0,0),(5,1,0)],[(0,15),(1,15)],[(0,0,.int .i64),(0,1,.bool),(0,2,.bool),(0,3,.str),(0,4,.int .i64),(0,5,.int .i64),(0,6,.int .i64),(0,7,.int .i64),(0,8,.int .i64),(0,9,.str),(0,10,.tv),(0,11,.tv),(0,12,.tv),(0,13,.tv),(0,14,.tv),(1,0,.int .i64),(1,1,.bool),(1,2,.bool),(1,3,.str),(1,4,.int .i64),(1,5,.int .i64),(1,6,.int .i64),(1,7,.int .i64),(1,8,.int .i64),(1,9,.str),(1,10,.tv),(1,11,.tv),(1,12,.tv),(1,13,.tv),(1,14,.tv)]⟩ .none))) .none)))) mixed (fun _ _=>Tryz.call27 _ _) Tryz.func27 (by kernel_rfl) (by kernel_rfl) h
theorem Ht (v_0:Int) (v_1:Bool) (v_2:Bool) (v_3:B8) (v_4:Int) (v_5:Int) (v_6:Int) (v_7:Int) (v_8:Int) (v_9:B8) (v_10:TV) (v_11:TV) (v_12:TV) (depth:Int) (n:Int) (bytes:Int) (st:St) (K:Int->St->Prop) (h:BId (depth<1) (K (-1) st) (BId (n<1) (K (-1) st) (BId (bytes<(v_9.length:Int)) (K (-1) st) (need (isSl v_10) (BId (bytes<(lenS v_10:Int)) (K (-1) st) (BId (bytes<(v_3.length:Int)) (K (-1) st) (need (isSl v_11) (BId (n<(lenS v_11:Int)) (K (-1) st) (need (isSl v_12) (BId (n<(lenS v_12:Int)) (K (-1) st) (∃(I1:Int->Int->Int->Int->V13 (St->Prop)) (M1:Int->Int->Int->Int->V13 (St->Nat)),(I1 ((i64.wrap (n-(1:Int)))) 0 depth bytes v_0 v_1 v_2 v_3 v_4 v_5 v_6 v_7 v_8 v_9 v_10 v_11 v_12 st)/\∀q m b a n1 b1 b2 s1 n2 n3 n4 n5 n6 s2 v1 v2 v3 r,I1 q m b a n1 b1 b2 s1 n2 n3 n4 n5 n6 s2 v1 v2 v3 r->(need (isSl v2) (BId (m<(lenS v2:Int)) (BId ((0:Int)<=q) (((0<=m/\m<(lenZ 13 v2:Int))/\Ak ((Al r [] (.t (ixT 13 v2 m.toNat)) 0 13).map TV.agg) (fun (x1:TV)=>B5 [.int .i64,.bool,.bool,.str,.int .i64,.int .i64,.int .i64,.int .i64,.int .i64,.str,.tv,.tv,.tv] x1 (fun (n7:Int) (b3 b4:Bool) (s3:B8) (n8 n9 d5 e9 d8:Int) (s4:B8) (v4 v5 v6:TV)=>CallT PR A8 [(.agg (cV n7 b3 b4 s3 n8 n9 d5 e9 d8 s4 v4 v5 v6)),(.int .i64 (i64.wrap (b-(1:Int)))),.int .i64 q,.int .i64 a] [.one (.int .i64)] r (fun (c1:Int) c4=>(I1 c1 ((i64.wrap (m+(1:Int)))) b a n1 b1 b2 s1 n2 n3 n4 n5 n6 s2 v1 v2 v3 c4/\M1 c1 ((i64.wrap (m+(1:Int)))) b a n1 b1 b2 s1 n2 n3 n4 n5 n6 s2 v1 v2 v3 c4<M1 q m b a n1 b1 b2 s1 n2 n3 n4 n5 n6 s2 v1 v2 v3 r)))))) (∃(I2:Int->Int->Int->Int->V13 (St->Prop)) (M2:Int->Int->Int->Int->V13 (St->Nat)),(I2 q 0 b a n1 b1 b2 s1 n2 n3 n4 n5 n6 s2 v1 v2 v3 r)/\∀o g i c s b5 b6 s5 a4 a6 a7 a8 a3 s6 v7 v8 v9 l,I2 o g i c s b5 b6 s5 a4 a6 a7 a8 a3 s6 v7 v8 v9 l->(need (isSl v9) (BId (g<(lenS v9:Int)) (BId ((0:Int)<=o) (((0<=g/\g<(lenZ 14 v9:Int))/\need (isPtr (ixT 14 v9 g.toNat)) (Ak (Ac l [] (.t (Au (ixT 14 v9 g.toNat) 0)) 0) (fun (x2:TV)=>AO .str x2 (fun (s7:B8)=>BId (c<(s7.length:Int)) (K (-1) l) (((0<=g/\g<(lenZ 14 v9:Int))/\need (isPtr (ixT 14 v9 g.toNat)) (Ak ((Al l [] (.t (Au (ixT 14 v9 g.toNat) 1)) 0 13).map TV.agg) (fun (x3:TV)=>B5 [.int .i64,.bool,.bool,.str,.int .i64,.int .i64,.int .i64,.int .i64,.int .i64,.str,.tv,.tv,.tv] x3 (fun (f0:Int) (b7 b8:Bool) (s8:B8) (c5 d6 d3 c7 e1:Int) (s9:B8) (e6 d1 e3:TV)=>CallT PR A8 [(.agg (cV f0 b7 b8 s8 c5 d6 d3 c7 e1 s9 e6 d1 e3)),(.int .i64 (i64.wrap (i-(1:Int)))),.int .i64 o,.int .i64 c] [.one (.int .i64)] l (fun (c2:Int) c0=>(I2 c2 ((i64.wrap (g+(1:Int)))) i c s b5 b6 s5 a4 a6 a7 a8 a3 s6 v7 v8 v9 c0/\M2 c2 ((i64.wrap (g+(1:Int)))) i c s b5 b6 s5 a4 a6 a7 a8 a3 s6 v7 v8 v9 c0<M2 o g i c s b5 b6 s5 a4 a6 a7 a8 a3 s6 v7 v8 v9 l)))))))))))) (K o l)) (K o l))))) (∃(I3:Int->Int->Int->Int->V13 (St->Prop)) (M3:Int->Int->Int->Int->V13 (St->Nat)),(I3 q 0 b a n1 b1 b2 s1 n2 n3 n4 n5 n6 s2 v1 v2 v3 r)/\∀p f e d z b9 w a0 u a1 x y a5 a2 v a9 j k,I3 p f e d z b9 w a0 u a1 x y a5 a2 v a9 j k->(need (isSl j) (BId (f<(lenS j:Int)) (BId ((0:Int)<=p) (((0<=f/\f<(lenZ 14 j:Int))/\need (isPtr (ixT 14 j f.toNat)) (Ak (Ac k [] (.t (Au (ixT 14 j f.toNat) 0)) 0) (fun (x4:TV)=>AO .str x4 (fun (e7:B8)=>BId (d<(e7.length:Int)) (K (-1) k) (((0<=f/\f<(lenZ 14 j:Int))/\need (isPtr (ixT 14 j f.toNat)) (Ak ((Al k [] (.t (Au (ixT 14 j f.toNat) 1)) 0 13).map TV.agg) (fun (x5:TV)=>B5 [.int .i64,.bool,.bool,.str,.int .i64,.int .i64,.int .i64,.int .i64,.int .i64,.str,.tv,.tv,.tv] x5 (fun (e8:Int) (c8 c9:Bool) (e2:B8) (e0 d0 d2 d7 d9:Int) (c6:B8) (d4 e4 e5:TV)=>CallT PR A8 [(.agg (cV e8 c8 c9 e2 e0 d0 d2 d7 d9 c6 d4 e4 e5)),(.int .i64 (i64.wrap (e-(1:Int)))),.int .i64 p,.int .i64 d] [.one (.int .i64)] k (fun (b0:Int) c3=>(I3 b0 ((i64.wrap (f+(1:Int)))) e d z b9 w a0 u a1 x y a5 a2 v a9 j c3/\M3 b0 ((i64.wrap (f+(1:Int)))) e d z b9 w a0 u a1 x y a5 a2 v a9 j c3<M3 p f e d z b9 w a0 u a1 x y a5 a2 v a9 j k)))))))))))) (K p k)) (K p k))))))))))))))))):CallT PR A8 [(.agg (cV v_0 v_1 v_2 v_3 v_4 v_5 v_6 v_7 v_8 v_9 v_10 v_11 v_12)),.int .i64 depth,.int .i64 n,.int .i64 bytes] [.one (.int .i64)] st K:=
 Af (cfg:=⟨[4],[],[]⟩) (h:=(.seq .none (.seq .none (.seq .none (.seq (.seq .none (.block (.loop ⟨[(2,.int .i64),(9,.int .i64),(1,.int .i64),(3,.int .i64)],[(4,0,0)],[(0,13)],[(0,0,.int .i64),(0,1,.bool),(0,2,.bool),(0,3,.str),(0,4,.int .i64),(0,5,.int .i64),(0,6,.int .i64),(0,7,.int .i64),(0,8,.int .i64),(0,9,.str),(0,10,.tv),(0,11,.tv),(0,12,.tv)]⟩ .none))) (.seq (.seq .none (.block (.loop ⟨[(2,.int .i64),(10,.int .i64),(1,.int .i64),(3,.int .i64)],[(4,0,0)],[(0,13)],[(0,0,.int .i64),(0,1,.bool),(0,2,.bool),(0,3,.str),(0,4,.int .i64),(0,5,.int .i64),(0,6,.int .i64),(0,7,.int .i64),(0,8,.int .i64),(0,9,.str),(0,10,.tv),(0,11,.tv),(0,12,.tv)]⟩ .none))) .none)))))) mixed (fun _ _=>Tryz.call28 _ _) Tryz.func28 (by kernel_rfl) (by kernel_rfl) h
theorem Gy (v_0:Int) (v_1:Bool) (v_2:Bool) (v_3:B8) (v_4:Int) (v_5:Int) (v_6:Int) (v_7:Int) (v_8:Int) (v_9:B8) (v_10:TV) (v_11:TV) (v_12:TV) (st:St) (K:Int->St->Prop) (h:need (isSl v_10) (∃(I1:Int->Int->V13 (St->Prop)) (M1:Int->Int->V13 (St->Nat)),(I1 ((i64.wrap ((i64.wrap ((v_9.length:Int)+(lenS v_10:Int)))+(v_3.length:Int)))) 0 v_0 v_1 v_2 v_3 v_4 v_5 v_6 v_7 v_8 v_9 v_10 v_11 v_12 st)/\∀e b n1 b1 b2 s1 n2 n3 n4 n5 n6 s2 v1 v2 v3 f,I1 e b n1 b1 b2 s1 n2 n3 n4 n5 n6 s2 v1 v2 v3 f->(need (isSl v2) (BId (b<(lenS v2:Int)) (((0<=b/\b<(lenZ 13 v2:Int))/\Ak ((Al f [] (.t (ixT 13 v2 b.toNat)) 0 13).map TV.agg) (fun (x1:TV)=>B5 [.int .i64,.bool,.bool,.str,.int .i64,.int .i64,.int .i64,.int .i64,.int .i64,.str,.tv,.tv,.tv] x1 (fun (n7:Int) (b3 b4:Bool) (s3:B8) (n8 n9 v a2 x:Int) (s4:B8) (v4 v5 v6:TV)=>CallT PR Be [(.agg (cV n7 b3 b4 s3 n8 n9 v a2 x s4 v4 v5 v6))] [.one (.int .i64)] f (fun (o:Int) q=>(I1 ((i64.wrap (e+o))) ((i64.wrap (b+(1:Int)))) n1 b1 b2 s1 n2 n3 n4 n5 n6 s2 v1 v2 v3 q/\M1 ((i64.wrap (e+o))) ((i64.wrap (b+(1:Int)))) n1 b1 b2 s1 n2 n3 n4 n5 n6 s2 v1 v2 v3 q<M1 e b n1 b1 b2 s1 n2 n3 n4 n5 n6 s2 v1 v2 v3 f)))))) (∃(I2:Int->Int->V13 (St->Prop)) (M2:Int->Int->V13 (St->Nat)),(I2 e 0 n1 b1 b2 s1 n2 n3 n4 n5 n6 s2 v1 v2 v3 f)/\∀d a g b5 b6 s5 j k l m i s6 v7 v8 v9 c,I2 d a g b5 b6 s5 j k l m i s6 v7 v8 v9 c->(need (isSl v9) (BId (a<(lenS v9:Int)) (((0<=a/\a<(lenZ 14 v9:Int))/\need (isPtr (ixT 14 v9 a.toNat)) (Ak (Ac c [] (.t (Au (ixT 14 v9 a.toNat) 0)) 0) (fun (x2:TV)=>AO .str x2 (fun (s7:B8)=>((0<=a/\a<(lenZ 14 v9:Int))/\need (isPtr (ixT 14 v9 a.toNat)) (Ak ((Al c [] (.t (Au (ixT 14 v9 a.toNat) 1)) 0 13).map TV.agg) (fun (x3:TV)=>B5 [.int .i64,.bool,.bool,.str,.int .i64,.int .i64,.int .i64,.int .i64,.int .i64,.str,.tv,.tv,.tv] x3 (fun (a1:Int) (b7 b8:Bool) (s8:B8) (a3 w u r y:Int) (s9:B8) (a0 s z:TV)=>CallT PR Be [(.agg (cV a1 b7 b8 s8 a3 w u r y s9 a0 s z))] [.one (.int .i64)] c (fun (p:Int) n=>(Ac n [] (.t (Au (ixT 14 v9 a.toNat) 0)) 0=some (.str s7)/\(I2 ((i64.wrap ((i64.wrap (d+(s7.length:Int)))+p))) ((i64.wrap (a+(1:Int)))) g b5 b6 s5 j k l m i s6 v7 v8 v9 n/\M2 ((i64.wrap ((i64.wrap (d+(s7.length:Int)))+p))) ((i64.wrap (a+(1:Int)))) g b5 b6 s5 j k l m i s6 v7 v8 v9 n<M2 d a g b5 b6 s5 j k l m i s6 v7 v8 v9 c)))))))))))) (K d c)))))))):CallT PR Be [(.agg (cV v_0 v_1 v_2 v_3 v_4 v_5 v_6 v_7 v_8 v_9 v_10 v_11 v_12))] [.one (.int .i64)] st K:=
 Af (cfg:=⟨[1],[],[46,54]⟩) (h:=(.seq .none (.seq .none (.seq (.seq .none (.block (.loop ⟨[(3,.int .i64),(4,.int .i64)],[(1,0,0)],[(0,13)],[(0,0,.int .i64),(0,1,.bool),(0,2,.bool),(0,3,.str),(0,4,.int .i64),(0,5,.int .i64),(0,6,.int .i64),(0,7,.int .i64),(0,8,.int .i64),(0,9,.str),(0,10,.tv),(0,11,.tv),(0,12,.tv)]⟩ .none))) (.seq (.seq .none (.block (.loop ⟨[(3,.int .i64),(5,.int .i64)],[(1,0,0)],[(0,13)],[(0,0,.int .i64),(0,1,.bool),(0,2,.bool),(0,3,.str),(0,4,.int .i64),(0,5,.int .i64),(0,6,.int .i64),(0,7,.int .i64),(0,8,.int .i64),(0,9,.str),(0,10,.tv),(0,11,.tv),(0,12,.tv)]⟩ .none))) .none))))) mixed (fun _ _=>Tryz.call29 _ _) Tryz.func29 (by kernel_rfl) (by kernel_rfl) h
theorem Lb (v_0:Int) (v_1:Bool) (v_2:Bool) (v_3:B8) (v_4:Int) (v_5:Int) (v_6:Int) (v_7:Int) (v_8:Int) (v_9:B8) (v_10:TV) (v_11:TV) (v_12:TV) (st:St) (K:Int->St->Prop) (h:stB (st.push (.cells [.int .i64 0]) (some 3)) (.box st.nb 0) [.int .i64 0] (fun b=>CallT PR C5 [(.agg (cV v_0 v_1 v_2 v_3 v_4 v_5 v_6 v_7 v_8 v_9 v_10 v_11 v_12)),.int .i64 1,(.box st.nb 0)] [.one (.int .i64)] b (fun (n1:Int) a=>K n1 a))):CallT PR AI [(.agg (cV v_0 v_1 v_2 v_3 v_4 v_5 v_6 v_7 v_8 v_9 v_10 v_11 v_12))] [.one (.int .i64)] st K:=
 Af (cfg:=⟨[1],[],[]⟩) (h:= .none) mixed (fun _ _=>Tryz.call30 _ _) Tryz.func30 (by kernel_rfl) (by kernel_rfl) h
theorem He (v_0:Int) (v_1:Bool) (v_2:Bool) (v_3:B8) (v_4:Int) (v_5:Int) (v_6:Int) (v_7:Int) (v_8:Int) (v_9:B8) (v_10:TV) (v_11:TV) (v_12:TV) (st:St) (K:Int->St->Prop) (h:CallT PR B3 [(.agg (cV v_0 v_1 v_2 v_3 v_4 v_5 v_6 v_7 v_8 v_9 v_10 v_11 v_12)),.int .i64 1,.int .i64 0] [.one (.int .i64),.one (.int .i64)] st (fun (n1 n2:Int) a=>K n2 a)):CallT PR CJ [(.agg (cV v_0 v_1 v_2 v_3 v_4 v_5 v_6 v_7 v_8 v_9 v_10 v_11 v_12))] [.one (.int .i64)] st K:=
 Af (cfg:=⟨[1],[],[]⟩) (h:= .none) mixed (fun _ _=>Tryz.call32 _ _) Tryz.func32 (by kernel_rfl) (by kernel_rfl) h
theorem GC (st:St) (K:V13 (St->Prop)) (h:K 2 false false str5 0 0 0 0 0 [] .nilSlice .nilSlice .nilSlice st):CallT PR DV [] [sV] st K:=
 Af (cfg:=⟨[0],[],[]⟩) (h:= .none) mixed (fun _ _=>Tryz.call44 _ _) Tryz.func44 (by kernel_rfl) (by kernel_rfl) h
theorem G6 (st:St) (K:TV->St->Prop) (h:need (List.all [(.map st.nb)] Ah) (CallT PR AB [(.box (st.push (.pmap []) none).nb 0),.int .i64 1] [.one .tv] ((st.push (.pmap []) none).push (.cells [.nilPtr,.nilPtr,(.map st.nb),.int .i64 0]) (some 74)) (fun (v1:TV) b=>need (List.all [v1] Ah) (stB b (.box (st.push (.pmap []) none).nb 0) [v1] (fun a=>Ak (Ac a [] (.t (.box (st.push (.pmap []) none).nb 0)) 0) (fun (v2:TV)=>need (List.all [v2] Ah) (stB a (.box (st.push (.pmap []) none).nb 1) [v2] (fun c=>K ((.box (st.push (.pmap []) none).nb 0)) c)))))))):CallT PR CD [] [.one .tv] st K:=
 Af (cfg:=⟨[],[],[]⟩) (h:= .none) mixed (fun _ _=>Tryz.call45 _ _) Tryz.func45 (by kernel_rfl) (by kernel_rfl) h
theorem Fu (b:Nat) (a_0:Bool) (a_1:Bool) (a_2:TV) (a_3:Int) (a_4:Bool) (a_5:Bool) (a_6:B8) (a_7:Int) (a_8:Int) (a_9:Int) (a_10:Int) (a_11:Int) (a_12:B8) (a_13:TV) (a_14:TV) (a_15:TV) (atx:Int) (st:St) (K:Int->St->Prop) (h:CallT PR CU [(.agg [.bool a_0,.bool a_1,a_2,.int .i64 a_3,.bool a_4,.bool a_5,.str a_6,.int .i64 a_7,.int .i64 a_8,.int .i64 a_9,.int .i64 a_10,.int .i64 a_11,.str a_12,a_13,a_14,a_15])] [.one .bool] st (fun (b1:Bool) i=>BIf (!b1) (K 1 i) (Ak (Ac i [] (.t (.box b 1)) 0) (fun (v1:TV)=>∃(C1:TV->TV->Int->Bool->Bool->TV->V13 (St->Prop)),(BIf a_0 (Ak (Ac i [] (.t (.box b 0)) 0) (fun (v2:TV)=>C1 v2 ((.box b 0)) atx a_0 a_1 a_2 a_3 a_4 a_5 a_6 a_7 a_8 a_9 a_10 a_11 a_12 a_13 a_14 a_15 i)) (C1 v1 ((.box b 0)) atx a_0 a_1 a_2 a_3 a_4 a_5 a_6 a_7 a_8 a_9 a_10 a_11 a_12 a_13 a_14 a_15 i))/\∀j a p b2 b3 v3 n1 b4 b5 s1 n2 n3 n4 n5 n6 s2 v4 v5 v6 s,C1 j a p b2 b3 v3 n1 b4 b5 s1 n2 n3 n4 n5 n6 s2 v4 v5 v6 s->(CallT PR Cb [a,j,(.agg [.bool b2,.bool b3,v3,.int .i64 n1,.bool b4,.bool b5,.str s1,.int .i64 n2,.int .i64 n3,.int .i64 n4,.int .i64 n5,.int .i64 n6,.str s2,v4,v5,v6])] [.one .tv,.one .bool] s (fun (v7:TV) (b6:Bool) c=>BIf (!b6) (K 8 c) (need (isSl v3) (((0<=(i64.wrap ((lenS v3:Int)-(1:Int)))/\(i64.wrap ((lenS v3:Int)-(1:Int)))<(lenZ 1 v3:Int))/\Ak (Ac c [] (.t (ixT 1 v3 (Int.toNat (i64.wrap ((lenS v3:Int)-(1:Int)))))) 0) (fun (x3:TV)=>AO .str x3 (fun (s3:B8)=>need (isPtr v7) (need (isPtr v7) (Ak (Ac c [] (.t (Au v7 2)) 0) (fun (x4:TV)=>AO (.int .i64) x4 (fun (n7:Int)=>BIf b3 (CallT PR BN [a,v7,.str s3] [.one (.int .i64)] c (fun (n8:Int) f=>BId (n8≠0) (K n8 f) (BId ((48:Int)<(i64.wrap (n7+(2:Int)))) (need (isPtr a) (need (isPtr a) (Ak (Ac f [] (.t (Au a 0)) 0) (fun (v8:TV)=>CallT PR Am [a,v8] [sV] f (fun (n9:Int) (b7 b8:Bool) (s4:B8) (g4 e7 r0 q9 o8:Int) (s5:B8) (v9 e4 f5:TV) o7=>CallT PR AI [(.agg (cV n9 b7 b8 s4 g4 e7 r0 q9 o8 s5 v9 e4 f5))] [.one (.int .i64)] o7 (fun (r9:Int) m2=>K r9 m2)))))) (need (isPtr a) (need (isPtr a) (Ak (Ac f [] (.t (Au a 3)) 0) (fun (x6:TV)=>AO (.int .i64) x6 (fun (e2:Int)=>BId ((65536:Int)<e2) (need (isPtr a) (need (isPtr a) (Ak (Ac f [] (.t (Au a 0)) 0) (fun (h7:TV)=>CallT PR Am [a,h7] [sV] f (fun (e3:Int) (b9 f4:Bool) (s6:B8) (t2 r6 o2 t4 g7:Int) (s7:B8) (p6 g3 k5:TV) d6=>CallT PR AI [(.agg (cV e3 b9 f4 s6 t2 r6 o2 t4 g7 s7 p6 g3 k5))] [.one (.int .i64)] d6 (fun (q2:Int) k1=>K q2 k1)))))) (CallT PR Aw [v3,(.func Bc [])] [.one .bool] f (fun (j5:Bool) n=>BIf j5 (need (isPtr a) (need (isPtr a) (Ak (Ac n [] (.t (Au a 0)) 0) (fun (g2:TV)=>CallT PR Am [a,g2] [sV] n (fun (c4:Int) (p5 l1:Bool) (s8:B8) (r5 h4 d1 f2 l8:Int) (s9:B8) (e0 e1 o1:TV) x=>CallT PR AI [(.agg (cV c4 p5 l1 s8 r5 h4 d1 f2 l8 s9 e0 e1 o1))] [.one (.int .i64)] x (fun (k7:Int) a8=>K k7 a8)))))) (K 0 n))))))))))) (BIf b2 (CallT PR BS [a,v7,.str s3] [.one (.int .i64)] c (fun (q:Int) e=>BId (q≠0) (K q e) (BId ((48:Int)<(i64.wrap (n7+(2:Int)))) (need (isPtr a) (need (isPtr a) (Ak (Ac e [] (.t (Au a 0)) 0) (fun (i3:TV)=>CallT PR Am [a,i3] [sV] e (fun (d8:Int) (q8 j9:Bool) (g5:B8) (e5 l9 p7 f9 d3:Int) (d5:B8) (m0 r8 o3:TV) v=>CallT PR AI [(.agg (cV d8 q8 j9 g5 e5 l9 p7 f9 d3 d5 m0 r8 o3))] [.one (.int .i64)] v (fun (r1:Int) w=>K r1 w)))))) (need (isPtr a) (need (isPtr a) (Ak (Ac e [] (.t (Au a 3)) 0) (fun (l2:TV)=>AO (.int .i64) l2 (fun (k0:Int)=>BId ((65536:Int)<k0) (need (isPtr a) (need (isPtr a) (Ak (Ac e [] (.t (Au a 0)) 0) (fun (f6:TV)=>CallT PR Am [a,f6] [sV] e (fun (i9:Int) (j4 r7:Bool) (e6:B8) (q1 m4 t3 i6 c5:Int) (m5:B8) (f8 k2 j6:TV) b0=>CallT PR AI [(.agg (cV i9 j4 r7 e6 q1 m4 t3 i6 c5 m5 f8 k2 j6))] [.one (.int .i64)] b0 (fun (t1:Int) a0=>K t1 a0)))))) (CallT PR Aw [v3,(.func Bc [])] [.one .bool] e (fun (i4:Bool) k=>BIf i4 (need (isPtr a) (need (isPtr a) (Ak (Ac k [] (.t (Au a 0)) 0) (fun (k3:TV)=>CallT PR Am [a,k3] [sV] k (fun (m6:Int) (p0 i7:Bool) (j3:B8) (p1 p3 l4 h3 e8:Int) (i1:B8) (h2 f1 p9:TV) a1=>CallT PR AI [(.agg (cV m6 p0 i7 j3 p1 p3 l4 h3 e8 i1 h2 f1 p9))] [.one (.int .i64)] a1 (fun (c9:Int) a2=>K c9 a2)))))) (K 0 k))))))))))) (need (isPtr v7) (need (isPtr v7) (Ak (Ac c [] (.t (Au v7 1)) 0) (fun (o9:TV)=>Ak (EF c o9) (fun (es1:List (B8×TV))=>need (FO (At .nilPtr (Az s3 es1))) (BIf (!Do (At .nilPtr (Az s3 es1))) (K 8 c) (CallT PR AM [v7,.str s3,(.box c.nb 0)] [] (c.push (.cells [.nilPtr,.nilSlice,.int .i64 n1,.bool b4,.bool b5,.str s1,.int .i64 n2,.int .i64 n3,.int .i64 n4,.int .i64 n5,.int .i64 n6,.str s2,v4,v5,v6,.int .i64 p]) (some 92)) (fun (a3:St)=>CallT PR AI [(.agg (cV n1 b4 b5 s1 n2 n3 n4 n5 n6 s2 v4 v5 v6))] [.one (.int .i64)] a3 (fun (p2:Int) g=>BId (p2≠0) (need (isPtr a) (need (isPtr a) (Ak (Ac g [] (.t (Au a 0)) 0) (fun (d9:TV)=>CallT PR Am [a,d9] [sV] g (fun (j7:Int) (t0 g0:Bool) (k8:B8) (o4 c3 m8 h1 i8:Int) (q0:B8) (g1 g6 q7:TV) y=>CallT PR AI [(.agg (cV j7 t0 g0 k8 o4 c3 m8 h1 i8 q0 g1 g6 q7))] [.one (.int .i64)] y (fun (q5:Int) a4=>K q5 a4)))))) (need (isPtr a) (need (isPtr a) (Ak (Ac g [] (.t (Au a 3)) 0) (fun (m3:TV)=>AO (.int .i64) m3 (fun (r:Int)=>CallT PR FR [(.agg (cV n1 b4 b5 s1 n2 n3 n4 n5 n6 s2 v4 v5 v6))] [.one (.int .i64)] g (fun (q6:Int) o=>(Ac o [] (.t (Au a 3)) 0=some (.int .i64 r)/\need (isPtr a) (need (isPtr a) (stB o (Au a 3) [(.int .i64 (i64.wrap (r+q6)))] (fun m=>need (isPtr v7) (need (isPtr v7) (Ak (Ac m [] (.t (Au v7 2)) 0) (fun (g8:TV)=>AO (.int .i64) g8 (fun (u:Int)=>CallT PR Fh [(.agg (cV n1 b4 b5 s1 n2 n3 n4 n5 n6 s2 v4 v5 v6))] [.one (.int .i64)] m (fun (l7:Int) d=>(Ac d [] (.t (Au v7 2)) 0=some (.int .i64 u)/\BId ((48:Int)<(i64.wrap (u+l7))) (need (isPtr a) (need (isPtr a) (Ak (Ac d [] (.t (Au a 0)) 0) (fun (l3:TV)=>CallT PR Am [a,l3] [sV] d (fun (c7:Int) (l6 p8:Bool) (q3:B8) (h8 j0 k6 r3 c6:Int) (p4:B8) (h9 j2 f7:TV) a7=>CallT PR AI [(.agg (cV c7 l6 p8 q3 h8 j0 k6 r3 c6 p4 h9 j2 f7))] [.one (.int .i64)] a7 (fun (h5:Int) z=>K h5 z)))))) (need (isPtr a) (need (isPtr a) (Ak (Ac d [] (.t (Au a 3)) 0) (fun (k9:TV)=>AO (.int .i64) k9 (fun (e9:Int)=>BId ((65536:Int)<e9) (need (isPtr a) (need (isPtr a) (Ak (Ac d [] (.t (Au a 0)) 0) (fun (h6:TV)=>CallT PR Am [a,h6] [sV] d (fun (i5:Int) (c8 r2:Bool) (m7:B8) (c2 d2 o5 k4 n0:Int) (j8:B8) (d0 h0 f0:TV) a5=>CallT PR AI [(.agg (cV i5 c8 r2 m7 c2 d2 o5 k4 n0 j8 d0 h0 f0))] [.one (.int .i64)] a5 (fun (c1:Int) a6=>K c1 a6)))))) (CallT PR Aw [v3,(.func Bc [])] [.one .bool] d (fun (d4:Bool) l=>BIf d4 (need (isPtr a) (need (isPtr a) (Ak (Ac l [] (.t (Au a 0)) 0) (fun (d7:TV)=>CallT PR Am [a,d7] [sV] l (fun (o0:Int) (l0 l5:Bool) (m1:B8) (j1 i2 r4 f3 m9:Int) (o6:B8) (q4 g9 s0:TV) a9=>CallT PR AI [(.agg (cV o0 l0 l5 m1 j1 i2 r4 f3 m9 o6 q4 g9 s0))] [.one (.int .i64)] a9 (fun (i0:Int) c0=>K i0 c0)))))) (K 0 l))))))))))))))))))))))))))))))))))))))))))))))))):CallT PR BT [(.box b 0),(.agg [.bool a_0,.bool a_1,a_2,.int .i64 a_3,.bool a_4,.bool a_5,.str a_6,.int .i64 a_7,.int .i64 a_8,.int .i64 a_9,.int .i64 a_10,.int .i64 a_11,.str a_12,a_13,a_14,a_15]),.int .i64 atx] [.one (.int .i64)] st K:=
 Af (cfg:=⟨[4],[],[71,81]⟩) (h:=(.seq .none (.seq .none (.seq .none (.cut ⟨[(7,.tv),(0,.tv),(2,.int .i64)],[(4,0,0)],[(0,16)],[(0,0,.bool),(0,1,.bool),(0,2,.tv),(0,3,.int .i64),(0,4,.bool),(0,5,.bool),(0,6,.str),(0,7,.int .i64),(0,8,.int .i64),(0,9,.int .i64),(0,10,.int .i64),(0,11,.int .i64),(0,12,.str),(0,13,.tv),(0,14,.tv),(0,15,.tv)]⟩ .none .none))))) mixed (fun _ _=>Tryz.call46 _ _) Tryz.func46 (by kernel_rfl) (by kernel_rfl) h
theorem KC (v_0:Int) (c:Bool) (d:Bool) (v_3:B8) (v_4:Int) (v_5:Int) (v_6:Int) (v_7:Int) (v_8:Int) (v_9:B8) (v_10:TV) (v_11:TV) (v_12:TV) (left:Int) (st:St) (K:V13 (St->Prop)) (h:CallT PR Bv [v_10] [.one .tv] st (fun (v1:TV) d9=>need (List.all [v1] Ah) (BId (left<1) (need (List.all (cV v_0 c d v_3 v_4 v_5 v_6 v_7 v_8 v_9 v1 .nilSlice .nilSlice) Ah) (K v_0 c d v_3 v_4 v_5 v_6 v_7 v_8 v_9 v1 .nilSlice .nilSlice d9)) (need (isSl v_11) (∃(I1:TV->Int->Int->TV->Int->V13 (V13 (St->Prop))) (M1:TV->Int->Int->TV->Int->V13 (V13 (St->Nat))),(I1 .nilSlice 0 left v_11 ((lenS v_11:Int)) v_0 c d v_3 v_4 v_5 v_6 v_7 v_8 v_9 v1 v_11 v_12 0 false false [] 0 0 0 0 0 [] .nilSlice .nilSlice .nilSlice d9)/\∀b0 f a c x n1 b1 b2 s1 n2 n3 n4 n5 n6 s2 v2 v3 v4 n7 b3 b4 s3 n8 n9 v u z s4 v5 v6 v7 w,I1 b0 f a c x n1 b1 b2 s1 n2 n3 n4 n5 n6 s2 v2 v3 v4 n7 b3 b4 s3 n8 n9 v u z s4 v5 v6 v7 w->(BId (f<x) (((0<=f/\f<(lenZ 13 c:Int))/\Ak ((Al w [] (.t (ixT 13 c f.toNat)) 0 13).map TV.agg) (fun (x1:TV)=>B5 [.int .i64,.bool,.bool,.str,.int .i64,.int .i64,.int .i64,.int .i64,.int .i64,.str,.tv,.tv,.tv] x1 (fun (g4:Int) (b5 b6:Bool) (s5:B8) (f7 g8 d0 d1 h0:Int) (s6:B8) (v8 v9 d2:TV)=>need (List.all (cV g4 b5 b6 s5 f7 g8 d0 d1 h0 s6 v8 v9 d2) Ah) (CallT PR Cw [(.agg (cV g4 b5 b6 s5 f7 g8 d0 d1 h0 s6 v8 v9 d2)),(.int .i64 (i64.wrap (a-(1:Int))))] [sV] w (fun (g6:Int) (b7 b8:Bool) (s7:B8) (f5 h2 d8 g2 c6:Int) (s8:B8) (d3 e0 f9:TV) h4=>need (List.all (cV g6 b7 b8 s7 f5 h2 d8 g2 c6 s8 d3 e0 f9) Ah) (FY 33 13 168 b0 1 (cV g6 b7 b8 s7 f5 h2 d8 g2 c6 s8 d3 e0 f9) h4 (fun (d7:TV) d5=>(I1 d7 ((i64.wrap (f+(1:Int)))) a c x n1 b1 b2 s1 n2 n3 n4 n5 n6 s2 v2 v3 v4 n7 b3 b4 s3 n8 n9 v u z s4 v5 v6 v7 d5/\M1 d7 ((i64.wrap (f+(1:Int)))) a c x n1 b1 b2 s1 n2 n3 n4 n5 n6 s2 v2 v3 v4 n7 b3 b4 s3 n8 n9 v u z s4 v5 v6 v7 d5<M1 b0 f a c x n1 b1 b2 s1 n2 n3 n4 n5 n6 s2 v2 v3 v4 n7 b3 b4 s3 n8 n9 v u z s4 v5 v6 v7 w))))))))) (need (isSl v4) (∃(I2:TV->Int->Int->TV->TV->Int->V13 (V13 (St->Prop))) (M2:TV->Int->Int->TV->TV->Int->V13 (V13 (St->Nat))),(I2 .nilSlice 0 a b0 v4 ((lenS v4:Int)) n1 b1 b2 s1 n2 n3 n4 n5 n6 s2 v2 v3 v4 n7 b3 b4 s3 n8 n9 v u z s4 v5 v6 v7 w)/\∀r e b g d s q b9 k s9 m i j p o l n a7 a2 c0 a9 c3 a0 a1 a4 c1 c4 a6 a5 a3 c2 a8 y,I2 r e b g d s q b9 k s9 m i j p o l n a7 a2 c0 a9 c3 a0 a1 a4 c1 c4 a6 a5 a3 c2 a8 y->(BId (e<s) (((0<=e/\e<(lenZ 14 d:Int))/\Ak ((Al y [] (.t (ixT 14 d e.toNat)) 0 14).map TV.agg) (fun (x2:TV)=>B5 [.str,.int .i64,.bool,.bool,.str,.int .i64,.int .i64,.int .i64,.int .i64,.int .i64,.str,.tv,.tv,.tv] x2 (fun (c5:B8) (c8:Int) (f1 g3:Bool) (e4:B8) (g5 e8 e3 g1 f3:Int) (e1:B8) (f2 g7 f6:TV)=>need (List.all [.str c5,.int .i64 c8,.bool f1,.bool g3,.str e4,.int .i64 g5,.int .i64 e8,.int .i64 e3,.int .i64 g1,.int .i64 f3,.str e1,f2,g7,f6] Ah) (CallT PR Cw [(.agg (cV c8 f1 g3 e4 g5 e8 e3 g1 f3 e1 f2 g7 f6)),(.int .i64 (i64.wrap (b-(1:Int))))] [sV] y (fun (h1:Int) (e7 e5:Bool) (f0:B8) (e2 c7 g9 f4 f8:Int) (g0:B8) (d4 d6 e9:TV) h3=>need (List.all [.str c5,.int .i64 h1,.bool e7,.bool e5,.str f0,.int .i64 e2,.int .i64 c7,.int .i64 g9,.int .i64 f4,.int .i64 f8,.str g0,d4,d6,e9] Ah) (FY 65 14 184 r 1 [.str c5,.int .i64 h1,.bool e7,.bool e5,.str f0,.int .i64 e2,.int .i64 c7,.int .i64 g9,.int .i64 f4,.int .i64 f8,.str g0,d4,d6,e9] h3 (fun (e6:TV) c9=>(I2 e6 ((i64.wrap (e+(1:Int)))) b g d s q b9 k s9 m i j p o l n a7 a2 c0 a9 c3 a0 a1 a4 c1 c4 a6 a5 a3 c2 a8 c9/\M2 e6 ((i64.wrap (e+(1:Int)))) b g d s q b9 k s9 m i j p o l n a7 a2 c0 a9 c3 a0 a1 a4 c1 c4 a6 a5 a3 c2 a8 c9<M2 r e b g d s q b9 k s9 m i j p o l n a7 a2 c0 a9 c3 a0 a1 a4 c1 c4 a6 a5 a3 c2 a8 y))))))))) (need (List.all [g] Ah) (need (List.all [r] Ah) (need (List.all (cV q b9 k s9 m i j p o l n g r) Ah) (K q b9 k s9 m i j p o l n g r y))))))))))))):CallT PR Cw [(.agg (cV v_0 c d v_3 v_4 v_5 v_6 v_7 v_8 v_9 v_10 v_11 v_12)),.int .i64 left] [sV] st K:=
 Af (cfg:=⟨[2,4,7,10],[33,52],[]⟩) (h:=(.seq .none (.seq .none (.seq .none (.seq .none (.seq (.seq .none (.block (.loop ⟨[(5,.tv),(23,.int .i64),(1,.int .i64),(21,.tv),(22,.int .i64)],[(2,0,0),(4,1,0)],[(0,13),(1,13)],[(0,0,.int .i64),(0,1,.bool),(0,2,.bool),(0,3,.str),(0,4,.int .i64),(0,5,.int .i64),(0,6,.int .i64),(0,7,.int .i64),(0,8,.int .i64),(0,9,.str),(0,10,.tv),(0,11,.tv),(0,12,.tv),(1,0,.int .i64),(1,1,.bool),(1,2,.bool),(1,3,.str),(1,4,.int .i64),(1,5,.int .i64),(1,6,.int .i64),(1,7,.int .i64),(1,8,.int .i64),(1,9,.str),(1,10,.tv),(1,11,.tv),(1,12,.tv)]⟩ .none))) (.seq .none (.seq (.seq .none (.block (.loop ⟨[(8,.tv),(38,.int .i64),(1,.int .i64),(5,.tv),(36,.tv),(37,.int .i64)],[(2,0,0),(4,1,0)],[(0,13),(1,13)],[(0,0,.int .i64),(0,1,.bool),(0,2,.bool),(0,3,.str),(0,4,.int .i64),(0,5,.int .i64),(0,6,.int .i64),(0,7,.int .i64),(0,8,.int .i64),(0,9,.str),(0,10,.tv),(0,11,.tv),(0,12,.tv),(1,0,.int .i64),(1,1,.bool),(1,2,.bool),(1,3,.str),(1,4,.int .i64),(1,5,.int .i64),(1,6,.int .i64),(1,7,.int .i64),(1,8,.int .i64),(1,9,.str),(1,10,.tv),(1,11,.tv),(1,12,.tv)]⟩ .none))) .none)))))))) mixed (fun _ _=>Tryz.call47 _ _) Tryz.func47 (by kernel_rfl) (by kernel_rfl) h
theorem G9 (st:St) (K:V13 (TV->TV->St->Prop)) (h:K 7 false false [] 0 0 0 0 0 [] .nilSlice .nilSlice .nilSlice .nilSlice .nilSlice st):CallT PR D4 [] [.agg [.int .i64,.bool,.bool,.str,.int .i64,.int .i64,.int .i64,.int .i64,.int .i64,.str,.tv,.tv,.tv,.tv,.tv]] st K:=
 Af (cfg:=⟨[0],[],[]⟩) (h:= .none) mixed (fun _ _=>Tryz.call48 _ _) Tryz.func48 (by kernel_rfl) (by kernel_rfl) h
theorem Hs (x_0:Int) (x_1:Bool) (x_2:Bool) (x_3:B8) (x_4:Int) (x_5:Int) (x_6:Int) (x_7:Int) (x_8:Int) (x_9:B8) (x_10:TV) (x_11:TV) (x_12:TV) (x_13:TV) (x_14:TV) (i:Int) (a_0:Bool) (a_1:Bool) (a_2:TV) (a_3:Int) (a_4:Bool) (a_5:Bool) (a_6:B8) (a_7:Int) (a_8:Int) (a_9:Int) (a_10:Int) (a_11:Int) (a_12:B8) (a_13:TV) (a_14:TV) (a_15:TV) (st:St) (K:V13 (TV->TV->TV->Int->St->Prop)) (h:CallT PR BD [(.agg [.bool a_0,.bool a_1,a_2,.int .i64 a_3,.bool a_4,.bool a_5,.str a_6,.int .i64 a_7,.int .i64 a_8,.int .i64 a_9,.int .i64 a_10,.int .i64 a_11,.str a_12,a_13,a_14,a_15])] [.one .bool] st (fun (b1:Bool) x2=>BIf (!b1) (need (List.all [.int .i64 x_0,.bool x_1,.bool x_2,.str x_3,.int .i64 x_4,.int .i64 x_5,.int .i64 x_6,.int .i64 x_7,.int .i64 x_8,.str x_9,x_10,x_11,x_12,x_13,x_14] Ah) (K x_0 x_1 x_2 x_3 x_4 x_5 x_6 x_7 x_8 x_9 x_10 x_11 x_12 x_13 x_14 .nilSlice 1 x2)) (∃(C1:TV->Int->V13 (TV->TV->Bool->Bool->TV->V13 (V13 (TV->TV->St->Prop)))),(BIf a_0 (C1 .nilSlice i x_0 x_1 x_2 x_3 x_4 x_5 x_6 x_7 x_8 x_9 x_10 x_11 x_12 x_13 x_14 a_0 a_1 a_2 a_3 a_4 a_5 a_6 a_7 a_8 a_9 a_10 a_11 a_12 a_13 a_14 a_15 0 false false [] 0 0 0 0 0 [] .nilSlice .nilSlice .nilSlice .nilSlice .nilSlice x2) (C1 x_13 i x_0 x_1 x_2 x_3 x_4 x_5 x_6 x_7 x_8 x_9 x_10 x_11 x_12 x_13 x_14 a_0 a_1 a_2 a_3 a_4 a_5 a_6 a_7 a_8 a_9 a_10 a_11 a_12 a_13 a_14 a_15 0 false false [] 0 0 0 0 0 [] .nilSlice .nilSlice .nilSlice .nilSlice .nilSlice x2))/\∀e0 x6 n1 b2 b3 s1 n2 n3 n4 n5 n6 s2 v1 v2 v3 v4 v5 b4 b5 v6 n7 b6 b7 s3 n8 n9 q2 u0 y1 s4 v7 v8 v9 t5 b8 b9 s5 r1 t7 w5 t9 y3 s6 w6 q1 u6 r3 y4 st2,C1 e0 x6 n1 b2 b3 s1 n2 n3 n4 n5 n6 s2 v1 v2 v3 v4 v5 b4 b5 v6 n7 b6 b7 s3 n8 n9 q2 u0 y1 s4 v7 v8 v9 t5 b8 b9 s5 r1 t7 w5 t9 y3 s6 w6 q1 u6 r3 y4 st2->(CallT PR CE [(.agg [.int .i64 n1,.bool b2,.bool b3,.str s1,.int .i64 n2,.int .i64 n3,.int .i64 n4,.int .i64 n5,.int .i64 n6,.str s2,v1,v2,v3,v4,v5]),e0,v6,.bool b4] [.agg [.int .i64,.bool,.bool,.str,.int .i64,.int .i64,.int .i64,.int .i64,.int .i64,.str,.tv,.tv,.tv,.tv,.tv],.one .tv,.one (.int .i64)] st2 (fun (g0:Int) (a7 f6:Bool) (s7:B8) (h4 e9 a8 h8 g3:Int) (s8:B8) (h1 d4 f0 l2 o9 o2:TV) (n25:Int) st3=>need (List.all [.int .i64 g0,.bool a7,.bool f6,.str s7,.int .i64 h4,.int .i64 e9,.int .i64 a8,.int .i64 h8,.int .i64 g3,.str s8,h1,d4,f0,l2,o9] Ah) (BId (n25≠0) (need (List.all [.int .i64 n1,.bool b2,.bool b3,.str s1,.int .i64 n2,.int .i64 n3,.int .i64 n4,.int .i64 n5,.int .i64 n6,.str s2,v1,v2,v3,v4,v5] Ah) (K n1 b2 b3 s1 n2 n3 n4 n5 n6 s2 v1 v2 v3 v4 v5 .nilSlice n25 st3)) (CallT PR B2 [(.agg (cV g0 a7 f6 s7 h4 e9 a8 h8 g3 s8 h1 d4 f0)),o2] [sV,.one .bool] st3 (fun (q3:Int) (r2 x4:Bool) (s9:B8) (r4 w7 s0 x3 u7:Int) (x1:B8) (t0 y2 q9:TV) (y0:Bool) st4=>need (List.all (cV q3 r2 x4 s9 r4 w7 s0 x3 u7 x1 t0 y2 q9) Ah) (CallT PR Bd [(.agg [.int .i64 g0,.bool a7,.bool f6,.str s7,.int .i64 h4,.int .i64 e9,.int .i64 a8,.int .i64 h8,.int .i64 g3,.str s8,h1,d4,f0,l2,o9]),o2] [.one (.int .i64),.one (.int .i64)] st4 (fun (z8 y9:Int) st5=>∃(C2:Bool->Int->TV->Bool->Int->Int->V13 (TV->TV->Bool->Bool->TV->V13 (V13 (TV->TV->V13 (TV->TV->V13 (St->Prop)))))),(BIf (!b4) (C2 y0 x6 o2 y0 z8 y9 n1 b2 b3 s1 n2 n3 n4 n5 n6 s2 v1 v2 v3 v4 v5 b4 b5 v6 n7 b6 b7 s3 n8 n9 q2 u0 y1 s4 v7 v8 v9 t5 b8 b9 s5 r1 t7 w5 t9 y3 s6 w6 q1 u6 r3 y4 g0 a7 f6 s7 h4 e9 a8 h8 g3 s8 h1 d4 f0 l2 o9 q3 r2 x4 s9 r4 w7 s0 x3 u7 x1 t0 y2 q9 st5) (C2 false x6 o2 y0 z8 y9 n1 b2 b3 s1 n2 n3 n4 n5 n6 s2 v1 v2 v3 v4 v5 b4 b5 v6 n7 b6 b7 s3 n8 n9 q2 u0 y1 s4 v7 v8 v9 t5 b8 b9 s5 r1 t7 w5 t9 y3 s6 w6 q1 u6 r3 y4 g0 a7 f6 s7 h4 e9 a8 h8 g3 s8 h1 d4 f0 l2 o9 q3 r2 x4 s9 r4 w7 s0 x3 u7 x1 t0 y2 q9 st5))/\∀y5 d0 e g w_1 m5 v a2 a0 y x z w r t m n s u a1 o c9 d8 l5 b0 c6 d9 e4 h7 e5 d1 g8 a3 f5 a6 e7 c5 p4 p3 l3 m3 m4 p0 m6 o7 l6 l9 o0 o4 l4 m9 o6 f3 e3 h5 h6 d2 c7 h0 c4 g2 h9 f4 c0 g6 d7 g5 m1 l1 p2 p1 o5 l7 m7 m0 m8 o8 o1 o3 n0 p,C2 y5 d0 e g w_1 m5 v a2 a0 y x z w r t m n s u a1 o c9 d8 l5 b0 c6 d9 e4 h7 e5 d1 g8 a3 f5 a6 e7 c5 p4 p3 l3 m3 m4 p0 m6 o7 l6 l9 o0 o4 l4 m9 o6 f3 e3 h5 h6 d2 c7 h0 c4 g2 h9 f4 c0 g6 d7 g5 m1 l1 p2 p1 o5 l7 m7 m0 m8 o8 o1 o3 n0 p->(BIf y5 (need (List.all [.int .i64 v,.bool a2,.bool a0,.str y,.int .i64 x,.int .i64 z,.int .i64 w,.int .i64 r,.int .i64 t,.str m,n,s,u,a1,o] Ah) (K v a2 a0 y x z w r t m n s u a1 o .nilSlice 8 p)) (BIf (!c9) (CallT PR Bn [(.agg (cV b0 c6 d9 e4 h7 e5 d1 g8 a3 f5 a6 e7 c5))] [sV] p (fun (n64:Int) (b27 b28:Bool) (s21:B8) (n65 n66 n67 n68 n69:Int) (s22:B8) (v46 v47 v48:TV) st7=>CallT PR Ay [(.agg (cV f3 e3 h5 h6 d2 c7 h0 c4 g2 h9 f4 c0 g6)),e,(.agg (cV n64 b27 b28 s21 n65 n66 n67 n68 n69 s22 v46 v47 v48))] [sV] st7 (fun (n70:Int) (b29 y6:Bool) (s23:B8) (z6 z1 n73 z2 n75:Int) (s24:B8) (v49 v50 v51:TV) st8=>need (List.all (cV n70 b29 y6 s23 z6 z1 n73 z2 n75 s24 v49 v50 v51) Ah) (CallT PR AP [(.agg [.int .i64 n70,.bool b29,.bool y6,.str s23,.int .i64 z6,.int .i64 z1,.int .i64 n73,.int .i64 z2,.int .i64 n75,.str s24,v49,v50,v51,d7,g5]),e,.int .i64 1,.int .i64 d0] [.agg [.int .i64,.bool,.bool,.str,.int .i64,.int .i64,.int .i64,.int .i64,.int .i64,.str,.tv,.tv,.tv,.tv,.tv]] st8 (fun (z7:Int) (b31 b32:Bool) (s25:B8) (n77 z3 n79 z5 n81:Int) (s26:B8) (v52 y7 v54 v55 v56:TV) st9=>need (List.all [.int .i64 z7,.bool b31,.bool b32,.str s25,.int .i64 n77,.int .i64 z3,.int .i64 n79,.int .i64 z5,.int .i64 n81,.str s26,v52,y7,v54,v55,v56] Ah) (K z7 b31 b32 s25 n77 z3 n79 z5 n81 s26 v52 y7 v54 v55 v56 e 0 st9)))))) (∃(C3:Bool->Int->TV->Bool->Int->V13 (TV->TV->Bool->Bool->TV->V13 (V13 (TV->TV->V13 (TV->TV->V13 (St->Prop)))))),(BIf d8 (BIf g (C3 ((decide (w_1≠3))) d0 e g m5 v a2 a0 y x z w r t m n s u a1 o c9 d8 l5 b0 c6 d9 e4 h7 e5 d1 g8 a3 f5 a6 e7 c5 p4 p3 l3 m3 m4 p0 m6 o7 l6 l9 o0 o4 l4 m9 o6 f3 e3 h5 h6 d2 c7 h0 c4 g2 h9 f4 c0 g6 d7 g5 m1 l1 p2 p1 o5 l7 m7 m0 m8 o8 o1 o3 n0 p) (C3 false d0 e g m5 v a2 a0 y x z w r t m n s u a1 o c9 d8 l5 b0 c6 d9 e4 h7 e5 d1 g8 a3 f5 a6 e7 c5 p4 p3 l3 m3 m4 p0 m6 o7 l6 l9 o0 o4 l4 m9 o6 f3 e3 h5 h6 d2 c7 h0 c4 g2 h9 f4 c0 g6 d7 g5 m1 l1 p2 p1 o5 l7 m7 m0 m8 o8 o1 o3 n0 p)) (C3 false d0 e g m5 v a2 a0 y x z w r t m n s u a1 o c9 d8 l5 b0 c6 d9 e4 h7 e5 d1 g8 a3 f5 a6 e7 c5 p4 p3 l3 m3 m4 p0 m6 o7 l6 l9 o0 o4 l4 m9 o6 f3 e3 h5 h6 d2 c7 h0 c4 g2 h9 f4 c0 g6 d7 g5 m1 l1 p2 p1 o5 l7 m7 m0 m8 o8 o1 o3 n0 p))/\∀b_2 m2 a k2 k_2 e1 f1 c1 c3 g7 f9 d3 c2 a9 e6 h2 g9 d5 f8 f2 b35 z0 v62 n88 b37 b38 s29 n89 n90 n91 n92 n93 s30 v63 v64 v65 n94 b39 b40 s31 n95 n96 n97 n98 n99 s32 v66 v67 v68 v69 v70 j d6 e8 e2 f k c d l a4 a5 g4 g1 l8 q n106 b43 b44 s35 n107 n108 n109 n110 n111 s36 v76 f7 v78 b,C3 b_2 m2 a k2 k_2 e1 f1 c1 c3 g7 f9 d3 c2 a9 e6 h2 g9 d5 f8 f2 b35 z0 v62 n88 b37 b38 s29 n89 n90 n91 n92 n93 s30 v63 v64 v65 n94 b39 b40 s31 n95 n96 n97 n98 n99 s32 v66 v67 v68 v69 v70 j d6 e8 e2 f k c d l a4 a5 g4 g1 l8 q n106 b43 b44 s35 n107 n108 n109 n110 n111 s36 v76 f7 v78 b->(BIf b_2 (need (List.all [.int .i64 e1,.bool f1,.bool c1,.str c3,.int .i64 g7,.int .i64 f9,.int .i64 d3,.int .i64 c2,.int .i64 a9,.str e6,h2,g9,d5,f8,f2] Ah) (K e1 f1 c1 c3 g7 f9 d3 c2 a9 e6 h2 g9 d5 f8 f2 .nilSlice 6 b)) (BIf z0 (BIf (!k2) (CallT PR Ay [(.agg (cV j d6 e8 e2 f k c d l a4 a5 g4 g1)),a,(.agg (cV 6 false false [] 0 0 0 0 0 [] .nilSlice .nilSlice .nilSlice))] [sV] b (fun (q5:Int) (b45 z4:Bool) (s37:B8) (x5 u1 t2 r5 p5:Int) (s38:B8) (v79 v80 v81:TV) st11=>need (List.all (cV q5 b45 z4 s37 x5 u1 t2 r5 p5 s38 v79 v80 v81) Ah) (CallT PR AP [(.agg [.int .i64 q5,.bool b45,.bool z4,.str s37,.int .i64 x5,.int .i64 u1,.int .i64 t2,.int .i64 r5,.int .i64 p5,.str s38,v79,v80,v81,l8,q]),a,.int .i64 3,.int .i64 m2] [.agg [.int .i64,.bool,.bool,.str,.int .i64,.int .i64,.int .i64,.int .i64,.int .i64,.str,.tv,.tv,.tv,.tv,.tv]] st11 (fun (u9:Int) (b47 b48:Bool) (s39:B8) (x8 q6 x9 u4 t6:Int) (s40:B8) (v82 v83 v84 v85 x7:TV) st12=>need (List.all [.int .i64 u9,.bool b47,.bool b48,.str s39,.int .i64 x8,.int .i64 q6,.int .i64 x9,.int .i64 u4,.int .i64 t6,.str s40,v82,v83,v84,v85,x7] Ah) (need (isSl f7) (CallT PR A0 [a,(.agg [.bool true,(.str []),(.int .i64 (lenS f7:Int))])] [.one .tv] st12 (fun (h3:TV) st13=>CallT PR Ay [(.agg (cV u9 b47 b48 s39 x8 q6 x9 u4 t6 s40 v82 v83 v84)),h3,(.agg (cV 7 false false [] 0 0 0 0 0 [] .nilSlice .nilSlice .nilSlice))] [sV] st13 (fun (k5:Int) (p9 r7:Bool) (p8:B8) (k0 i0 j5 i1 j1:Int) (q8:B8) (p6 p7 v0:TV) st14=>need (List.all (cV k5 p9 r7 p8 k0 i0 j5 i1 j1 q8 p6 p7 v0) Ah) (need (List.all [h3] Ah) (need (List.all [.int .i64 k5,.bool p9,.bool r7,.str p8,.int .i64 k0,.int .i64 i0,.int .i64 j5,.int .i64 i1,.int .i64 j1,.str q8,p6,p7,v0,h3,x7] Ah) (K k5 p9 r7 p8 k0 i0 j5 i1 j1 q8 p6 p7 v0 h3 x7 h3 0 st14))))))))))) (need (isSl f7) (CallT PR A0 [a,(.agg [.bool true,(.str []),(.int .i64 (lenS f7:Int))])] [.one .tv] b (fun (c8:TV) st15=>CallT PR Ay [(.agg (cV j d6 e8 e2 f k c d l a4 a5 g4 g1)),c8,(.agg (cV 7 false false [] 0 0 0 0 0 [] .nilSlice .nilSlice .nilSlice))] [sV] st15 (fun (i3:Int) (w4 w3:Bool) (r8:B8) (k6 j2 k7 j0 j7:Int) (w9:B8) (u3 u5 q0:TV) st16=>need (List.all (cV i3 w4 w3 r8 k6 j2 k7 j0 j7 w9 u3 u5 q0) Ah) (need (List.all [c8] Ah) (need (List.all [.int .i64 i3,.bool w4,.bool w3,.str r8,.int .i64 k6,.int .i64 j2,.int .i64 k7,.int .i64 j0,.int .i64 j7,.str w9,u3,u5,q0,c8,q] Ah) (K i3 w4 w3 r8 k6 j2 k7 j0 j7 w9 u3 u5 q0 c8 q c8 0 st16)))))))) (BId ((0:Int)<=k_2) (need (List.all [.int .i64 e1,.bool f1,.bool c1,.str c3,.int .i64 g7,.int .i64 f9,.int .i64 d3,.int .i64 c2,.int .i64 a9,.str e6,h2,g9,d5,f8,f2] Ah) (K e1 f1 c1 c3 g7 f9 d3 c2 a9 e6 h2 g9 d5 f8 f2 .nilSlice 8 b)) (BIf (!k2) (CallT PR Ay [(.agg (cV j d6 e8 e2 f k c d l a4 a5 g4 g1)),a,(.agg (cV 7 false false [] 0 0 0 0 0 [] .nilSlice .nilSlice .nilSlice))] [sV] b (fun (w0:Int) (b53 y8:Bool) (s45:B8) (q4 r0 t1 u2 u8:Int) (s46:B8) (v95 v96 z9:TV) st17=>need (List.all (cV w0 b53 y8 s45 q4 r0 t1 u2 u8 s46 v95 v96 z9) Ah) (CallT PR AP [(.agg [.int .i64 w0,.bool b53,.bool y8,.str s45,.int .i64 q4,.int .i64 r0,.int .i64 t1,.int .i64 u2,.int .i64 u8,.str s46,v95,v96,z9,l8,q]),a,.int .i64 2,.int .i64 m2] [.agg [.int .i64,.bool,.bool,.str,.int .i64,.int .i64,.int .i64,.int .i64,.int .i64,.str,.tv,.tv,.tv,.tv,.tv]] st17 (fun (i2:Int) (r9 w1:Bool) (w2:B8) (j4 j3 i6 i7 i4:Int) (q7:B8) (r6 w8 k9 v101 j8:TV) st18=>need (List.all [.int .i64 i2,.bool r9,.bool w1,.str w2,.int .i64 j4,.int .i64 j3,.int .i64 i6,.int .i64 i7,.int .i64 i4,.str q7,r6,w8,k9,v101,j8] Ah) (need (List.all [a] Ah) (need (List.all [.int .i64 i2,.bool r9,.bool w1,.str w2,.int .i64 j4,.int .i64 j3,.int .i64 i6,.int .i64 i7,.int .i64 i4,.str q7,r6,w8,k9,a,j8] Ah) (K i2 r9 w1 w2 j4 j3 i6 i7 i4 q7 r6 w8 k9 a j8 a 0 st18))))))) (CallT PR AP [(.agg [.int .i64 j,.bool d6,.bool e8,.str e2,.int .i64 f,.int .i64 k,.int .i64 c,.int .i64 d,.int .i64 l,.str a4,a5,g4,g1,l8,q]),a,.int .i64 2,.int .i64 m2] [.agg [.int .i64,.bool,.bool,.str,.int .i64,.int .i64,.int .i64,.int .i64,.int .i64,.str,.tv,.tv,.tv,.tv,.tv]] b (fun (j9:Int) (x0 t3:Bool) (t8:B8) (i8 i9 j6 l0 k1:Int) (t4:B8) (k8 i5 k4 v106 k3:TV) st19=>need (List.all [.int .i64 j9,.bool x0,.bool t3,.str t8,.int .i64 i8,.int .i64 i9,.int .i64 j6,.int .i64 l0,.int .i64 k1,.str t4,k8,i5,k4,v106,k3] Ah) (need (List.all [a] Ah) (need (List.all [.int .i64 j9,.bool x0,.bool t3,.str t8,.int .i64 i8,.int .i64 i9,.int .i64 j6,.int .i64 l0,.int .i64 k1,.str t4,k8,i5,k4,a,k3] Ah) (K j9 x0 t3 t8 i8 i9 j6 l0 k1 t4 k8 i5 k4 a k3 a 0 st19)))))))))))))))))))))):CallT PR C6 [(.agg [.int .i64 x_0,.bool x_1,.bool x_2,.str x_3,.int .i64 x_4,.int .i64 x_5,.int .i64 x_6,.int .i64 x_7,.int .i64 x_8,.str x_9,x_10,x_11,x_12,x_13,x_14]),.int .i64 i,(.agg [.bool a_0,.bool a_1,a_2,.int .i64 a_3,.bool a_4,.bool a_5,.str a_6,.int .i64 a_7,.int .i64 a_8,.int .i64 a_9,.int .i64 a_10,.int .i64 a_11,.str a_12,a_13,a_14,a_15])] [.agg [.int .i64,.bool,.bool,.str,.int .i64,.int .i64,.int .i64,.int .i64,.int .i64,.str,.tv,.tv,.tv,.tv,.tv],.one .tv,.one (.int .i64)] st K:=
 Af (cfg:=⟨[3,5,6,10,13],[],[]⟩) (h:=(.seq .none (.seq .none (.seq .none (.cut ⟨[(9,.tv),(1,.int .i64)],[(3,0,0),(5,1,0),(6,2,0)],[(0,15),(1,16),(2,15)],[(0,0,.int .i64),(0,1,.bool),(0,2,.bool),(0,3,.str),(0,4,.int .i64),(0,5,.int .i64),(0,6,.int .i64),(0,7,.int .i64),(0,8,.int .i64),(0,9,.str),(0,10,.tv),(0,11,.tv),(0,12,.tv),(0,13,.tv),(0,14,.tv),(1,0,.bool),(1,1,.bool),(1,2,.tv),(1,3,.int .i64),(1,4,.bool),(1,5,.bool),(1,6,.str),(1,7,.int .i64),(1,8,.int .i64),(1,9,.int .i64),(1,10,.int .i64),(1,11,.int .i64),(1,12,.str),(1,13,.tv),(1,14,.tv),(1,15,.tv),(2,0,.int .i64),(2,1,.bool),(2,2,.bool),(2,3,.str),(2,4,.int .i64),(2,5,.int .i64),(2,6,.int .i64),(2,7,.int .i64),(2,8,.int .i64),(2,9,.str),(2,10,.tv),(2,11,.tv),(2,12,.tv),(2,13,.tv),(2,14,.tv)]⟩ .none (.seq .none (.seq .none (.seq .none (.seq .none (.seq (.block (.cut ⟨[(65,.bool),(1,.int .i64),(11,.tv),(14,.bool),(15,.int .i64),(16,.int .i64)],[(3,0,0),(5,1,0),(6,2,0),(10,3,0),(13,4,0)],[(0,15),(1,16),(2,15),(3,15),(4,13)],[(0,0,.int .i64),(0,1,.bool),(0,2,.bool),(0,3,.str),(0,4,.int .i64),(0,5,.int .i64),(0,6,.int .i64),(0,7,.int .i64),(0,8,.int .i64),(0,9,.str),(0,10,.tv),(0,11,.tv),(0,12,.tv),(0,13,.tv),(0,14,.tv),(1,0,.bool),(1,1,.bool),(1,2,.tv),(1,3,.int .i64),(1,4,.bool),(1,5,.bool),(1,6,.str),(1,7,.int .i64),(1,8,.int .i64),(1,9,.int .i64),(1,10,.int .i64),(1,11,.int .i64),(1,12,.str),(1,13,.tv),(1,14,.tv),(1,15,.tv),(2,0,.int .i64),(2,1,.bool),(2,2,.bool),(2,3,.str),(2,4,.int .i64),(2,5,.int .i64),(2,6,.int .i64),(2,7,.int .i64),(2,8,.int .i64),(2,9,.str),(2,10,.tv),(2,11,.tv),(2,12,.tv),(2,13,.tv),(2,14,.tv),(3,0,.int .i64),(3,1,.bool),(3,2,.bool),(3,3,.str),(3,4,.int .i64),(3,5,.int .i64),(3,6,.int .i64),(3,7,.int .i64),(3,8,.int .i64),(3,9,.str),(3,10,.tv),(3,11,.tv),(3,12,.tv),(3,13,.tv),(3,14,.tv),(4,0,.int .i64),(4,1,.bool),(4,2,.bool),(4,3,.str),(4,4,.int .i64),(4,5,.int .i64),(4,6,.int .i64),(4,7,.int .i64),(4,8,.int .i64),(4,9,.str),(4,10,.tv),(4,11,.tv),(4,12,.tv)]⟩ .none (.cond .none (.seq .none (.cond .none (.cut ⟨[(90,.bool),(1,.int .i64),(11,.tv),(14,.bool),(16,.int .i64)],[(3,0,0),(5,1,0),(6,2,0),(10,3,0),(13,4,0)],[(0,15),(1,16),(2,15),(3,15),(4,13)],[(0,0,.int .i64),(0,1,.bool),(0,2,.bool),(0,3,.str),(0,4,.int .i64),(0,5,.int .i64),(0,6,.int .i64),(0,7,.int .i64),(0,8,.int .i64),(0,9,.str),(0,10,.tv),(0,11,.tv),(0,12,.tv),(0,13,.tv),(0,14,.tv),(1,0,.bool),(1,1,.bool),(1,2,.tv),(1,3,.int .i64),(1,4,.bool),(1,5,.bool),(1,6,.str),(1,7,.int .i64),(1,8,.int .i64),(1,9,.int .i64),(1,10,.int .i64),(1,11,.int .i64),(1,12,.str),(1,13,.tv),(1,14,.tv),(1,15,.tv),(2,0,.int .i64),(2,1,.bool),(2,2,.bool),(2,3,.str),(2,4,.int .i64),(2,5,.int .i64),(2,6,.int .i64),(2,7,.int .i64),(2,8,.int .i64),(2,9,.str),(2,10,.tv),(2,11,.tv),(2,12,.tv),(2,13,.tv),(2,14,.tv),(3,0,.int .i64),(3,1,.bool),(3,2,.bool),(3,3,.str),(3,4,.int .i64),(3,5,.int .i64),(3,6,.int .i64),(3,7,.int .i64),(3,8,.int .i64),(3,9,.str),(3,10,.tv),(3,11,.tv),(3,12,.tv),(3,13,.tv),(3,14,.tv),(4,0,.int .i64),(4,1,.bool),(4,2,.bool),(4,3,.str),(4,4,.int .i64),(4,5,.int .i64),(4,6,.int .i64),(4,7,.int .i64),(4,8,.int .i64),(4,9,.str),(4,10,.tv),(4,11,.tv),(4,12,.tv)]⟩ .none .none)))))) .none)))))))))) mixed (fun _ _=>Tryz.call49 _ _) Tryz.func49 (by kernel_rfl) (by kernel_rfl) h
theorem K9 (v_0:Int) (d:Bool) (e:Bool) (v_3:B8) (v_4:Int) (v_5:Int) (v_6:Int) (v_7:Int) (v_8:Int) (v_9:B8) (v_10:TV) (v_11:TV) (v_12:TV) (depth:Int) (n:Nat) (st:St) (K:Int->St->Prop) (h:Ak (Ac st [] (.t (.box n 0)) 0) (fun (x1:TV)=>AO (.int .i64) x1 (fun (n1:Int)=>stB st (.box n 0) [(.int .i64 (i64.wrap (n1+(1:Int))))] (fun o=>∃(C1:Int->TV->V13 (St->Prop)),(BId ((48:Int)<depth) (K 9 o) (Ak (Ac o [] (.t (.box n 0)) 0) (fun (x2:TV)=>AO (.int .i64) x2 (fun (n2:Int)=>BId ((65536:Int)<n2) (K 10 o) (∃(C2:Bool->Int->TV->V13 (St->Prop)),(BId (v_0<0) (C2 true depth ((.box n 0)) v_0 d e v_3 v_4 v_5 v_6 v_7 v_8 v_9 v_10 v_11 v_12 o) (BId ((8:Int)<=v_0) (C2 true depth ((.box n 0)) v_0 d e v_3 v_4 v_5 v_6 v_7 v_8 v_9 v_10 v_11 v_12 o) (CallT PR Fg [(.agg (cV v_0 d e v_3 v_4 v_5 v_6 v_7 v_8 v_9 v_10 v_11 v_12))] [.one .bool] o (fun (b1:Bool) g9=>C2 b1 depth ((.box n 0)) v_0 d e v_3 v_4 v_5 v_6 v_7 v_8 v_9 v_10 v_11 v_12 g9))))/\∀c7 b p n3 b2 b3 s1 n4 n5 n6 n7 n8 s2 v1 v2 v3 w,C2 c7 b p n3 b2 b3 s1 n4 n5 n6 n7 n8 s2 v1 v2 v3 w->(BIf c7 (K 6 w) (∃(C3:Bool->Int->TV->V13 (St->Prop)),(BId (n3=2) (CallT PR Eb [(.agg [.bool b3,.str s1,.int .i64 n4])] [.one .bool] w (fun (b4:Bool) c1=>BIf (!b4) (C3 true b p n3 b2 b3 s1 n4 n5 n6 n7 n8 s2 v1 v2 v3 c1) (BId (n3=3) (CallT PR DA [(.agg [.int .i64 n5,.int .i64 n6,.int .i64 n7,.int .i64 n8])] [.one .bool] c1 (fun (b5:Bool) h0=>C3 ((!b5)) b p n3 b2 b3 s1 n4 n5 n6 n7 n8 s2 v1 v2 v3 h0)) (C3 false b p n3 b2 b3 s1 n4 n5 n6 n7 n8 s2 v1 v2 v3 c1)))) (BId (n3=3) (CallT PR DA [(.agg [.int .i64 n5,.int .i64 n6,.int .i64 n7,.int .i64 n8])] [.one .bool] w (fun (b6:Bool) g8=>C3 ((!b6)) b p n3 b2 b3 s1 n4 n5 n6 n7 n8 s2 v1 v2 v3 g8)) (C3 false b p n3 b2 b3 s1 n4 n5 n6 n7 n8 s2 v1 v2 v3 w)))/\∀c9 f c3 n9 b7 b8 s3 c2 b0 c6 c5 c4 s4 v4 v5 v6 m,C3 c9 f c3 n9 b7 b8 s3 c2 b0 c6 c5 c4 s4 v4 v5 v6 m->(BIf c9 (K 2 m) (BId (n9=4) (CallT PR ES [.str s4] [.one .bool] m (fun (b9:Bool) a5=>BIf (!b9) (K 5 a5) (BId ((65536:Int)<(s4.length:Int)) (K 10 a5) (need (isSl v4) (BId ((65536:Int)<(lenS v4:Int)) (K 10 a5) (C1 f c3 n9 b7 b8 s3 c2 b0 c6 c5 c4 s4 v4 v5 v6 a5)))))) (BId ((65536:Int)<(s4.length:Int)) (K 10 m) (need (isSl v4) (BId ((65536:Int)<(lenS v4:Int)) (K 10 m) (C1 f c3 n9 b7 b8 s3 c2 b0 c6 c5 c4 s4 v4 v5 v6 m)))))))))))))/\∀r e1 g4 d8 e5 s5 d3 d4 g5 g2 f4 s6 v7 v8 v9 f5,C1 r e1 g4 d8 e5 s5 d3 d4 g5 g2 f4 s6 v7 v8 v9 f5->(CallT PR FQ [v9] [.one (.int .i64)] f5 (fun (f6:Int) c0=>BId (f6≠0) (K f6 c0) (need (isSl v8) (∃(I1:Int->Int->TV->TV->Int->V13 (St->Prop)) (M1:Int->Int->TV->TV->Int->V13 (St->Nat)),(I1 0 r e1 v8 ((lenS v8:Int)) g4 d8 e5 s5 d3 d4 g5 g2 f4 s6 v7 v8 v9 c0)/\∀g a q d s a3 a7 a6 s7 a8 z a9 a4 a0 s8 a1 a2 k l,I1 g a q d s a3 a7 a6 s7 a8 z a9 a4 a0 s8 a1 a2 k l->(BId (g<s) (((0<=g/\g<(lenZ 13 d:Int))/\Ak ((Al l [] (.t (ixT 13 d g.toNat)) 0 13).map TV.agg) (fun (x3:TV)=>B5 [.int .i64,.bool,.bool,.str,.int .i64,.int .i64,.int .i64,.int .i64,.int .i64,.str,.tv,.tv,.tv] x3 (fun (d7:Int) (g0 e6:Bool) (s9:B8) (f1 e9 f0 d0 d5:Int) (e2:B8) (f7 g6 e8:TV)=>need (List.all (cV d7 g0 e6 s9 f1 e9 f0 d0 d5 e2 f7 g6 e8) Ah) (CallT PR C5 [(.agg (cV d7 g0 e6 s9 f1 e9 f0 d0 d5 e2 f7 g6 e8)),(.int .i64 (i64.wrap (a+(1:Int)))),q] [.one (.int .i64)] l (fun (f2:Int) y=>BId (f2≠0) (K f2 y) ((I1 ((i64.wrap (g+(1:Int)))) a q d s a3 a7 a6 s7 a8 z a9 a4 a0 s8 a1 a2 k y/\M1 ((i64.wrap (g+(1:Int)))) a q d s a3 a7 a6 s7 a8 z a9 a4 a0 s8 a1 a2 k y<M1 g a q d s a3 a7 a6 s7 a8 z a9 a4 a0 s8 a1 a2 k l)))))))) (need (isSl k) (∃(I2:Int->Int->TV->TV->Int->St->Prop) (M2:Int->Int->TV->TV->Int->St->Nat),(I2 0 a q k ((lenS k:Int)) l)/\∀i c u e v j,I2 i c u e v j->(BId (i<v) (((0<=i/\i<(lenZ 14 e:Int))/\Ak ((Al j [] (.t (ixT 14 e i.toNat)) 0 14).map TV.agg) (fun (x4:TV)=>B5 [.str,.int .i64,.bool,.bool,.str,.int .i64,.int .i64,.int .i64,.int .i64,.int .i64,.str,.tv,.tv,.tv] x4 (fun (g7:B8) (f8:Int) (e4 g3:Bool) (d6:B8) (d9 c8 g1 e7 e3:Int) (f3:B8) (e0 d1 d2:TV)=>need (List.all [.str g7,.int .i64 f8,.bool e4,.bool g3,.str d6,.int .i64 d9,.int .i64 c8,.int .i64 g1,.int .i64 e7,.int .i64 e3,.str f3,e0,d1,d2] Ah) (CallT PR C5 [(.agg (cV f8 e4 g3 d6 d9 c8 g1 e7 e3 f3 e0 d1 d2)),(.int .i64 (i64.wrap (c+(1:Int)))),u] [.one (.int .i64)] j (fun (f9:Int) x=>BId (f9≠0) (K f9 x) ((I2 ((i64.wrap (i+(1:Int)))) c u e v x/\M2 ((i64.wrap (i+(1:Int)))) c u e v x<M2 i c u e v j)))))))) (K 0 j))))))))))))):CallT PR C5 [(.agg (cV v_0 d e v_3 v_4 v_5 v_6 v_7 v_8 v_9 v_10 v_11 v_12)),.int .i64 depth,(.box n 0)] [.one (.int .i64)] st K:=
 Af (cfg:=⟨[3,9,12],[],[]⟩) (h:=(.seq .none (.seq .none (.cut ⟨[(1,.int .i64),(2,.tv)],[(3,0,0)],[(0,13)],[(0,0,.int .i64),(0,1,.bool),(0,2,.bool),(0,3,.str),(0,4,.int .i64),(0,5,.int .i64),(0,6,.int .i64),(0,7,.int .i64),(0,8,.int .i64),(0,9,.str),(0,10,.tv),(0,11,.tv),(0,12,.tv)]⟩ (.block (.seq .none (.cond .none (.seq .none (.cond .none (.cut ⟨[(27,.bool),(1,.int .i64),(2,.tv)],[(3,0,0)],[(0,13)],[(0,0,.int .i64),(0,1,.bool),(0,2,.bool),(0,3,.str),(0,4,.int .i64),(0,5,.int .i64),(0,6,.int .i64),(0,7,.int .i64),(0,8,.int .i64),(0,9,.str),(0,10,.tv),(0,11,.tv),(0,12,.tv)]⟩ .none (.cond .none (.cut ⟨[(40,.bool),(1,.int .i64),(2,.tv)],[(3,0,0)],[(0,13)],[(0,0,.int .i64),(0,1,.bool),(0,2,.bool),(0,3,.str),(0,4,.int .i64),(0,5,.int .i64),(0,6,.int .i64),(0,7,.int .i64),(0,8,.int .i64),(0,9,.str),(0,10,.tv),(0,11,.tv),(0,12,.tv)]⟩ .none .none)))))))) (.seq .none (.seq (.seq .none (.block (.loop ⟨[(91,.int .i64),(1,.int .i64),(2,.tv),(89,.tv),(90,.int .i64)],[(3,0,0)],[(0,13)],[(0,0,.int .i64),(0,1,.bool),(0,2,.bool),(0,3,.str),(0,4,.int .i64),(0,5,.int .i64),(0,6,.int .i64),(0,7,.int .i64),(0,8,.int .i64),(0,9,.str),(0,10,.tv),(0,11,.tv),(0,12,.tv)]⟩ .none))) (.seq (.seq .none (.block (.loop ⟨[(107,.int .i64),(1,.int .i64),(2,.tv),(105,.tv),(106,.int .i64)],[],[],[]⟩ .none))) .none))))))) mixed (fun _ _=>Tryz.call50 _ _) Tryz.func50 (by kernel_rfl) (by kernel_rfl) h
theorem Hu (v_0:Int) (v_1:Bool) (v_2:Bool) (v_3:B8) (v_4:Int) (v_5:Int) (v_6:Int) (v_7:Int) (v_8:Int) (v_9:B8) (v_10:TV) (v_11:TV) (v_12:TV) (depth:Int) (seen:Int) (st:St) (K:Int->Int->St->Prop) (h:BId ((48:Int)<depth) (K seen 9 st) (BId ((65536:Int)<=seen) (K seen 10 st) (CallT PR Ds [(.agg (cV v_0 v_1 v_2 v_3 v_4 v_5 v_6 v_7 v_8 v_9 v_10 v_11 v_12))] [.one (.int .i64)] st (fun (n1:Int) g=>BId (n1≠0) (K seen n1 g) (CallT PR C7 [(.agg (cV v_0 v_1 v_2 v_3 v_4 v_5 v_6 v_7 v_8 v_9 v_10 v_11 v_12))] [.one .tv] g (fun (v1:TV) i=>∃(I1:Int->Int->Int->TV->St->Prop) (M1:Int->Int->Int->TV->St->Nat),(I1 ((i64.wrap (seen+(1:Int)))) 0 depth v1 i)/\∀b c a d e,I1 b c a d e->(need (isSl d) (BId (c<(lenS d:Int)) (((0<=c/\c<(lenZ 13 d:Int))/\Ak ((Al e [] (.t (ixT 13 d c.toNat)) 0 13).map TV.agg) (fun (x1:TV)=>B5 [.int .i64,.bool,.bool,.str,.int .i64,.int .i64,.int .i64,.int .i64,.int .i64,.str,.tv,.tv,.tv] x1 (fun (n2:Int) (b1 b2:Bool) (s1:B8) (n3 n4 n5 n6 n7:Int) (s2:B8) (v2 v3 v4:TV)=>CallT PR B3 [(.agg (cV n2 b1 b2 s1 n3 n4 n5 n6 n7 s2 v2 v3 v4)),(.int .i64 (i64.wrap (a+(1:Int)))),.int .i64 b] [.one (.int .i64),.one (.int .i64)] e (fun (n8 n9:Int) f=>BId (n9≠0) (K n8 n9 f) ((I1 n8 ((i64.wrap (c+(1:Int)))) a d f/\M1 n8 ((i64.wrap (c+(1:Int)))) a d f<M1 b c a d e))))))) (K b 0 e))))))))):CallT PR B3 [(.agg (cV v_0 v_1 v_2 v_3 v_4 v_5 v_6 v_7 v_8 v_9 v_10 v_11 v_12)),.int .i64 depth,.int .i64 seen] [.one (.int .i64),.one (.int .i64)] st K:=
 Af (cfg:=⟨[3],[],[]⟩) (h:=(.seq .none (.seq .none (.seq .none (.seq .none (.seq .none (.seq .none (.seq (.seq .none (.block (.loop ⟨[(2,.int .i64),(10,.int .i64),(1,.int .i64),(9,.tv)],[],[],[]⟩ .none))) .none)))))))) mixed (fun _ _=>Tryz.call53 _ _) Tryz.func53 (by kernel_rfl) (by kernel_rfl) h
theorem Hy (v_0:Int) (v_1:Bool) (v_2:Bool) (v_3:B8) (v_4:Int) (v_5:Int) (v_6:Int) (v_7:Int) (v_8:Int) (v_9:B8) (v_10:TV) (v_11:TV) (v_12:TV) (st:St) (K:V13 (St->Prop)) (h:need (List.all (cV v_0 v_1 v_2 v_3 v_4 v_5 v_6 v_7 v_8 v_9 v_10 v_11 v_12) Ah) (Ak (CQ st 1 v_10) (fun (q1:Nat×List TV)=>need (List.all q1.2 Ah) (Cl 5 1 1 (.list 1 .full 0 []) q1.1 q1.2 st (fun (v1:TV) h3=>need (List.all [v1] Ah) (∃(I1:Int->V13 (V13 (V13 (St->Prop)))) (M1:Int->V13 (V13 (V13 (St->Nat)))),(I1 0 v_0 v_1 v_2 v_3 v_4 v_5 v_6 v_7 v_8 v_9 v_10 v_11 v_12 0 false false [] 0 0 0 0 0 [] .nilSlice .nilSlice .nilSlice v_0 v_1 v_2 v_3 v_4 v_5 v_6 v_7 v_8 v_9 v1 .nilSlice .nilSlice h3)/\∀c n1 b1 b2 s1 n2 n3 n4 n5 n6 s2 v2 v3 v4 n7 b3 b4 s3 n8 n9 w v a1 s4 v5 v6 v7 a0 b5 b6 s5 z a2 r s a3 s6 v8 v9 u y,I1 c n1 b1 b2 s1 n2 n3 n4 n5 n6 s2 v2 v3 v4 n7 b3 b4 s3 n8 n9 w v a1 s4 v5 v6 v7 a0 b5 b6 s5 z a2 r s a3 s6 v8 v9 u y->(need (isSl v3) (BId (c<(lenS v3:Int)) (((0<=c/\c<(lenZ 13 v3:Int))/\Ak ((Al y [] (.t (ixT 13 v3 c.toNat)) 0 13).map TV.agg) (fun (x1:TV)=>B5 [.int .i64,.bool,.bool,.str,.int .i64,.int .i64,.int .i64,.int .i64,.int .i64,.str,.tv,.tv,.tv] x1 (fun (i9:Int) (b7 b8:Bool) (s7:B8) (i1 j1 h2 i6 g8:Int) (s8:B8) (h1 h6 i5:TV)=>CallT PR Bn [(.agg (cV i9 b7 b8 s7 i1 j1 h2 i6 g8 s8 h1 h6 i5))] [sV] y (fun (g7:Int) (b9 e6:Bool) (s9:B8) (f2 e2 e5 f9 f8:Int) (f0:B8) (e8 f7 e9:TV) i8=>need (List.all (cV g7 b9 e6 s9 f2 e2 e5 f9 f8 f0 e8 f7 e9) Ah) (Cl 33 13 168 v9 1 (cV g7 b9 e6 s9 f2 e2 e5 f9 f8 f0 e8 f7 e9) i8 (fun (d9:TV) e7=>need (List.all [d9] Ah) ((I1 ((i64.wrap (c+(1:Int)))) n1 b1 b2 s1 n2 n3 n4 n5 n6 s2 v2 v3 v4 n7 b3 b4 s3 n8 n9 w v a1 s4 v5 v6 v7 a0 b5 b6 s5 z a2 r s a3 s6 v8 d9 u e7/\M1 ((i64.wrap (c+(1:Int)))) n1 b1 b2 s1 n2 n3 n4 n5 n6 s2 v2 v3 v4 n7 b3 b4 s3 n8 n9 w v a1 s4 v5 v6 v7 a0 b5 b6 s5 z a2 r s a3 s6 v8 d9 u e7<M1 c n1 b1 b2 s1 n2 n3 n4 n5 n6 s2 v2 v3 v4 n7 b3 b4 s3 n8 n9 w v a1 s4 v5 v6 v7 a0 b5 b6 s5 z a2 r s a3 s6 v8 v9 u y))))))))) (∃(I2:Int->V13 (V13 (V13 (St->Prop)))) (M2:Int->V13 (V13 (V13 (St->Nat)))),(I2 0 n1 b1 b2 s1 n2 n3 n4 n5 n6 s2 v2 v3 v4 n7 b3 b4 s3 n8 n9 w v a1 s4 v5 v6 v7 a0 b5 b6 s5 z a2 r s a3 s6 v8 v9 u y)/\∀a c4 c2 d2 a5 a6 a8 c6 d3 b0 a9 a7 d0 b a4 c5 d5 c8 d6 c3 c0 d4 c9 c1 c7 d7 d1 q k j g i d p m o l e f x n,I2 a c4 c2 d2 a5 a6 a8 c6 d3 b0 a9 a7 d0 b a4 c5 d5 c8 d6 c3 c0 d4 c9 c1 c7 d7 d1 q k j g i d p m o l e f x n->(need (isSl b) (BId (a<(lenS b:Int)) (((0<=a/\a<(lenZ 14 b:Int))/\need (isPtr (ixT 14 b a.toNat)) (Ak (Ac n [] (.t (Au (ixT 14 b a.toNat) 0)) 0) (fun (x2:TV)=>AO .str x2 (fun (e0:B8)=>((0<=a/\a<(lenZ 14 b:Int))/\need (isPtr (ixT 14 b a.toNat)) (Ak ((Al n [] (.t (Au (ixT 14 b a.toNat) 1)) 0 13).map TV.agg) (fun (x3:TV)=>B5 [.int .i64,.bool,.bool,.str,.int .i64,.int .i64,.int .i64,.int .i64,.int .i64,.str,.tv,.tv,.tv] x3 (fun (i3:Int) (j0 h7:Bool) (i7:B8) (i0 h5 h0 g9 i2:Int) (i4:B8) (h8 h9 h4:TV)=>CallT PR Bn [(.agg (cV i3 j0 h7 i7 i0 h5 h0 g9 i2 i4 h8 h9 h4))] [sV] n (fun (f5:Int) (g5 f3:Bool) (g1:B8) (g3 e1 g2 f1 f4:Int) (f6:B8) (e4 g6 g4:TV) g0=>(Ac g0 [] (.t (Au (ixT 14 b a.toNat) 0)) 0=some (.str e0)/\need (List.all [.str e0,.int .i64 f5,.bool g5,.bool f3,.str g1,.int .i64 g3,.int .i64 e1,.int .i64 g2,.int .i64 f1,.int .i64 f4,.str f6,e4,g6,g4] Ah) (Cl 65 14 184 x 1 [.str e0,.int .i64 f5,.bool g5,.bool f3,.str g1,.int .i64 g3,.int .i64 e1,.int .i64 g2,.int .i64 f1,.int .i64 f4,.str f6,e4,g6,g4] g0 (fun (d8:TV) e3=>need (List.all [d8] Ah) ((I2 ((i64.wrap (a+(1:Int)))) c4 c2 d2 a5 a6 a8 c6 d3 b0 a9 a7 d0 b a4 c5 d5 c8 d6 c3 c0 d4 c9 c1 c7 d7 d1 q k j g i d p m o l e f d8 e3/\M2 ((i64.wrap (a+(1:Int)))) c4 c2 d2 a5 a6 a8 c6 d3 b0 a9 a7 d0 b a4 c5 d5 c8 d6 c3 c0 d4 c9 c1 c7 d7 d1 q k j g i d p m o l e f d8 e3<M2 a c4 c2 d2 a5 a6 a8 c6 d3 b0 a9 a7 d0 b a4 c5 d5 c8 d6 c3 c0 d4 c9 c1 c7 d7 d1 q k j g i d p m o l e f x n))))))))))))))) (need (List.all (cV q k j g i d p m o l e f x) Ah) (K q k j g i d p m o l e f x n))))))))))))):CallT PR Bn [(.agg (cV v_0 v_1 v_2 v_3 v_4 v_5 v_6 v_7 v_8 v_9 v_10 v_11 v_12))] [sV] st K:=
 Af (cfg:=⟨[1,2,3],[],[27,46,52]⟩) (h:=(.seq .none (.seq .none (.seq .none (.seq .none (.seq .none (.seq (.seq .none (.block (.loop ⟨[(4,.int .i64)],[(1,0,0),(2,1,0),(3,2,0)],[(0,13),(1,13),(2,13)],[(0,0,.int .i64),(0,1,.bool),(0,2,.bool),(0,3,.str),(0,4,.int .i64),(0,5,.int .i64),(0,6,.int .i64),(0,7,.int .i64),(0,8,.int .i64),(0,9,.str),(0,10,.tv),(0,11,.tv),(0,12,.tv),(1,0,.int .i64),(1,1,.bool),(1,2,.bool),(1,3,.str),(1,4,.int .i64),(1,5,.int .i64),(1,6,.int .i64),(1,7,.int .i64),(1,8,.int .i64),(1,9,.str),(1,10,.tv),(1,11,.tv),(1,12,.tv),(2,0,.int .i64),(2,1,.bool),(2,2,.bool),(2,3,.str),(2,4,.int .i64),(2,5,.int .i64),(2,6,.int .i64),(2,7,.int .i64),(2,8,.int .i64),(2,9,.str),(2,10,.tv),(2,11,.tv),(2,12,.tv)]⟩ .none))) (.seq (.seq .none (.block (.loop ⟨[(5,.int .i64)],[(1,0,0),(2,1,0),(3,2,0)],[(0,13),(1,13),(2,13)],[(0,0,.int .i64),(0,1,.bool),(0,2,.bool),(0,3,.str),(0,4,.int .i64),(0,5,.int .i64),(0,6,.int .i64),(0,7,.int .i64),(0,8,.int .i64),(0,9,.str),(0,10,.tv),(0,11,.tv),(0,12,.tv),(1,0,.int .i64),(1,1,.bool),(1,2,.bool),(1,3,.str),(1,4,.int .i64),(1,5,.int .i64),(1,6,.int .i64),(1,7,.int .i64),(1,8,.int .i64),(1,9,.str),(1,10,.tv),(1,11,.tv),(1,12,.tv),(2,0,.int .i64),(2,1,.bool),(2,2,.bool),(2,3,.str),(2,4,.int .i64),(2,5,.int .i64),(2,6,.int .i64),(2,7,.int .i64),(2,8,.int .i64),(2,9,.str),(2,10,.tv),(2,11,.tv),(2,12,.tv)]⟩ .none))) .none)))))))) mixed (fun _ _=>Tryz.call55 _ _) Tryz.func55 (by kernel_rfl) (by kernel_rfl) h
theorem Hw (v_0:Int) (v_1:Bool) (v_2:Bool) (v_3:B8) (v_4:Int) (v_5:Int) (v_6:Int) (v_7:Int) (v_8:Int) (v_9:B8) (v_10:TV) (v_11:TV) (v_12:TV) (st:St) (K:TV->St->Prop) (h:BId (v_0≠7) (K v_11 st) (∃(I1:TV->Int->V13 (St->Prop)) (M1:TV->Int->V13 (St->Nat)),(I1 .nilSlice 0 v_0 v_1 v_2 v_3 v_4 v_5 v_6 v_7 v_8 v_9 v_10 v_11 v_12 st)/\∀b a n1 b1 b2 s1 n2 n3 n4 n5 n6 s2 v1 v2 v3 c,I1 b a n1 b1 b2 s1 n2 n3 n4 n5 n6 s2 v1 v2 v3 c->(need (isSl v3) (BId (a<(lenS v3:Int)) (((0<=a/\a<(lenZ 14 v3:Int))/\need (isPtr (ixT 14 v3 a.toNat)) (Ak ((Al c [] (.t (Au (ixT 14 v3 a.toNat) 1)) 0 13).map TV.agg) (fun (x1:TV)=>B5 [.int .i64,.bool,.bool,.str,.int .i64,.int .i64,.int .i64,.int .i64,.int .i64,.str,.tv,.tv,.tv] x1 (fun (n7:Int) (b3 b4:Bool) (s3:B8) (n8 n9 d f g:Int) (s4:B8) (v4 v5 v6:TV)=>need (List.all (cV n7 b3 b4 s3 n8 n9 d f g s4 v4 v5 v6) Ah) (Cl 33 13 168 b 1 (cV n7 b3 b4 s3 n8 n9 d f g s4 v4 v5 v6) c (fun (v7:TV) e=>(I1 v7 ((i64.wrap (a+(1:Int)))) n1 b1 b2 s1 n2 n3 n4 n5 n6 s2 v1 v2 v3 e/\M1 v7 ((i64.wrap (a+(1:Int)))) n1 b1 b2 s1 n2 n3 n4 n5 n6 s2 v1 v2 v3 e<M1 b a n1 b1 b2 s1 n2 n3 n4 n5 n6 s2 v1 v2 v3 c)))))))) (K b c))))):CallT PR C7 [(.agg (cV v_0 v_1 v_2 v_3 v_4 v_5 v_6 v_7 v_8 v_9 v_10 v_11 v_12))] [.one .tv] st K:=
 Af (cfg:=⟨[1],[],[]⟩) (h:=(.seq .none (.seq .none (.seq .none (.seq (.seq .none (.block (.loop ⟨[(3,.tv),(4,.int .i64)],[(1,0,0)],[(0,13)],[(0,0,.int .i64),(0,1,.bool),(0,2,.bool),(0,3,.str),(0,4,.int .i64),(0,5,.int .i64),(0,6,.int .i64),(0,7,.int .i64),(0,8,.int .i64),(0,9,.str),(0,10,.tv),(0,11,.tv),(0,12,.tv)]⟩ .none))) .none))))) mixed (fun _ _=>Tryz.call59 _ _) Tryz.func59 (by kernel_rfl) (by kernel_rfl) h
theorem NH (s:B8) (st:St) (K:Bool->St->Prop) (h:CallT PR I6 [.str s] [.one (.int .i64),.one (.int .i64)] st (fun (n1 n2:Int) a=>K ((decide (n2=0))) a)):CallT PR ES [.str s] [.one .bool] st K:=
 Af (cfg:=⟨[],[],[]⟩) (h:= .none) mixed (fun _ _=>Tryz.call60 _ _) Tryz.func60 (by kernel_rfl) (by kernel_rfl) h
theorem Hh (s:B8) (st:St) (K:Bool->St->Prop) (h:CallT PR BO [.str s] [.one .tv,.one .bool] st (fun (v1:TV) (b1:Bool) a=>K b1 a)):CallT PR A5 [.str s] [.one .bool] st K:=
 Af (cfg:=⟨[],[],[]⟩) (h:= .none) mixed (fun _ _=>Tryz.call62 _ _) Tryz.func62 (by kernel_rfl) (by kernel_rfl) h
theorem Hc (a:TV) (b:TV) (st:St) (K:Bool->St->Prop) (h:need (isSl a) (need (isSl b) (BId ((lenS a:Int)≠(lenS b:Int)) (K false st) (∃(I1:Int->TV->TV->St->Prop) (M1:Int->TV->TV->St->Nat),(I1 0 a b st)/\∀c e f d,I1 c e f d->(need (isSl e) (BId (c<(lenS e:Int)) (((0<=c/\c<(lenZ 3 e:Int))/\Ak ((Al d [] (.t (ixT 3 e c.toNat)) 0 3).map TV.agg) (fun (x1:TV)=>B5 [.bool,.str,.int .i64] x1 (fun (b1:Bool) (s1:B8) (n1:Int)=>((0<=c/\c<(lenZ 3 f:Int))/\Ak ((Al d [] (.t (ixT 3 f c.toNat)) 0 3).map TV.agg) (fun (x2:TV)=>B5 [.bool,.str,.int .i64] x2 (fun (b2:Bool) (s2:B8) (n2:Int)=>BIf (!((b1==b2)&&(decide (s1=s2)&&(decide (n1=n2)&&true)))) (K false d) ((I1 ((i64.wrap (c+(1:Int)))) e f d/\M1 ((i64.wrap (c+(1:Int)))) e f d<M1 c e f d))))))))) (K true d))))))):CallT PR CH [a,b] [.one .bool] st K:=
 Af (cfg:=⟨[],[],[]⟩) (h:=(.seq .none (.seq .none (.seq (.seq .none (.block (.loop ⟨[(5,.int .i64),(0,.tv),(1,.tv)],[],[],[]⟩ .none))) .none)))) mixed (fun _ _=>Tryz.call63 _ _) Tryz.func63 (by kernel_rfl) (by kernel_rfl) h
end Go.TVF
