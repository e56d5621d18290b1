/- What the laws below rest on: a framework for Go programs, and contracts of the functions that they reach. -/
import Derived.Test.YtbbjecpcjdmfgaaDoorSaB
import Derived.Deep.Slices
import Derived.WideShapes
import Derived.ChangeArms
import Derived.OpenShut
import Derived.Test.YtbbjecpcjdmfgaaDoorProg
import Derived.KernelRfl
set_option maxRecDepth 20000
set_option linter.unusedVariables false
set_option linter.unusedSimpArgs false
section
namespace Go.TVF
open Go.IntKind(i64 u8)
open Go.RowKit (Below)
section
variable {P:Program} {g:Ghost} {st:St} {w:World}
theorem I9 {s:Nat} {f:Nat->TV}:∀{ps:List (Nat×CTy)} {rest:List TV} {v:TV},Nz s ps (ps.map (fun p=>f p.1)++rest)=some v->v=f s
 | [],rest,v,h=>by cases rest<;>simp[Nz]at h
 | p::ps,rest,v,h=>by
  simp only[List.map_cons,List.cons_append,Nz]at h
  split at h
  ·rename_i hb;simp only[Option.some.injEq]at h;rw[<-h,Nat.eq_of_beq_eq_true hb]
  ·exact I9 h
theorem H8 {i o:Nat} {f:Nat->Nat->TV}:∀{ps:List (Nat×Nat×CTy)} {v:TV},Kr i o ps (ps.map fun p=>f p.1 p.2.1)=some v->v=f i o
 | [],v,h=>by simp[Kr]at h
 | p::ps,v,h=>by
  simp only[List.map_cons,Kr]at h
  split at h
  ·rename_i hb
   simp only[Bool.and_eq_true]at hb
   simp only[Option.some.injEq]at h;rw[<-h,Nat.eq_of_beq_eq_true hb.1,Nat.eq_of_beq_eq_true hb.2]
  ·exact H8 h
theorem Ko {s:Nat}:∀{ps:List (Nat×Nat×Nat)} {q:Nat×Nat},Mp s ps=some q->(s,q)∈ps
 | [],q,h=>by simp[Mp]at h
 | p::ps,q,h=>by
  simp only[Mp]at h
  split at h
  ·rename_i hb;simp only[Option.some.injEq]at h;subst h;rw[<-Nat.eq_of_beq_eq_true hb];simp
  ·exact List.mem_cons_of_mem _ (Ko h)
theorem Kq {s:Nat}:∀{ps:List (Nat×Nat)} {q:Nat},H7 s ps=some q->(s,q)∈ps
 | [],q,h=>by simp[H7]at h
 | p::ps,q,h=>by
  simp only[H7]at h
  split at h
  ·rename_i hb;simp only[Option.some.injEq]at h;subst h;rw[<-Nat.eq_of_beq_eq_true hb];simp
  ·exact List.mem_cons_of_mem _ (Kq h)
theorem FM (k:Dd) (vals:List TV) (i:Nat):∀n o,(Ds k vals i n o).length=n
 | 0,o=>rfl
 | n+1,o=>by simp[Ds,FM k vals i n]
theorem HY (k:Dd) (vals:List TV) (i:Nat):∀n o j,j<n->(Ds k vals i n o)[j]? =some (NV k vals i (o+j))
 | 0,o,j,h=>absurd h (Nat.not_lt_zero _)
 | n+1,o,0,h=>by simp[Ds]
 | n+1,o,j+1,h=>by
  simp only[Ds,List.getElem?_cons_succ]
  rw[HY k vals i n (o+1) j (by omega),show o+1+j=o+(j+1)from by omega]
theorem Kj (k:Dd) (vals:List TV):∀n s i x,(Gp k vals n s)[i]? =some (some x)->∃m,H7 (s+i) k.locs=some m/\x=Ds k vals (s+i) m 0
 | 0,s,i,x,h=>by simp[Gp]at h
 | n+1,s,0,x,h=>by
  simp only[Gp,List.getElem?_cons_zero,Option.some.injEq]at h
  split at h
  ·rename_i m hm;simp only[Option.some.injEq]at h;exact⟨m,by simpa using hm,by simpa using h.symm⟩
  ·cases h
 | n+1,s,i+1,x,h=>by
  simp only[Gp,List.getElem?_cons_succ]at h
  obtain⟨m,h1,h2⟩:=Kj k vals n (s+1) i x h
  rw[show s+1+i=s+(i+1)from by omega]at h1 h2
  exact⟨m,h1,h2⟩
theorem I4 (k:Dd) (vals:List TV):∀n s i m,i<n->H7 (s+i) k.locs=some m->(Gp k vals n s)[i]? =some (some (Ds k vals (s+i) m 0))
 | 0,s,i,m,h,_=>absurd h (Nat.not_lt_zero _)
 | n+1,s,0,m,h,hm=>by simp only[Gp,List.getElem?_cons_zero,Nat.add_zero]at hm⊢;rw[hm]
 | n+1,s,i+1,m,h,hm=>by
  simp only[Gp,List.getElem?_cons_succ]
  have:=I4 k vals n (s+1) i m (by omega) (by rw[show s+1+i=s+(i+1)from by omega];exact hm)
  rw[show s+1+i=s+(i+1)from by omega]at this
  exact this
theorem Sim.weakLoc {loc loc':List (Option (List TV))} (s:Sim g st loc w) (h:∀(j:Nat) (x':List TV),loc'[j]? =some (some x')->∃x,loc[j]? =some (some x)/\x'.length=x.length/\∀i (hi:i<x'.length),x'[i]? =x[i]?∨x'[i]? =some .junk):Sim g st loc' w:=by
 have hd:∀k,Dom st loc' k->Dom st loc k:=by
  intro k d
  cases k with
  | box i=>exact d
  | loc i=>obtain⟨x',hx'⟩:=d;obtain⟨x,hx,_⟩:=h i x' hx';exact⟨x,hx⟩
 refine⟨s.nb,s.nt,s.below,s.fits,fun k d=>?_,fun k k' d d'=>s.inj k k' (hd k d) (hd k' d'),fun k d=>s.lo k (hd k d),s.own,?_,s.spApart,s.spLt,?_,?_,s.spTop,s.spTy,s.bTy,s.glob⟩
 ·cases k with
  | box i=>exact s.obj (.box i) d
  | loc i=>
   obtain⟨x',hx'⟩:=d
   obtain⟨x,hx,hlen,hel⟩:=h i x' hx'
   have:=s.obj (.loc i) ⟨x,hx⟩
   simp only[AQ,hx]at this
   simp only[AQ,hx']
   obtain⟨cs,hc,hr⟩:=this
   refine⟨cs,hc,hlen.trans hr.1,fun j hj=>?_⟩
   rcases hel j hj with e | e
   ·have hj':j<x.length:=hlen▸hj
    rw[List.getElem?_eq_getElem hj,List.getElem?_eq_getElem hj']at e
    simp only[Option.some.injEq]at e
    rw[e];exact hr.2 j hj'
   ·rw[List.getElem?_eq_getElem hj]at e
    simp only[Option.some.injEq]at e
    rw[e];exact .junk _
 ·intro id b l h' hsp
  obtain⟨c1,c2,c3,c4,c5⟩:=s.spCell id b l h' hsp
  exact⟨c1,c2,c3,fun k d=>c4 k (hd k d),c5⟩
 ·intro a ha
  obtain⟨c1,c2,c3,c4⟩:=s.sCell a ha
  exact⟨c1,c2,fun k d=>c3 k (hd k d),c4⟩
 ·intro b hb
  obtain⟨c1,c2,c3⟩:=s.protOk b hb
  exact⟨c1,fun k d=>c2 k (hd k d),c3⟩
theorem Dd.weak {k:Dd} {fr:Fr} {tmps:Array Value} {ns nl:Nat} (hk:k.ok nl fr=true) (s:Sim g st fr.loc w) (hf:D1 g w fr tmps) (hn:tmps.size=ns):
  Sim g st (k.frame ns nl (k.vals fr)).loc w/\D1 g w (k.frame ns nl (k.vals fr)) tmps:=by
 simp only[Dd.ok,Bool.and_eq_true,List.all_eq_true]at hk
 obtain⟨hp,hl⟩:=hk
 have hvals:(k.vals fr).drop k.slots.length=k.cells.map fun p=>HQ fr p.1 p.2.1:=by
  unfold Dd.vals
  rw[List.drop_append_of_le_length (by simp)]
  simp
 have hloc:∀(j:Nat) (x':List TV),(Gp k (k.vals fr) nl 0)[j]? =some (some x')->∃x,fr.loc[j]? =some (some x)/\x'.length=x.length/\∀i (hi:i<x'.length),x'[i]? =x[i]?∨x'[i]? =some .junk:=by
  intro j x' hx'
  obtain⟨m,hm,rfl⟩:=Kj _ _ _ _ _ _ hx'
  rw[Nat.zero_add]at hm
  have hsz:=hl _ (Kq hm)
  unfold PZ at hsz
  simp only at hsz
  split at hsz
  ·rename_i x hx
   have hxl:=Nat.eq_of_beq_eq_true hsz
   refine⟨x,hx,by rw[FM];exact hxl.symm,fun i hi=>?_⟩
   have him:i<m:=by rw[FM]at hi;exact hi
   rw[HY _ _ _ _ _ _ him,Nat.zero_add,Nat.zero_add]
   unfold NV
   rw[hvals]
   cases hc:Kr j i k.cells (k.cells.map fun p=>HQ fr p.1 p.2.1)with
   | none=>exact .inr rfl
   | some v=>
    have:=H8 (f:=HQ fr) hc
    left
    have hix:i<x.length:=by omega
    simp only[this,HQ,hx,List.getD_eq_getElem?_getD,List.getElem?_eq_getElem hix,Option.getD_some]
  ·cases hsz
 refine⟨s.weakLoc hloc,hn.symm,fun i=>?_⟩
 ·have hget:(k.frame ns nl (k.vals fr)).slots.f i=Ni k (k.vals fr) i:=rfl
  rw[hget]
  have hold:=hf.2 i
  unfold Ni
  split
  ·rename_i v hv
   have hv':Nz i k.slots (k.slots.map (fun p=>Hv fr p.1)++k.cells.map fun p=>HQ fr p.1 p.2.1)=some v:=hv
   have:=I9 (f:=Hv fr) hv'
   rw[this]
   show Rel g w (Hv fr i) _
   exact hold.tv
  ·split
   ·rename_i q hq
    obtain⟨hpi,hloc2⟩:=hp _ (Ko hq)
    unfold P9 at hloc2
    unfold Ol at hpi
    simp only at hpi
    split at hpi
    ·rename_i j p hs
     simp only[Bool.and_eq_true]at hpi
     have e1:=Nat.eq_of_beq_eq_true hpi.1
     have e2:=Nat.eq_of_beq_eq_true hpi.2
     rw[hs]at hold
     obtain⟨⟨x,hx⟩,hv⟩:=hold
     split at hloc2
     ·rename_i m hm
      have hlt:=Nat.le_of_ble_eq_true hloc2
      simp only at hlt hm
      have:=I4 k (k.vals fr) nl 0 q.1 m (by omega) (by rw[Nat.zero_add];exact hm)
      exact⟨⟨_,this⟩,by rw[hv,e1,e2]⟩
     ·cases hloc2
    ·cases hpi
   ·exact Rel.junk _
end
end Go.TVF
end
section
namespace Go.TVF
open Go.IntKind(i64 u8)
open Go.RowKit (Below)
theorem LM {P:Program} {Q:Exit->Act->World->Prop} {a:Act} {w:World} {c:Code} (I:Nat->Act->World->Prop) (h₀:∃m,I m a w)
  (round:∀m a w,I m a w->c.wp P (Exit.then (fun a' w'=>∃m',m'<m/\I m' a' w') Q) a w):(Code.loop c).wp P Q a w:=by
 intro b k cs
 have key:∀m a w,I m a w->∃e a' w',Q e a' w'/\Arrives P (lone (b.at a (.code c:: .inLoop c::k)) cs w) b k cs e a' w':=by
  intro m
  induction m using Nat.strongRecOn with
  | _ m ih=>
   intro a w hI
   obtain⟨e,a₁,w₁,hq,harr⟩:=round m a w hI b (.inLoop c::k) cs
   cases e with
   | normal=>
    obtain⟨m',hlt,hI₁⟩:=hq
    obtain⟨e₂,a₂,w₂,hq₂,harr₂⟩:=ih m' hlt a₁ w₁ hI₁
    exact⟨e₂,a₂,w₂,hq₂,.of_steps (Steps.trans harr (.one step_inLoop)) harr₂⟩
   | exit id=>exact⟨_,a₁,w₁,hq,.pass (x:= .inLoop c) rfl (fun _ _=> .inl (by simp)) harr⟩
   | goto l=>exact⟨_,a₁,w₁,hq,.pass (x:= .inLoop c) rfl (fun _ _=> .inl (by simp)) harr⟩
   | ret=>exact⟨_,a₁,w₁,hq,.pass (x:= .inLoop c) rfl (fun _ _=> .inl (by simp)) harr⟩
   | panic ch=>exact⟨_,a₁,w₁,hq,.pass (x:= .inLoop c) rfl (fun _ _=> .inl (by simp)) harr⟩
   | outgrown=>exact⟨_,a₁,w₁,hq,.pass (x:= .inLoop c) rfl (fun _ _=> .inl (by simp)) harr⟩
 obtain⟨m,hm⟩:=h₀
 obtain⟨e,a',w',hq,harr⟩:=key m a w hm
 exact⟨e,a',w',hq,.of_steps (.one step_loop) harr⟩
theorem JF:∀{cs:List CTy} {vs:List TV} {I:Fun cs (St->Prop)} {M:Fun cs (St->Nat)} {B:List TV->Nat->St->Prop} {st:St},AllC cs I M B->Gx cs vs I (fun p=>p st)->∃m,B vs m st
 | [],[],I,M,B,st,h,hd=>⟨_,h st hd⟩
 | [],_::_,I,M,B,st,h,hd=>hd.elim
 | _::_,[],I,M,B,st,h,hd=>hd.elim
 | c::cs,v::vs,I,M,B,st,h,hd=>by
  obtain⟨y,rfl,hd2⟩:=Co hd
  exact JF (B:=fun l=>B (enc c y::l)) (h y) hd2
theorem KN:∀{cs:List CTy} {vs:List TV} {I:Fun cs (St->Prop)} {M:Fun cs (St->Nat)} {B:List TV->Nat->St->Prop} {st:St} {m:Nat},AllC cs I M B->MI cs vs I M (fun p q=>p st/\q st<m)->∃m',m'<m/\B vs m' st
 | [],[],I,M,B,st,m,h,hd=>⟨_,hd.2,h st hd.1⟩
 | [],_::_,I,M,B,st,m,h,hd=>hd.elim
 | _::_,[],I,M,B,st,m,h,hd=>hd.elim
 | c::cs,v::vs,I,M,B,st,m,h,hd=>by
  obtain⟨y,rfl,hd2⟩:=Co hd
  exact KN (B:=fun l=>B (enc c y::l)) (h y) hd2
theorem Id:∀{cs:List CTy} {vs:List TV} {I:Fun cs (St->Prop)} {B:List TV->St->Prop} {st:St},QM cs I B->Gx cs vs I (fun p=>p st)->B vs st
 | [],[],I,B,st,h,hd=>h st hd
 | [],_::_,I,B,st,h,hd=>hd.elim
 | _::_,[],I,B,st,h,hd=>hd.elim
 | c::cs,v::vs,I,B,st,h,hd=>by
  obtain⟨y,rfl,hd2⟩:=Co hd
  exact Id (B:=fun l=>B (enc c y::l)) (h y) hd2
def QPost (g:Ghost) (w:World) (a0:Act) (Q:Exit->Fr->St->Prop) (e:Exit) (a:Act) (w':World):Prop:=Gy g w a0 (Q e) a w'
section
variable {P:Program} {cfg:Cfg} {ns nl:Nat}
theorem O9 (hm:P.follows .mixedOrders=true):∀(c:Code) (h:FW) (Q:Exit->Fr->St->Prop) (fr:Fr) (st:St) (g:Ghost) (w:World) (a:Act),cwp cfg P ns nl c h Q fr st->Sim g st fr.loc w->D1 g w fr a.tmps->a.tmps.size=ns->
  c.wp P (QPost g w a Q) a w:=by
 intro c
 induction c with
 | skip=>intro h Q fr st g w a hc s hf hn;exact wp_skip ⟨fr,st,g,hc,s,hf,Ext.refl _ _,rfl,rfl⟩
 | region id ops draw=>
  intro h Q fr st g w a hc s hf hn
  cases draw with
  | false=>exact wp_region_list (HW ops.toList fr st g w a hc s hf fun a' w' hp=>hp)
  | true=>exact Lq hm hc s hf fun a' w' hp=>hp
 | seq x y ihx ihy=>
  intro h Q fr st g w a hc s hf hn
  have key:∀(hx hy:FW),cwp cfg P ns nl x hx (LU (cwp cfg P ns nl y hy Q) Q) fr st->(Code.seq x y).wp P (QPost g w a Q) a w:=by
   intro hx hy hcx
   refine wp_seq (wp_mono (ihx hx _ fr st g w a hcx s hf hn) fun e a' w' hq=>?_)
   obtain⟨fr',st',g',h1,h2,h3,h4,h5⟩:=hq
   cases e with
   | normal=>
    refine wp_mono (ihy hy Q fr' st' g' w' a' h1 h2 h3 (h5.2.trans hn)) fun e a'' w'' hq2=>?_
    exact hq2.ext h4 h5
   | _=>exact⟨fr',st',g',h1,h2,h3,h4,h5⟩
  cases h with
  | cut k hx hy=>
   obtain⟨R,h1,h2⟩:=hc
   refine wp_seq (wp_mono (ihx hx _ fr st g w a h1 s hf hn) fun e a' w' hq=>?_)
   obtain⟨fr',st',g',q1,q2,q3,q4,q5⟩:=hq
   cases e with
   | normal=>
    have q1':need (k.ok nl fr') (Gx k.tys (k.vals fr') R fun p=>p st'):=q1
    rw[Af]at q1'
    obtain⟨w1,w2⟩:=Dd.weak (ns:=ns) q1'.1 q2 q3 (q5.2.trans hn)
    have hb:=Id h2 q1'.2
    exact wp_mono (ihy hy Q _ st' g' w' a' hb w1 w2 (q5.2.trans hn)) fun e a'' w'' hq2=>hq2.ext q4 q5
   | _=>exact⟨fr',st',g',q1,q2,q3,q4,q5⟩
  | none=>exact key _ _ hc
  | seq p q=>exact key _ _ hc
  | cond p q=>exact key _ _ hc
  | block p=>exact key _ _ hc
  | loop k p=>exact key _ _ hc
 | cond c x y ihx ihy=>
  intro h Q fr st g w a hc s hf hn
  simp only[cwp]at hc
  split at hc
  ·rename_i b hb
   have hr:=K9 hf c
   rw[hb]at hr
   have hr':Rel g w (.bool b) (a.eval c):=hr
   have hev:a.eval c= .bool b:=by generalize a.eval c=q at hr';cases hr';rfl
   cases b with
   | true=>exact wp_cond_true hev (ihx h.l Q fr st g w a hc s hf hn)
   | false=>exact wp_cond_false hev (ihy h.r Q fr st g w a hc s hf hn)
  ·exact hc.elim
 | block id x ih=>
  intro h Q fr st g w a hc s hf hn
  refine wp_block (wp_mono (ih h.l (N0 id Q) fr st g w a hc s hf hn) fun e a' w' hq=>?_)
  obtain⟨fr',st',g',h1,h2,h3,h4,h5⟩:=hq
  cases e with
  | exit id'=>
   simp only[N0]at h1
   by_cases hid:id'=id
   ·subst hid
    have hbe:(id'.beq id')=true:=Nat.beq_refl id'
    simp only[hbe]at h1
    simp only[Exit.inBlock,if_true]
    exact⟨fr',st',g',h1,h2,h3,h4,h5⟩
   ·have hbe:(id'.beq id)=false:=by
     cases hq:id'.beq id with
     | false=>rfl
     | true=>exact absurd (Nat.eq_of_beq_eq_true hq) hid
    simp only[hbe]at h1
    simp only[Exit.inBlock,hid,if_false]
    exact⟨fr',st',g',h1,h2,h3,h4,h5⟩
  | _=>exact⟨fr',st',g',h1,h2,h3,h4,h5⟩
 | loop x ih=>
  intro h Q fr st g w a hc s hf hn
  cases h with
  | loop k hx=>
   obtain⟨I,M,h1,h2⟩:=hc
   rw[Af]at h1
   refine LM (fun m a' w'=>∃vals st' g',cwp cfg P ns nl x hx (LU (fun fr st=>need (k.ok nl fr) (MI k.tys (k.vals fr) I M fun p q=>p st/\q st<m)) Q) (k.frame ns nl vals) st'/\
    Sim g' st' (k.frame ns nl vals).loc w'/\D1 g' w' (k.frame ns nl vals) a'.tmps/\Ext g w g' w'/\a'.defers=a.defers/\a'.tmps.size=a.tmps.size) ?_ ?_
   ·obtain⟨m,hm⟩:=JF h2 h1.2
    obtain⟨w1,w2⟩:=Dd.weak (ns:=ns) h1.1 s hf hn
    exact⟨m,_,st,g,hm,w1,w2,Ext.refl _ _,rfl,rfl⟩
   ·rintro m a' w' ⟨vals,st',g',q1,q2,q3,q4,q5⟩
    refine wp_mono (ih hx _ _ st' g' w' a' q1 q2 q3 (q5.2.trans hn)) fun e a'' w'' hq=>?_
    obtain⟨fr2,st2,g2,r1,r2,r3,r4,r5⟩:=hq
    cases e with
    | normal=>
     have r1':need (k.ok nl fr2) (MI k.tys (k.vals fr2) I M fun p q=>p st2/\q st2<m):=r1
     rw[Af]at r1'
     obtain⟨m',hlt,hB⟩:=KN h2 r1'.2
     obtain⟨w1,w2⟩:=Dd.weak (ns:=ns) r1'.1 r2 r3 (r5.2.trans (q5.2.trans hn))
     exact⟨m',hlt,_,st2,g2,hB,w1,w2,q4.trans r4,r5.1.trans q5.1,r5.2.trans q5.2⟩
    | _=>exact⟨fr2,st2,g2,r1,r2,r3,q4.trans r4,r5.1.trans q5.1,r5.2.trans q5.2⟩
  | _=>exact hc.elim
 | exit id=>intro h Q fr st g w a hc s hf hn;exact wp_exit ⟨fr,st,g,hc,s,hf,Ext.refl _ _,rfl,rfl⟩
 | ret=>intro h Q fr st g w a hc s hf hn;exact wp_ret ⟨fr,st,g,hc,s,hf,Ext.refl _ _,rfl,rfl⟩
 | _=>intro h Q fr st g w a hc s hf hn;exact hc.elim
def HB (P:Program) (fr:Fr) (st:St):ResultVar->Option TV
 | .tmp t=>some (Hv fr t)
 | .cell a t=>match GQ P t with
  | some true=>match P.cellsOf t with
   | 0=>none
   | n=>(Am st fr.loc (fr.slots.f a) 0 n).map .agg
  | some false=>Ac st fr.loc (fr.slots.f a) 0
  | none=>none
def FI (P:Program) (fr:Fr) (st:St):List ResultVar->Option (List TV)
 | []=>some []
 | r::rs=>match HB P fr st r with
  | some v=>(FI P fr st rs).map (v::·)
  | none=>none
def Nc:List TV->TV
 | [v]=>v
 | vs=> .tuple vs
def resT (P:Program) (fn:Func) (fr:Fr) (st:St):Option TV:=(FI P fr st fn.results.toList).map Nc
def Lb (P:Program) (fr:Fr) (st:St) (r:ResultVar) (k:TV->Prop):Prop:=
 match r with
 | .tmp t=>k (Hv fr t)
 | .cell a t=>match GQ P t with
  | some true=>match P.cellsOf t with
   | 0=>False
   | n=>Al ((Am st fr.loc (fr.slots.f a) 0 n).map .agg) k
  | some false=>Al (Ac st fr.loc (fr.slots.f a) 0) k
  | none=>False
def G8 (P:Program) (fr:Fr) (st:St):List ResultVar->(List TV->Prop)->Prop
 | [],k=>k []
 | r::rs,k=>Lb P fr st r fun v=>G8 P fr st rs fun vs=>k (v::vs)
theorem JV {P:Program} {fr:Fr} {st:St} {r:ResultVar} {k:TV->Prop} (h:Lb P fr st r k):∃v,HB P fr st r=some v/\k v:=by
 cases r with
 | tmp t=>exact⟨_,rfl,h⟩
 | cell a t=>
  unfold Lb at h
  unfold HB
  simp only at h⊢
  cases ha:GQ P t with
  | none=>rw[ha]at h;exact h.elim
  | some b=>
   rw[ha]at h
   cases b with
   | true=>
    simp only at h⊢
    cases hn:P.cellsOf t with
    | zero=>rw[hn]at h;exact h.elim
    | succ n=>
     rw[hn]at h
     exact Bl.1 h
   | false=>exact Bl.1 h
theorem Gn {P:Program} {fr:Fr} {st:St}:∀{rs:List ResultVar} {k:List TV->Prop},G8 P fr st rs k->∃vs,FI P fr st rs=some vs/\k vs
 | [],k,h=>⟨[],rfl,h⟩
 | r::rs,k,h=>by
  obtain⟨v,h1,h2⟩:=JV h
  obtain⟨vs,h3,h4⟩:=Gn h2
  exact⟨v::vs,by simp[FI,h1,h3],h4⟩
def retQ (P:Program) (fn:Func) (R:TV->St->Prop):Exit->Fr->St->Prop
 | .normal,fr,st=>G8 P fr st fn.results.toList fun vs=>R (Nc vs) st
 | .ret,fr,st=>G8 P fr st fn.results.toList fun vs=>R (Nc vs) st
 | _,_,_=>False
def Fa (cfg:Cfg) (fn:Func) (args:List TV):Fr:=⟨⟨fn.ntmps,fun i=>match args[i]? with | some v=> .t v | none=> .t .undef⟩,cfg.loc.map fun _=>none⟩
theorem La {g:Ghost} {st:St} {w:World} {fr:Fr} {tmps:Array Value} (s:Sim g st fr.loc w) (hf:D1 g w fr tmps) {r:ResultVar} {v:TV} (h:HB P fr st r=some v):
  ∃u,(match r with | .tmp t=>pure (tmps.getD t Go.undef) | .cell a t=>do loadVar t (<-asAddr (tmps.getD a Go.undef)):Sem Value).run P w= .ok u w/\Rel g w v u:=by
 cases r with
 | tmp t=>
  simp only[HB,Option.some.injEq]at h
  subst h
  exact⟨_,rfl,(hf.2 t).tv⟩
 | cell a t=>
  simp only[HB]at h
  have hld:∀p,A5 g w fr.loc p (tmps.getD a Go.undef)->(Cz P st fr.loc t p).Is (.t v)->∃u,(do loadVar t (<-asAddr (tmps.getD a Go.undef)):Sem Value).run P w= .ok u w/\Rel g w v u:=by
   intro p hp hl
   have hl':=hl
   obtain⟨u,hu,hr⟩:=Ja (P:=P) s hp hl'
   have hsa:(Instr.loadAt t (tmps.getD a Go.undef)).run P w=(do loadVar t (<-asAddr (tmps.getD a Go.undef)):Sem Value).run P w:=by
    generalize hq:tmps.getD a Go.undef=q at hp hu
    simp only[Instr.loadAt,Sem.run_bind]
    cases q with
    | pointer o=>cases o with
     | none=>simp[Instr.loadAt,Instr.sureAddr]at hu
     | some ad=>simp[Instr.sureAddr,asAddr]
    | _=>simp[Instr.loadAt,Instr.sureAddr]at hu
   exact⟨u,by rw[<-hsa];exact hu,hr⟩
  split at h
  ·rename_i ha
   split at h
   ·cases h
   ·rename_i n hn
    refine hld _ (hf.2 a) ?_
    unfold Cz
    rw[ha]
    exact⟨v,by
     split
     ·rename_i h0;exact absurd h0 hn
     ·exact h,rfl⟩
  ·rename_i ha
   refine hld _ (hf.2 a) ?_
   unfold Cz
   rw[ha]
   exact⟨v,h,rfl⟩
  ·cases h
theorem G7 {g:Ghost} {st:St} {w:World} {fr:Fr} {tmps:Array Value} (s:Sim g st fr.loc w) (hf:D1 g w fr tmps):∀{rs:List ResultVar} {vs:List TV},FI P fr st rs=some vs->
  ∃us:List Value,(rs.mapM (fun r=>match r with | .tmp t=>pure (tmps.getD t Go.undef) | .cell a t=>do loadVar t (<-asAddr (tmps.getD a Go.undef))):Sem (List Value)).run P w= .ok us w/\Aw g w vs us
 | [],vs,h=>by simp only[FI,Option.some.injEq]at h;subst h;exact⟨[],rfl,.nil _ _⟩
 | r::rs,vs,h=>by
  simp only[FI]at h
  split at h
  ·rename_i v hv
   obtain⟨vs',hvs',rfl⟩:=Option.map_eq_some_iff.1 h
   obtain⟨u,hu,hr⟩:=La s hf hv
   obtain⟨us,hus,hrs⟩:=G7 s hf hvs'
   refine⟨u::us,?_,.cons hr hrs⟩
   rw[List.mapM_cons]
   simp only[Sem.run_bind,hu,Result.andThen_ok,hus,Sem.run_pure]
  ·cases h
theorem Nn {g:Ghost} {st:St} {w:World} {fr:Fr} {tmps:Array Value} (s:Sim g st fr.loc w) (hf:D1 g w fr tmps) {fn:Func} {v:TV} (h:resT P fn fr st=some v):∃u,(results fn tmps).run P w= .ok u w/\Rel g w v u:=by
 unfold resT at h
 cases hr:FI P fr st fn.results.toList with
 | none=>rw[hr]at h;cases h
 | some vs=>
  rw[hr]at h
  obtain⟨us,hus,hrel⟩:=G7 s hf hr
  have hrun:(fn.results.mapM (fun r=>match r with | .tmp t=>pure (tmps.getD t Go.undef) | .cell a t=>do loadVar t (<-asAddr (tmps.getD a Go.undef))):Sem (Array Value)).run P w= .ok us.toArray w:=by
   rw[<-Array.toArray_toList (xs:=fn.results),List.mapM_toArray]
   simp only[Sem.run_map,hus,Result.andThen_ok]
  refine⟨if h:us.toArray.size=1 then us.toArray[0]else .tuple us.toArray,?_,?_⟩
  ·have hres:results fn tmps=(do
     let vs<-(fn.results.mapM (fun r=>match r with | .tmp t=>pure (tmps.getD t Go.undef) | .cell a t=>do loadVar t (<-asAddr (tmps.getD a Go.undef))):Sem (Array Value))
     pure (if h:vs.size=1 then vs[0]else .tuple vs)):=rfl
   rw[hres,Sem.run_bind,hrun]
   rfl
  ·cases vs with
   | nil=>
    simp only[Option.map_some,Option.some.injEq,Nc]at h;subst h
    have:us=[]:=List.eq_nil_of_length_eq_zero hrel.1.symm
    subst this
    exact Rel.tuple [] [] rfl (fun i hi=>absurd hi (Nat.not_lt_zero _))
   | cons v1 vs1=>cases vs1 with
    | nil=>
     simp only[Option.map_some,Option.some.injEq,Nc]at h;subst h
     cases us with
     | nil=>have:=hrel.1;simp at this
     | cons u1 us1=>
      have:us1=[]:=List.eq_nil_of_length_eq_zero (by have:=hrel.1;simpa using this.symm)
      subst this
      simpa using hrel.2 0 (by simp)
    | cons v2 vs2=>
     simp only[Option.map_some,Option.some.injEq,Nc]at h;subst h
     have hl:us.toArray.size≠1:=by have:=hrel.1;simp at this⊢;omega
     rw[dif_neg hl]
     exact Rel.tuple _ us hrel.1 hrel.2
theorem ON (hm:P.follows .mixedOrders=true) {f:FuncId} {fn:Func} {c:Code} (hcall:∀(vs:Array Value) (w:World),(callFunc f vs).run P w= .ok (.enter f vs) w) (hf:P.funcs[f]? =some fn) (hb:fn.body=some c)
  (cfg:Cfg) (h:FW) {args:List TV} {st:St} {R:TV->St->Prop} (hn:args.length<=fn.ntmps)
  (hc:cwp cfg P fn.ntmps cfg.loc.length c h (retQ P fn R) (Fa cfg fn args) st):Ch P f args st R:=by
 refine EZ hcall fun g w vargs s hr=>?_
 refine calls_of_wp hf hb ?_
 have hlen:vargs.length=args.length:=hr.1.symm
 have hsize:(vargs.toArray++Array.replicate (fn.ntmps-vargs.toArray.size) Go.undef).size=fn.ntmps:=by simp;omega
 have hsim:Sim g st (Fa cfg fn args).loc w:=s.weakLoc fun j x' hx'=>by
  simp only[Fa,List.getElem?_map]at hx'
  cases hq:cfg.loc[j]? with
  | none=>rw[hq]at hx';cases hx'
  | some q=>rw[hq]at hx';simp at hx'
 have hfr:D1 g w (Fa cfg fn args) (vargs.toArray++Array.replicate (fn.ntmps-vargs.toArray.size) Go.undef):=by
  refine⟨by rw[hsize];rfl,fun i=>?_⟩
  by_cases hia:i<args.length
  ·have h1:(Fa cfg fn args).slots.f i= .t args[i]:=by simp[Fa,hia]
   have h2:(vargs.toArray++Array.replicate (fn.ntmps-vargs.toArray.size) Go.undef).getD i Go.undef=vargs.getD i Go.undef:=by
    have:i<vargs.length:=by omega
    have hin:i<fn.ntmps:=by omega
    simp[Array.getD,Array.getElem_append,this,hin,List.getD_eq_getElem?_getD]
    omega
   rw[h1,h2]
   exact hr.2 i hia
  ·have h1:(Fa cfg fn args).slots.f i= .t .undef:=by simp[Fa,hia]
   have h2:(vargs.toArray++Array.replicate (fn.ntmps-vargs.toArray.size) Go.undef).getD i Go.undef=Go.undef:=by
    have:¬i<vargs.length:=by omega
    simp[Array.getD,Array.getElem_append,this]
   rw[h1,h2]
   exact Rel.undef
 refine wp_mono (O9 hm c h _ _ st g w {tmps:=vargs.toArray++Array.replicate (fn.ntmps-vargs.toArray.size) Go.undef,defers:=[]} hc hsim hfr hsize) fun e a' w' hq=>?_
 obtain⟨fr',st',g',h1,h2,h3,h4,h5,h6⟩:=hq
 have fin:G8 P fr' st' fn.results.toList (fun vs=>R (Nc vs) st')->a'.defers=[]/\∃v,(results fn a'.tmps).run P w'= .ok v w'/\∃v',Ending.returned v= .returned v'/\∃r st' g',R r st'/\Sim g' st' [] w'/\Rel g' w' r v'/\Ext g w g' w':=by
  intro ho
  obtain⟨vs,hvs,hR⟩:=Gn ho
  obtain⟨u,hu,hrel⟩:=Nn (fn:=fn) h2 h3 (by unfold resT;rw[hvs];rfl)
  exact⟨h5,u,hu,u,rfl,_,st',g',hR,h2.dropLoc (fun j x hx=>by simp at hx),hrel,h4⟩
 cases e with
 | normal=>exact fin h1
 | ret=>exact fin h1
 | _=>exact h1.elim
def St.zero:St:={nb:=0,box:=fun _=> .dead,nt:=0,live:=fun _=>false,ty:=fun _=>none,bt:=fun _=>none}
def Ghost.start (w:World):Ghost:={base:=w.heap.size,w0:=w,nb:=0,bk:=fun _=>0,lam:=fun _=>0,nt:=0,sp:=fun _=>none,S:=fun a=>a.spot=none/\∃v,w.cell? a=some v,prot:=fun _=>False}
theorem Sim.start (w:World) (hG:∀w',Below w.heap.size w w'->LH w'):Sim (Ghost.start w) St.zero [] w:=by
 have hd:∀k,¬Dom St.zero [] k:=by
  intro k d
  cases k with
  | box i=>exact absurd d (Nat.not_lt_zero _)
  | loc i=>obtain⟨x,hx⟩:=d;simp at hx
 exact⟨rfl,rfl,Below.refl _ _,Nat.le_refl _,fun k d=>absurd d (hd k),fun k k' d=>absurd d (hd k),fun k d=>absurd d (hd k),fun id h=>absurd h (Nat.not_lt_zero _),
  fun id b l h hh=>(by cases hh),fun i j b l h l' h' _ hh=>(by cases hh),fun id _=>rfl,fun a ha=>⟨ha.1,ha.2,fun k d=>absurd d (hd k),fun id l h hh=>(by cases hh)⟩,fun b hb=>hb.elim,fun id b l h hh=>(by cases hh),fun id b l h T hh=>(by cases hh),fun b T hb=>absurd hb (Nat.not_lt_zero _),hG⟩
theorem NW {f:FuncId} {args:List TV} (hcall:∀(vs:Array Value) (w:World),(callFunc f vs).run P w= .ok (.enter f vs) w) (h:Ch P f args St.zero fun r _=>r= .bool true) (w:World) (hG:∀w',Below w.heap.size w w'->LH w') (vargs:List Value) (hr:Aw (Ghost.start w) w args vargs):
  Calls P f vargs.toArray w fun e w'=>e= .returned (.bool true)/\Below w.heap.size w w':=by
 have h1:=h.run (Ghost.start w) w vargs (Sim.start w hG) hr
 unfold BQ at h1
 rw[hcall]at h1
 refine Calls.mono h1 ?_
 rintro e w' ⟨v,rfl,r,st',g',rfl,s',hrel,e'⟩
 have hb:=s'.below
 rw[e'.base,e'.w0]at hb
 cases hrel
 exact⟨rfl,hb⟩
end
def NZ (fn:Func):Code:=match fn.body with | some c=>c | none=> .skip
def Fw (cfg:Cfg) (P:Program) (h:FW) (fn:Func) (args:List TV) (st:St) (R:TV->St->Prop):Prop:=
 cwp cfg P fn.ntmps cfg.loc.length (NZ fn) h (retQ P fn R) (Fa cfg fn args) st
def fits (fn:Func) (args:List TV):Bool:=(fn.body.isSome).and (args.length.ble fn.ntmps)
theorem Aj {P:Program} (hm:P.follows .mixedOrders=true) {f:FuncId} {fn:Func} (hcall:∀(vs:Array Value) (w:World),(callFunc f vs).run P w= .ok (.enter f vs) w) (hf:P.funcs[f]? =some fn)
  {cfg:Cfg} {h:FW} {args:List TV} {st:St} {R:TV->St->Prop} (hn:fits fn args=true) {V:Prop} (he:Fw cfg P h fn args st R=V) (hV:V):Ch P f args st R:=by
 simp only[fits,Bool.and_eq_true]at hn
 obtain⟨c,hc⟩:=Option.isSome_iff_exists.1 hn.1
 have hb:fn.body=some (NZ fn):=by rw[NZ,hc]
 rw[<-he]at hV
 exact ON hm hcall hf hb cfg h (Nat.le_of_ble_eq_true hn.2) hV
def Dz (cs:List CTy) (v:TV) (f:Fun cs Prop):Prop:=
 match v with
 | .agg l=>decL cs l f
 | _=>False
def stB (st:St) (p:TV) (xs:List TV) (k:St->Prop):Prop:=
 match p with
 | .box b off=>∃l,st.box b= .cells l/\off+xs.length<=l.length/\k (st.put b (.cells (setAll l off xs)))
 | _=>False
theorem Ab {p:Prop} [Decidable p] {x y:Prop} (h1:p->x) (h2:¬p->y):BIf (decide p) x y:=by
 by_cases h:p
 ·simp only[h,decide_true,BIf];exact h1 h
 ·simp only[h,decide_false,BIf];exact h2 h
theorem AH {b:Bool} {x y:Prop} (h1:b=true->x) (h2:b=false->y):BIf b x y:=by
 cases b
 ·exact h2 rfl
 ·exact h1 rfl
end Go.TVF
end
section
namespace Go.TVF
open Go.IntKind(i64 u8)
structure At (a b:St):Prop where
 nb:a.nb<=b.nb
 box:∀i,i<a.nb->b.box i=a.box i
 nt:a.nt<=b.nt
 live:∀i,i<a.nt->b.live i=a.live i
 ty:∀i,i<a.nt->b.ty i=a.ty i
 bt:∀i,i<a.nb->b.bt i=a.bt i
theorem At.refl (a:St):At a a:=⟨Nat.le_refl _,fun _ _=>rfl,Nat.le_refl _,fun _ _=>rfl,fun _ _=>rfl,fun _ _=>rfl⟩
theorem At.trans {a b c:St} (h:At a b) (k:At b c):At a c:=
 ⟨Nat.le_trans h.nb k.nb,fun i hi=>(k.box i (Nat.lt_of_lt_of_le hi h.nb)).trans (h.box i hi),Nat.le_trans h.nt k.nt,fun i hi=>(k.live i (Nat.lt_of_lt_of_le hi h.nt)).trans (h.live i hi),fun i hi=>(k.ty i (Nat.lt_of_lt_of_le hi h.nt)).trans (h.ty i hi),fun i hi=>(k.bt i (Nat.lt_of_lt_of_le hi h.nb)).trans (h.bt i hi)⟩
theorem At.fresh {a b:St} (h:At a b) (T:Option Nat):At a (b.fresh T):=
 h.trans ⟨Nat.le_refl _,fun _ _=>rfl,Nat.le_succ _,fun i hi=>by simp only[St.fresh];rw[if_neg (by omega)],fun i hi=>by simp only[St.fresh];rw[if_neg (by omega)],fun _ _=>rfl⟩
theorem At.push {a b:St} (h:At a b) (o:Hn) (T:Option Nat):At a (b.push o T):=
 h.trans ⟨Nat.le_succ _,fun i hi=>by simp only[St.push];rw[if_neg (by omega)],Nat.le_refl _,fun _ _=>rfl,fun _ _=>rfl,fun i hi=>by simp only[St.push];rw[if_neg (by omega)]⟩
theorem At.retire {a b:St} (h:At a b) {id:Nat} (hid:a.nt<=id):At a (b.retire id):=
 ⟨h.nb,h.box,h.nt,fun i hi=>by simp only[St.retire];rw[if_neg (by omega)];exact h.live i hi,h.ty,h.bt⟩
theorem JY (l:B8):(AZ l).length=l.length:=by simp[AZ]
def Rd (sz:Nat) (v:TV) (n:Nat) (xs:List TV):Prop:=
 (v= .nilSlice/\n=0/\xs=[])∨∃tip,v= .list sz tip n xs
def Own (b sz:Nat) (st:St) (v:TV) (n:Nat) (xs:List TV):Prop:=
 (v= .nilSlice/\n=0/\xs=[])∨∃tip,v= .list sz tip n xs/\(tip= .full∨∃id,tip= .own id/\b<=id/\id<st.nt/\st.live id=true)
theorem Own.rd {b sz:Nat} {st:St} {v:TV} {n:Nat} {xs:List TV} (h:Own b sz st v n xs):Rd sz v n xs:=by
 rcases h with h | ⟨tip,h,_⟩
 ·exact .inl h
 ·exact .inr ⟨tip,h⟩
theorem Own.ext {b sz:Nat} {st st':St} {v:TV} {n:Nat} {xs:List TV} (h:Own b sz st v n xs) (e:At st st'):Own b sz st' v n xs:=by
 rcases h with h | ⟨tip,h,ht | ⟨id,h1,h2,h3,h4⟩⟩
 ·exact .inl h
 ·exact .inr ⟨tip,h,.inl ht⟩
 ·exact .inr ⟨tip,h,.inr ⟨id,h1,h2,Nat.lt_of_lt_of_le h3 e.nt,(e.live id h3).trans h4⟩⟩
theorem Own.nil (b sz:Nat) (st:St):Own b sz st .nilSlice 0 []:= .inl ⟨rfl,rfl,rfl⟩
theorem Own.full (b sz:Nat) (st:St) (n:Nat) (xs:List TV):Own b sz st (.list sz .full n xs) n xs:= .inr ⟨_,rfl,.inl rfl⟩
theorem Own.fresh {b sz:Nat} {st:St} {T:Option Nat} (n:Nat) (xs:List TV) (hb:b<=st.nt):Own b sz (st.fresh T) (.list sz (.own st.nt) n xs) n xs:=
 .inr ⟨_,rfl,.inr ⟨st.nt,rfl,hb,Nat.lt_succ_self _,by simp[St.fresh]⟩⟩
theorem Rd.isSl {sz:Nat} {v:TV} {n:Nat} {xs:List TV} (h:Rd sz v n xs):TVF.isSl v=true:=by
 rcases h with⟨rfl,_⟩ | ⟨tip,rfl⟩<;>rfl
theorem Rd.lenS {sz:Nat} {v:TV} {n:Nat} {xs:List TV} (h:Rd sz v n xs):TVF.lenS v=n:=by
 rcases h with⟨rfl,rfl,_⟩ | ⟨tip,rfl⟩<;>rfl
theorem Rd.lenZ {sz:Nat} {v:TV} {n:Nat} {xs:List TV} (h:Rd sz v n xs):TVF.lenZ sz v=n:=by
 rcases h with⟨rfl,rfl,_⟩ | ⟨tip,rfl⟩
 ·rfl
 ·simp[TVF.lenZ]
theorem Rd.isLst {sz:Nat} {v:TV} {n:Nat} {xs:List TV} (h:Rd sz v n xs):TVF.isLst sz v=true:=by
 rcases h with⟨rfl,rfl,_⟩ | ⟨tip,rfl⟩
 ·rfl
 ·simp[TVF.isLst]
theorem Rd.one {sz:Nat} {v:TV} {n:Nat} {xs:List TV} (h:Rd sz v n xs):Aq v=true:=by
 rcases h with⟨rfl,rfl,_⟩ | ⟨tip,rfl⟩<;>rfl
theorem Rd.ld {sz:Nat} {v:TV} {n:Nat} {xs:List TV} (h:Rd sz v n xs) (st:St) (i j:Nat) (hi:i*sz+j<xs.length):Ac st [] (.t (ixT sz v i)) j=some xs[i*sz+j]:=by
 rcases h with⟨rfl,rfl,rfl⟩ | ⟨tip,rfl⟩
 ·simp at hi
 ·simp[Ac,ixT,hi]
theorem Rd.ldf {sz:Nat} {v:TV} {n:Nat} {xs:List TV} (h:Rd sz v n xs) (st:St) (i f:Nat) (hi:i*sz+f<xs.length):Ac st [] (.t (AE (ixT sz v i) f)) 0=some xs[i*sz+f]:=by
 rcases h with⟨rfl,rfl,rfl⟩ | ⟨tip,rfl⟩
 ·simp at hi
 ·simp[Ac,ixT,AE,hi]
theorem Hl {T b sz bytes:Nat} {st0 st:St} {v:TV} {n k:Nat} {xs ys:List TV} {K:TV->St->Prop} (e:At st0 st) (hb:b=st0.nt) (h:Own b sz st v n xs) (hby:(n+k)*bytes<=140737488355328) (hys:k=0->ys=[])
  (hK:∀v' st',At st0 st'->st'.box=st.box->Own b sz st' v' (n+k) (xs++ys)->K v' st'):Cf T sz bytes v k ys st K:=by
 subst hb
 rcases h with⟨rfl,rfl,rfl⟩ | ⟨tip,rfl,ht⟩
 ·simp only[Cf]
  cases k with
  | zero=>rw[hys rfl]at hK;exact hK _ _ e rfl (.nil _ _ _)
  | succ m=>
   simp only[Af]
   refine⟨by simpa using hby,hK _ _ (e.fresh _) rfl ?_⟩
   simp only[List.nil_append,Nat.zero_add]
   exact Own.fresh _ _ e.nt
 ·simp only[Cf,Nat.beq_refl]
  refine⟨hby,?_⟩
  rcases ht with rfl | ⟨id,rfl,h1,h2,h3⟩
  ·cases k with
   | zero=>rw[hys rfl]at hK;simp only[List.append_nil]at hK;exact hK _ _ e rfl (Own.full _ _ _ _ _)
   | succ m=>exact hK _ _ (e.fresh _) rfl (Own.fresh _ _ e.nt)
  ·exact⟨h3,hK _ _ ((e.retire h1).fresh _) rfl (Own.fresh (st:=st.retire id) _ _ e.nt)⟩
theorem Aa {b:Bool} {k:Prop} (h:b=true) (hk:k):need b k:=Af.2 ⟨h,hk⟩
theorem Ad {α:Type} {o:Option α} {x:α} {k:α->Prop} (h:o=some x) (hk:k x):Al o k:=by rw[h];exact hk
theorem Ap (x:Int) (h1: -9223372036854775808<=x) (h2:x<=9223372036854775807):IntKind.wrap .i64 x=x:=by
 unfold IntKind.wrap
 simp only[IntKind.signed,IntKind.bits]
 simp
 omega
theorem wrapU8 (x:Int) (h1:0<=x) (h2:x<=255):IntKind.wrap .u8 x=x:=by
 unfold IntKind.wrap
 simp only[IntKind.signed,IntKind.bits]
 simp
 omega
end Go.TVF
end
section
namespace Go.TVF
open Go.IntKind(i64 u8)
open Go.RowKit (Below)
theorem Qx {r:TV} {st':St} (h:Dj [.one .bool] r (fun (b:Bool) (_:St)=>b=true) (fun p=>p st')):r= .bool true:=by
 cases r<;>simp only[Dj,DW,A1]at h<;>first | exact h.elim | skip
 subst h;rfl
theorem calls_law {P:Program} {f:FuncId} {args:List TV} (hcall:∀(vs:Array Value) (w:World),(callFunc f vs).run P w= .ok (.enter f vs) w) (h:CallT P f args [.one .bool] St.zero (fun r _=>r=true)) (w:World) (hG:∀w',Below w.heap.size w w'->LH w') (vargs:List Value) (hr:Aw (Ghost.start w) w args vargs):
  Calls P f vargs.toArray w fun e w'=>e= .returned (.bool true)/\Below w.heap.size w w':=
 NW hcall (Ch.mono h fun r st' hd=>Qx hd) w hG vargs hr
theorem IT (g:Ghost) (w:World) (s:ByteArray):Rel g w (.str s.data.toList) (.string s):=by
 have:=Rel.str (g:=g) (w:=w) s.data.toList
 simpa using this
def Jj:List CTy->List TV->Prop
 | [],xs=>xs=[]
 | .int k::cs,xs=>∃n ys,xs= .int k n::ys/\(Lit.int k n).wf=true/\Jj cs ys
 | .str::cs,xs=>∃l ys,xs= .str l::ys/\l.length<=maxLen/\Jj cs ys
 | .bool::cs,xs=>∃b ys,xs= .bool b::ys/\Jj cs ys
 | .tv::_,_=>False
def QL (P:Program):CTy->TypeId->Prop
 | .int k,t=>P.underlying t=some (.int k)
 | .bool,t=>P.underlying t=some .bool
 | .str,t=>P.underlying t=some .string
 | .tv,_=>False
section
variable {H:Type} {enc:TypeId×Value->H} {P:Program} {w:World} {base:Nat} {sp:Nat->Bool} {held:Bool}
theorem OZ {c:CTy} {t:TypeId} {fuel:Nat} {cs:List Value} {x:DataW H×List MemPlace} (g:Ghost) (hc:QL P c t) (h:DataW.trod enc P w base sp held fuel t cs=some x):
  ∃v u,cs=[u]/\Rel g w v u/\Jj [c] [v]:=by
 cases c with
 | int k=>
  obtain⟨n,rfl,_,hw⟩:=DataW.trod_int hc h
  exact⟨_,_,rfl,.int k n,n,[],rfl,hw,rfl⟩
 | bool=>
  obtain⟨b,rfl,_⟩:=DataW.trod_bool hc h
  exact⟨_,_,rfl,.bool b,b,[],rfl,rfl⟩
 | str=>
  obtain⟨s,rfl,_,hs⟩:=DataW.trod_string hc h
  exact⟨_,_,rfl,IT g w s,_,[],rfl,by rw[Array.length_toList];exact hs,rfl⟩
 | tv=>exact hc.elim
theorem N5 (b off i:Nat):(⟨b,off,none⟩:Addr).add i=⟨b,off+i,none⟩:=by
 unfold Addr.add;split
 ·rename_i h;subst h;rfl
 ·rfl
end
end Go.TVF
end
namespace Go.TVF
open Go.IntKind(i64 u8)
open Go Go.Proofs
theorem mixed:Tryd.prog.follows .mixedOrders=true:=by kernel_rfl
noncomputable def PR:Program:=Tryd.prog
abbrev V13(X:Type):=Int->Bool->Bool->B8->Int->Int->Int->Int->Int->B8->TV->TV->TV->X
abbrev sV:RTy:=.agg [.int .i64,.bool,.bool,.str,.int .i64,.int .i64,.int .i64,.int .i64,.int .i64,.str,.tv,.tv,.tv]
abbrev cV(a:Int)(b c:Bool)(d:B8)(e f g h i:Int)(j:B8)(k l m:TV):List TV:=[.int .i64 a,.bool b,.bool c,.str d,.int .i64 e,.int .i64 f,.int .i64 g,.int .i64 h,.int .i64 i,.str j,k,l,m]
abbrev BId(p:Prop)[Decidable p](a b:Prop):Prop:=BIf (decide p) a b
def fn_datakitlaw25_SectionBegins:Nat:=3
def BP:Nat:=5
def AR:Nat:=6
def A4:Nat:=7
def BO:Nat:=8
def Ay:Nat:=10
def CR:Nat:=11
def AJ:Nat:=13
def CA:Nat:=14
def AU:Nat:=15
def AY:Nat:=16
def BZ:Nat:=18
def CZ:Nat:=19
def Ah:Nat:=20
def CB:Nat:=22
def BN:Nat:=23
def Bk:Nat:=24
def DR:Nat:=27
def CS:Nat:=28
def Cn:Nat:=29
def Dx:Nat:=30
def Ep:Nat:=31
def BF:Nat:=32
def Au:Nat:=39
def BR:Nat:=40
def Bq:Nat:=41
def Bg:Nat:=42
def Bj:Nat:=43
def AB:Nat:=44
def Er:Nat:=45
def DS:Nat:=46
def Ar:Nat:=47
def AX:Nat:=48
def Di:Nat:=51
def Dh:Nat:=52
def GM:Nat:=53
def Fc:Nat:=54
def A9:Nat:=55
def BG:Nat:=60
def CW:Nat:=61
def CY:Nat:=62
def Bb:Nat:=63
def Do:Nat:=64
def Eu:Nat:=66
def C8:Nat:=67
def Et:Nat:=68
def CX:Nat:=71
def FS:Nat:=77
def Es:Nat:=78
def Fe:Nat:=79
def AM:Nat:=83
def JT:B8:=[97]
def str1:B8:=[98]
def str2:B8:=[120]
def str3:B8:=[121]
def str4:B8:=[122]
def str5:B8:=[49]
def str6:B8:=[48]
theorem C0 (l:TV) (cut:Int) (st:St) (K:Bool->St->Prop) (h:CallT PR BP [l] [.one .bool] st (fun (b1:Bool) i=>BIf (!b1) (CallT PR AR [] [.one .bool] i (fun (b2:Bool) r=>K b2 r)) (CallT PR A4 [l] [.one (.int .i64),.one (.int .i64)] i (fun (n1 n2:Int) f=>need (isSl l) (∃(C1:Int->TV->Int->St->Prop),(BId (n2≠0) (BId (n1<0) (K false f) (need (isSl l) (BId ((lenS l:Int)<=n1) (K false f) (C1 n1 l cut f)))) (C1 ((lenS l:Int)) l cut f))/\∀b c a j,C1 b c a j->(need (decide ((i64.wrap (b+(1:Int)))≠0)) (((isLst 16 c=true/\0<=(Int.tmod (i64.wrap a) (i64.wrap (b+(1:Int))))/\(Int.tmod (i64.wrap a) (i64.wrap (b+(1:Int))))<=(lenS c:Int))/\CallT PR A4 [(slT 16 .non c 0 (Int.toNat (Int.tmod (i64.wrap a) (i64.wrap (b+(1:Int))))))] [.one (.int .i64),.one (.int .i64)] j (fun (n3 n4:Int) d=>BId (n4≠0) (K false d) (BId ((Int.tmod (i64.wrap a) (i64.wrap (b+(1:Int))))=(0:Int)) (CallT PR AR [] [.one .bool] d (fun (b3:Bool) s=>K b3 s)) (((0<=(i64.wrap ((Int.tmod (i64.wrap a) (i64.wrap (b+(1:Int))))-(1:Int)))/\(i64.wrap ((Int.tmod (i64.wrap a) (i64.wrap (b+(1:Int))))-(1:Int)))<(lenZ 16 c:Int))/\need (isPtr (ixT 16 c (Int.toNat (i64.wrap ((Int.tmod (i64.wrap a) (i64.wrap (b+(1:Int))))-(1:Int)))))) (Al (Ac d [] (.t (AE (ixT 16 c (Int.toNat (i64.wrap ((Int.tmod (i64.wrap a) (i64.wrap (b+(1:Int))))-(1:Int))))) 0)) 0) (fun (x1:TV)=>A1 .bool x1 (fun (b4:Bool)=>BIf b4 (CallT PR AR [] [.one .bool] d (fun (b5:Bool) n=>K b5 n)) (((isLst 16 c=true/\0<=(Int.tmod (i64.wrap a) (i64.wrap (b+(1:Int))))/\(Int.tmod (i64.wrap a) (i64.wrap (b+(1:Int))))<=(lenS c:Int))/\((0<=(i64.wrap ((Int.tmod (i64.wrap a) (i64.wrap (b+(1:Int))))-(1:Int)))/\(i64.wrap ((Int.tmod (i64.wrap a) (i64.wrap (b+(1:Int))))-(1:Int)))<(lenZ 16 c:Int))/\Al ((Am d [] (.t (ixT 16 c (Int.toNat (i64.wrap ((Int.tmod (i64.wrap a) (i64.wrap (b+(1:Int))))-(1:Int)))))) 0 16).map TV.agg) (fun (x2:TV)=>Dz [.bool,.bool,.tv,.int .i64,.bool,.bool,.str,.int .i64,.int .i64,.int .i64,.int .i64,.int .i64,.str,.tv,.tv,.tv] x2 (fun (b6 b7:Bool) (v1:TV) (n5:Int) (b8 b9:Bool) (s1:B8) (n6 n7 n8 n9 g:Int) (s2:B8) (v2 v3 v4:TV)=>Al (CG d 16 (slT 16 .non c 0 (Int.toNat (Int.tmod (i64.wrap a) (i64.wrap (b+(1:Int))))))) (fun (q1:Nat×List TV)=>need (List.all q1.2 Aq) (Cf 39 16 200 (.list 16 .full 0 []) q1.1 q1.2 d (fun (v5:TV) o=>need (List.all [.bool b6,.bool b7,v1,.int .i64 n5,.bool b8,.bool b9,.str s1,.int .i64 n6,.int .i64 n7,.int .i64 n8,.int .i64 n9,.int .i64 g,.str s2,v2,v3,v4] Aq) (Cf 39 16 200 v5 1 [.bool b6,.bool b7,v1,.int .i64 n5,.bool b8,.bool b9,.str s1,.int .i64 n6,.int .i64 n7,.int .i64 n8,.int .i64 n9,.int .i64 g,.str s2,v2,v3,v4] o (fun (v6:TV) p=>CallT PR A4 [v6] [.one (.int .i64),.one (.int .i64)] p (fun (u q:Int) e=>(Am e [] (.t (ixT 16 c (Int.toNat (i64.wrap ((Int.tmod (i64.wrap a) (i64.wrap (b+(1:Int))))-(1:Int)))))) 0 16=some [.bool b6,.bool b7,v1,.int .i64 n5,.bool b8,.bool b9,.str s1,.int .i64 n6,.int .i64 n7,.int .i64 n8,.int .i64 n9,.int .i64 g,.str s2,v2,v3,v4]/\BId (u=(Int.tmod (i64.wrap a) (i64.wrap (b+(1:Int))))) (BId (q=8) (CallT PR AR [] [.one .bool] e (fun (m:Bool) k=>K m k)) (K false e)) (K false e)))))))))))))))))))))))))))):CallT PR fn_datakitlaw25_SectionBegins [l,.int .u8 cut] [.one .bool] st K:=
 Aj (cfg:=⟨[],[],[69]⟩) (h:=(.seq .none (.seq .none (.seq .none (.seq .none (.cut ⟨[(7,.int .i64),(0,.tv),(1,.int .u8)],[],[],[]⟩ .none .none)))))) mixed (fun _ _=>Tryd.call3 _ _) Tryd.func3 (by kernel_rfl) (by kernel_rfl) h
theorem Fv (l:TV) (st:St) (K:Bool->St->Prop) (h:∃(I1:Int->TV->St->Prop) (M1:Int->TV->St->Nat),(I1 0 l st)/\∀c f g,I1 c f g->(need (isSl f) (BId (c<(lenS f:Int)) (BId ((30:Int)<=c) (K false g) (((0<=c/\c<(lenZ 16 f:Int))/\need (isPtr (ixT 16 f c.toNat)) (Al (Ac g [] (.t (AE (ixT 16 f c.toNat) 2)) 0) (fun (v1:TV)=>need (isSl v1) (BId ((60:Int)<(lenS v1:Int)) (K false g) (((0<=c/\c<(lenZ 16 f:Int))/\need (isPtr (ixT 16 f c.toNat)) (Al ((Am g [] (.t (AE (ixT 16 f c.toNat) 3)) 0 13).map TV.agg) (fun (x2:TV)=>Dz [.int .i64,.bool,.bool,.str,.int .i64,.int .i64,.int .i64,.int .i64,.int .i64,.str,.tv,.tv,.tv] x2 (fun (n1:Int) (b1 b2:Bool) (s1:B8) (n2 n3 n4 n5 n6:Int) (s2:B8) (v2 v3 v4:TV)=>CallT PR BO [(.agg (cV n1 b1 b2 s1 n2 n3 n4 n5 n6 s2 v2 v3 v4))] [.one .bool] g (fun (b3:Bool) j=>BIf (!b3) (K false j) (∃(I2:Int->Int->TV->Int->St->Prop) (M2:Int->Int->TV->Int->St->Nat),(I2 0 0 f c j)/\∀i e b a d,I2 i e b a d->(((0<=a/\a<(lenZ 16 b:Int))/\need (isPtr (ixT 16 b a.toNat)) (Al (Ac d [] (.t (AE (ixT 16 b a.toNat) 2)) 0) (fun (v5:TV)=>need (isSl v5) (BId (e<(lenS v5:Int)) (((0<=a/\a<(lenZ 16 b:Int))/\need (isPtr (ixT 16 b a.toNat)) (Al (Ac d [] (.t (AE (ixT 16 b a.toNat) 2)) 0) (fun (v6:TV)=>((0<=e/\e<(lenZ 1 v6:Int))/\Al (Ac d [] (.t (ixT 1 v6 e.toNat)) 0) (fun (x5:TV)=>A1 .str x5 (fun (s3:B8)=>BId ((i64.wrap ((2000:Int)-i))<(s3.length:Int)) (K false d) (((0<=a/\a<(lenZ 16 b:Int))/\need (isPtr (ixT 16 b a.toNat)) (Al (Ac d [] (.t (AE (ixT 16 b a.toNat) 2)) 0) (fun (v7:TV)=>((0<=e/\e<(lenZ 1 v7:Int))/\Al (Ac d [] (.t (ixT 1 v7 e.toNat)) 0) (fun (x7:TV)=>A1 .str x7 (fun (s4:B8)=>(I2 ((i64.wrap (i+(s4.length:Int)))) ((i64.wrap (e+(1:Int)))) b a d/\M2 ((i64.wrap (i+(s4.length:Int)))) ((i64.wrap (e+(1:Int)))) b a d<M2 i e b a d))))))))))))))) ((I1 ((i64.wrap (a+(1:Int)))) b d/\M1 ((i64.wrap (a+(1:Int)))) b d<M1 c f g)))))))))))))))))))) (K true g)))):CallT PR BP [l] [.one .bool] st K:=
 Aj (cfg:=⟨[],[],[]⟩) (h:=(.seq .none (.seq (.seq .none (.block (.loop ⟨[(3,.int .i64),(0,.tv)],[],[],[]⟩ (.seq .none (.seq (.block (.seq .none (.seq .none (.seq .none (.block (.loop ⟨[(4,.int .i64),(5,.int .i64),(0,.tv),(3,.int .i64)],[],[],[]⟩ .none)))))) .none))))) .none))) mixed (fun _ _=>Tryd.call5 _ _) Tryd.func5 (by kernel_rfl) (by kernel_rfl) h
theorem Fy (st:St) (K:Bool->St->Prop) (h:CallT PR AJ [(.list 1 .full 2 [.str JT,.str str1])] [.agg [.bool,.bool,.tv,.int .i64,.bool,.bool,.str,.int .i64,.int .i64,.int .i64,.int .i64,.int .i64,.str,.tv,.tv,.tv]] st (fun (b1 b2:Bool) (v1:TV) (n1:Int) (b3 b4:Bool) (s1:B8) (n2 n3 n4 n5 n6:Int) (s2:B8) (v2 v3 v4:TV) c1=>CallT PR AJ [(.list 1 .full 1 [.str str4])] [.agg [.bool,.bool,.tv,.int .i64,.bool,.bool,.str,.int .i64,.int .i64,.int .i64,.int .i64,.int .i64,.str,.tv,.tv,.tv]] c1 (fun (b5 b6:Bool) (v5:TV) (n7:Int) (b7 b8:Bool) (s3:B8) (n8 n9 j e4 b0:Int) (s4:B8) (v6 v7 v8:TV) e2=>CallT PR CR [(.list 16 .full 3 [.bool b1,.bool b2,v1,.int .i64 n1,.bool b3,.bool b4,.str s1,.int .i64 n2,.int .i64 n3,.int .i64 n4,.int .i64 n5,.int .i64 n6,.str s2,v2,v3,v4,.bool true,.bool false,(.list 1 .full 2 [.str str2,.str str3]),.int .i64 0,.bool false,.bool false,(.str []),.int .i64 0,.int .i64 0,.int .i64 0,.int .i64 0,.int .i64 0,(.str []),.nilSlice,.nilSlice,.nilSlice,.bool b5,.bool b6,v5,.int .i64 n7,.bool b7,.bool b8,.str s3,.int .i64 n8,.int .i64 n9,.int .i64 j,.int .i64 e4,.int .i64 b0,.str s4,v6,v7,v8])] [sV,.one (.int .i64),.one (.int .i64)] e2 (fun (a6:Int) (b9 i:Bool) (s5:B8) (e8 a0 d7 v d2:Int) (s6:B8) (v9 o a:TV) (f9 p:Int) d9=>need (List.all (cV a6 b9 i s5 e8 a0 d7 v d2 s6 v9 o a) Aq) (CallT PR AJ [(.list 1 .full 1 [.str JT])] [.agg [.bool,.bool,.tv,.int .i64,.bool,.bool,.str,.int .i64,.int .i64,.int .i64,.int .i64,.int .i64,.str,.tv,.tv,.tv]] d9 (fun (f0 r:Bool) (f1:TV) (e0:Int) (f5 c2:Bool) (s7:B8) (a7 d5 n d3 e1:Int) (s8:B8) (c9 f f7:TV) e5=>CallT PR AJ [(.list 1 .full 2 [.str JT,.str str1])] [.agg [.bool,.bool,.tv,.int .i64,.bool,.bool,.str,.int .i64,.int .i64,.int .i64,.int .i64,.int .i64,.str,.tv,.tv,.tv]] e5 (fun (c3 x:Bool) (c6:TV) (k:Int) (a1 d8:Bool) (s9:B8) (d4 u l f2 a2:Int) (a9:B8) (a5 e6 f6:TV) c5=>CallT PR A4 [(.list 16 .full 2 [.bool f0,.bool r,f1,.int .i64 e0,.bool f5,.bool c2,.str s7,.int .i64 a7,.int .i64 d5,.int .i64 n,.int .i64 d3,.int .i64 e1,.str s8,c9,f,f7,.bool c3,.bool x,c6,.int .i64 k,.bool a1,.bool d8,.str s9,.int .i64 d4,.int .i64 u,.int .i64 l,.int .i64 f2,.int .i64 a2,.str a9,a5,e6,f6])] [.one (.int .i64),.one (.int .i64)] c5 (fun (e3 e9:Int) q=>CallT PR AJ [(.list 1 .full 1 [.str JT])] [.agg [.bool,.bool,.tv,.int .i64,.bool,.bool,.str,.int .i64,.int .i64,.int .i64,.int .i64,.int .i64,.str,.tv,.tv,.tv]] q (fun (g f3:Bool) (z:TV) (f8:Int) (a8 s:Bool) (m:B8) (c8 c7 e7 w c0:Int) (f4:B8) (d6 d0 d1:TV) a3=>CallT PR A4 [(.list 16 .full 2 [.bool g,.bool f3,z,.int .i64 f8,.bool a8,.bool s,.str m,.int .i64 c8,.int .i64 c7,.int .i64 e7,.int .i64 w,.int .i64 c0,.str f4,d6,d0,d1,.bool true,.bool true,(.list 1 .full 1 [.str JT]),.int .i64 0,.bool false,.bool false,(.str []),.int .i64 0,.int .i64 0,.int .i64 0,.int .i64 0,.int .i64 0,(.str []),.nilSlice,.nilSlice,.nilSlice])] [.one (.int .i64),.one (.int .i64)] a3 (fun (y a4:Int) b=>BId (p=0) (need (isSl a) (BId ((lenS a:Int)=(2:Int)) (((0<=(1:Int)/\(1:Int)<(lenZ 14 a:Int))/\need (isPtr (ixT 14 a (Int.toNat (1:Int)))) (Al (Ac b [] (.t (AE (ixT 14 a (Int.toNat (1:Int))) 0)) 0) (fun (x1:TV)=>A1 .str x1 (fun (c4:B8)=>BId (c4=str2) (((0<=(1:Int)/\(1:Int)<(lenZ 14 a:Int))/\need (isPtr (ixT 14 a (Int.toNat (1:Int)))) (need (isPtr (AE (ixT 14 a (Int.toNat (1:Int))) 1)) (Al (Ac b [] (.t (AE (AE (ixT 14 a (Int.toNat (1:Int))) 1) 12)) 0) (fun (d:TV)=>need (isSl d) (BId ((lenS d:Int)=(1:Int)) (((0<=(1:Int)/\(1:Int)<(lenZ 14 a:Int))/\need (isPtr (ixT 14 a (Int.toNat (1:Int)))) (need (isPtr (AE (ixT 14 a (Int.toNat (1:Int))) 1)) (Al (Ac b [] (.t (AE (AE (ixT 14 a (Int.toNat (1:Int))) 1) 12)) 0) (fun (c:TV)=>((0<=(0:Int)/\(0:Int)<(lenZ 14 c:Int))/\need (isPtr (ixT 14 c (Int.toNat (0:Int)))) (need (isPtr (AE (ixT 14 c (Int.toNat (0:Int))) 1)) (Al (Ac b [] (.t (AE (AE (ixT 14 c (Int.toNat (0:Int))) 1) 12)) 0) (fun (e:TV)=>need (isSl e) (BId ((lenS e:Int)=(1:Int)) (BId (e3=1) (BId (e9=8) (BId (y=1) (K ((decide (a4=6))) b) (K false b)) (K false b)) (K false b)) (K false b))))))))))) (K false b))))))) (K false b)))))) (K false b))) (K false b))))))))))):CallT PR AR [] [.one .bool] st K:=
 Aj (cfg:=⟨[1],[],[]⟩) (h:= .none) mixed (fun _ _=>Tryd.call6 _ _) Tryd.func6 (by kernel_rfl) (by kernel_rfl) h
theorem Hp (l:TV) (st:St) (K:Int->Int->St->Prop) (h:CallT PR CA [l] [.one .tv,.one (.int .i64),.one (.int .i64)] st (fun (v1:TV) (n1 n2:Int) a=>K n1 n2 a)):CallT PR A4 [l] [.one (.int .i64),.one (.int .i64)] st K:=
 Aj (cfg:=⟨[],[],[]⟩) (h:= .none) mixed (fun _ _=>Tryd.call7 _ _) Tryd.func7 (by kernel_rfl) (by kernel_rfl) h
theorem Fu (v_0:Int) (v_1:Bool) (v_2:Bool) (v_3:B8) (v_4:Int) (v_5:Int) (v_6:Int) (v_7:Int) (v_8:Int) (v_9:B8) (v_10:TV) (v_11:TV) (v_12:TV) (st:St) (K:Bool->St->Prop) (h:CallT PR AU [(.agg (cV v_0 v_1 v_2 v_3 v_4 v_5 v_6 v_7 v_8 v_9 v_10 v_11 v_12)),.int .i64 60,.int .i64 150,.int .i64 3000] [.one (.int .i64)] st (fun (n1:Int) a=>BId ((0:Int)<=n1) (CallT PR AY [(.agg (cV v_0 v_1 v_2 v_3 v_4 v_5 v_6 v_7 v_8 v_9 v_10 v_11 v_12))] [.one (.int .i64)] a (fun (n2:Int) b=>K ((decide (n2<=20000))) b)) (K false a))):CallT PR BO [(.agg (cV v_0 v_1 v_2 v_3 v_4 v_5 v_6 v_7 v_8 v_9 v_10 v_11 v_12))] [.one .bool] st K:=
 Aj (cfg:=⟨[1],[],[]⟩) (h:= .none) mixed (fun _ _=>Tryd.call8 _ _) Tryd.func8 (by kernel_rfl) (by kernel_rfl) h
theorem IC (v_0:Int) (v_1:Bool) (v_2:Bool) (v_3:B8) (v_4:Int) (v_5:Int) (v_6:Int) (v_7:Int) (v_8:Int) (v_9:B8) (v_10:TV) (v_11:TV) (v_12:TV) (st:St) (K:Int->St->Prop) (h:stB (st.push (.cells [.int .i64 0]) (some 3)) (.box st.nb 0) [.int .i64 0] (fun a=>CallT PR BZ [(.agg (cV v_0 v_1 v_2 v_3 v_4 v_5 v_6 v_7 v_8 v_9 v_10 v_11 v_12)),.int .i64 1,(.box st.nb 0)] [.one (.int .i64)] a (fun (n1:Int) b=>K n1 b))):CallT PR Ay [(.agg (cV v_0 v_1 v_2 v_3 v_4 v_5 v_6 v_7 v_8 v_9 v_10 v_11 v_12))] [.one (.int .i64)] st K:=
 Aj (cfg:=⟨[1],[],[]⟩) (h:= .none) mixed (fun _ _=>Tryd.call10 _ _) Tryd.func10 (by kernel_rfl) (by kernel_rfl) h
theorem Hq (l:TV) (st:St) (K:V13 (Int->Int->St->Prop)) (h:CallT PR CA [l] [.one .tv,.one (.int .i64),.one (.int .i64)] st (fun (v1:TV) (n1 n2:Int) a=>BId (n2≠0) (K 0 false false [] 0 0 0 0 0 [] .nilSlice .nilSlice .nilSlice n1 n2 a) (need (isPtr v1) (need (isPtr v1) (Al (Ac a [] (.t (AE v1 0)) 0) (fun (v2:TV)=>CallT PR Ah [v1,v2] [sV] a (fun (n3:Int) (b1 b2:Bool) (s1:B8) (n4 n5 n6 n7 n8:Int) (s2:B8) (v3 v4 v5:TV) i=>CallT PR CZ [(.agg (cV n3 b1 b2 s1 n4 n5 n6 n7 n8 s2 v3 v4 v5))] [sV] i (fun (n9:Int) (b3 b4:Bool) (s3:B8) (c f e d b:Int) (s4:B8) (v6 v7 v8:TV) g=>need (List.all (cV n9 b3 b4 s3 c f e d b s4 v6 v7 v8) Aq) (K n9 b3 b4 s3 c f e d b s4 v6 v7 v8 0 0 g))))))))):CallT PR CR [l] [sV,.one (.int .i64),.one (.int .i64)] st K:=
 Aj (cfg:=⟨[2],[],[]⟩) (h:= .none) mixed (fun _ _=>Tryd.call11 _ _) Tryd.func11 (by kernel_rfl) (by kernel_rfl) h
theorem Fx (keys:TV) (st:St) (K:Bool->Bool->TV->V13 (St->Prop)) (h:CallT PR CB [] [sV] st (fun (n1:Int) (b1 b2:Bool) (s1:B8) (n2 n3 n4 n5 n6:Int) (s2:B8) (v1 v2 v3:TV) a=>need (List.all [keys] Aq) (need (List.all [.bool false,.bool false,keys,.int .i64 n1,.bool b1,.bool b2,.str s1,.int .i64 n2,.int .i64 n3,.int .i64 n4,.int .i64 n5,.int .i64 n6,.str s2,v1,v2,v3] Aq) (K false false keys n1 b1 b2 s1 n2 n3 n4 n5 n6 s2 v1 v2 v3 a)))):CallT PR AJ [keys] [.agg [.bool,.bool,.tv,.int .i64,.bool,.bool,.str,.int .i64,.int .i64,.int .i64,.int .i64,.int .i64,.str,.tv,.tv,.tv]] st K:=
 Aj (cfg:=⟨[2],[],[]⟩) (h:= .none) mixed (fun _ _=>Tryd.call13 _ _) Tryd.func13 (by kernel_rfl) (by kernel_rfl) h
theorem IE (l:TV) (st:St) (K:TV->Int->Int->St->Prop) (h:CallT PR BN [] [.one .tv] st (fun (v1:TV) g=>need (isSl l) (∃(I1:Int->TV->TV->Int->St->Prop) (M1:Int->TV->TV->Int->St->Nat),(I1 0 v1 l ((lenS l:Int)) g)/\∀a b c d e,I1 a b c d e->(BId (a<d) (((0<=a/\a<(lenZ 16 c:Int))/\Al ((Am e [] (.t (ixT 16 c a.toNat)) 0 16).map TV.agg) (fun (x1:TV)=>Dz [.bool,.bool,.tv,.int .i64,.bool,.bool,.str,.int .i64,.int .i64,.int .i64,.int .i64,.int .i64,.str,.tv,.tv,.tv] x1 (fun (b1 b2:Bool) (v2:TV) (n1:Int) (b3 b4:Bool) (s1:B8) (n2 n3 n4 n5 n6:Int) (s2:B8) (v3 v4 v5:TV)=>need (List.all [.bool b1,.bool b2,v2,.int .i64 n1,.bool b3,.bool b4,.str s1,.int .i64 n2,.int .i64 n3,.int .i64 n4,.int .i64 n5,.int .i64 n6,.str s2,v3,v4,v5] Aq) (CallT PR Bk [b,(.agg [.bool b1,.bool b2,v2,.int .i64 n1,.bool b3,.bool b4,.str s1,.int .i64 n2,.int .i64 n3,.int .i64 n4,.int .i64 n5,.int .i64 n6,.str s2,v3,v4,v5]),.int .i64 a] [.one (.int .i64)] e (fun (n7:Int) f=>BId (n7≠0) (K .nilPtr a n7 f) ((I1 ((i64.wrap (a+(1:Int)))) b c d f/\M1 ((i64.wrap (a+(1:Int)))) b c d f<M1 a b c d e)))))))) (K b 0 0 e))))):CallT PR CA [l] [.one .tv,.one (.int .i64),.one (.int .i64)] st K:=
 Aj (cfg:=⟨[7],[],[]⟩) (h:=(.seq .none (.seq .none (.seq (.seq .none (.block (.loop ⟨[(12,.int .i64),(5,.tv),(10,.tv),(11,.int .i64)],[],[],[]⟩ .none))) .none)))) mixed (fun _ _=>Tryd.call14 _ _) Tryd.func14 (by kernel_rfl) (by kernel_rfl) h
theorem FC (v_0:Int) (v_1:Bool) (v_2:Bool) (v_3:B8) (v_4:Int) (v_5:Int) (v_6:Int) (v_7:Int) (v_8:Int) (v_9:B8) (v_10:TV) (v_11:TV) (v_12:TV) (depth:Int) (n:Int) (bytes:Int) (st:St) (K:Int->St->Prop) (h:BId (depth<1) (K (-1) st) (BId (n<1) (K (-1) st) (BId (bytes<(v_9.length:Int)) (K (-1) st) (need (isSl v_10) (BId (bytes<(lenS v_10:Int)) (K (-1) st) (BId (bytes<(v_3.length:Int)) (K (-1) st) (need (isSl v_11) (BId (n<(lenS v_11:Int)) (K (-1) st) (need (isSl v_12) (BId (n<(lenS v_12:Int)) (K (-1) st) (∃(I1:Int->Int->Int->Int->V13 (St->Prop)) (M1:Int->Int->Int->Int->V13 (St->Nat)),(I1 ((i64.wrap (n-(1:Int)))) 0 depth bytes v_0 v_1 v_2 v_3 v_4 v_5 v_6 v_7 v_8 v_9 v_10 v_11 v_12 st)/\∀p k b a n1 b1 b2 s1 n2 n3 n4 n5 n6 s2 v1 v2 v3 o,I1 p k b a n1 b1 b2 s1 n2 n3 n4 n5 n6 s2 v1 v2 v3 o->(need (isSl v2) (BId (k<(lenS v2:Int)) (BId ((0:Int)<=p) (((0<=k/\k<(lenZ 13 v2:Int))/\Al ((Am o [] (.t (ixT 13 v2 k.toNat)) 0 13).map TV.agg) (fun (x1:TV)=>Dz [.int .i64,.bool,.bool,.str,.int .i64,.int .i64,.int .i64,.int .i64,.int .i64,.str,.tv,.tv,.tv] x1 (fun (n7:Int) (b3 b4:Bool) (s3:B8) (n8 n9 c5 e9 d4:Int) (s4:B8) (v4 v5 v6:TV)=>CallT PR AU [(.agg (cV n7 b3 b4 s3 n8 n9 c5 e9 d4 s4 v4 v5 v6)),(.int .i64 (i64.wrap (b-(1:Int)))),.int .i64 p,.int .i64 a] [.one (.int .i64)] o (fun (c1:Int) c3=>(I1 c1 ((i64.wrap (k+(1:Int)))) b a n1 b1 b2 s1 n2 n3 n4 n5 n6 s2 v1 v2 v3 c3/\M1 c1 ((i64.wrap (k+(1:Int)))) b a n1 b1 b2 s1 n2 n3 n4 n5 n6 s2 v1 v2 v3 c3<M1 p k b a n1 b1 b2 s1 n2 n3 n4 n5 n6 s2 v1 v2 v3 o)))))) (∃(I2:Int->Int->Int->Int->V13 (St->Prop)) (M2:Int->Int->Int->Int->V13 (St->Nat)),(I2 p 0 b a n1 b1 b2 s1 n2 n3 n4 n5 n6 s2 v1 v2 v3 o)/\∀q i g c a8 b5 b6 s5 a1 a7 a0 a5 y s6 v7 v8 v9 m,I2 q i g c a8 b5 b6 s5 a1 a7 a0 a5 y s6 v7 v8 v9 m->(need (isSl v9) (BId (i<(lenS v9:Int)) (BId ((0:Int)<=q) (((0<=i/\i<(lenZ 14 v9:Int))/\need (isPtr (ixT 14 v9 i.toNat)) (Al (Ac m [] (.t (AE (ixT 14 v9 i.toNat) 0)) 0) (fun (x2:TV)=>A1 .str x2 (fun (s7:B8)=>BId (c<(s7.length:Int)) (K (-1) m) (((0<=i/\i<(lenZ 14 v9:Int))/\need (isPtr (ixT 14 v9 i.toNat)) (Al ((Am m [] (.t (AE (ixT 14 v9 i.toNat) 1)) 0 13).map TV.agg) (fun (x3:TV)=>Dz [.int .i64,.bool,.bool,.str,.int .i64,.int .i64,.int .i64,.int .i64,.int .i64,.str,.tv,.tv,.tv] x3 (fun (c9:Int) (b7 b8:Bool) (s8:B8) (e0 f0 d9 c7 d8:Int) (s9:B8) (c8 c6 e6:TV)=>CallT PR AU [(.agg (cV c9 b7 b8 s8 e0 f0 d9 c7 d8 s9 c8 c6 e6)),(.int .i64 (i64.wrap (g-(1:Int)))),.int .i64 q,.int .i64 c] [.one (.int .i64)] m (fun (c2:Int) c4=>(I2 c2 ((i64.wrap (i+(1:Int)))) g c a8 b5 b6 s5 a1 a7 a0 a5 y s6 v7 v8 v9 c4/\M2 c2 ((i64.wrap (i+(1:Int)))) g c a8 b5 b6 s5 a1 a7 a0 a5 y s6 v7 v8 v9 c4<M2 q i g c a8 b5 b6 s5 a1 a7 a0 a5 y s6 v7 v8 v9 m)))))))))))) (K q m)) (K q m))))) (∃(I3:Int->Int->Int->Int->V13 (St->Prop)) (M3:Int->Int->Int->Int->V13 (St->Nat)),(I3 p 0 b a n1 b1 b2 s1 n2 n3 n4 n5 n6 s2 v1 v2 v3 o)/\∀r f e d v b9 u a3 a6 z w a9 a2 x a4 s j l,I3 r f e d v b9 u a3 a6 z w a9 a2 x a4 s j l->(need (isSl j) (BId (f<(lenS j:Int)) (BId ((0:Int)<=r) (((0<=f/\f<(lenZ 14 j:Int))/\need (isPtr (ixT 14 j f.toNat)) (Al (Ac l [] (.t (AE (ixT 14 j f.toNat) 0)) 0) (fun (x4:TV)=>A1 .str x4 (fun (e7:B8)=>BId (d<(e7.length:Int)) (K (-1) l) (((0<=f/\f<(lenZ 14 j:Int))/\need (isPtr (ixT 14 j f.toNat)) (Al ((Am l [] (.t (AE (ixT 14 j f.toNat) 1)) 0 13).map TV.agg) (fun (x5:TV)=>Dz [.int .i64,.bool,.bool,.str,.int .i64,.int .i64,.int .i64,.int .i64,.int .i64,.str,.tv,.tv,.tv] x5 (fun (e1:Int) (e3 d0:Bool) (d5:B8) (e4 e8 d7 d3 e2:Int) (d1:B8) (d6 d2 e5:TV)=>CallT PR AU [(.agg (cV e1 e3 d0 d5 e4 e8 d7 d3 e2 d1 d6 d2 e5)),(.int .i64 (i64.wrap (e-(1:Int)))),.int .i64 r,.int .i64 d] [.one (.int .i64)] l (fun (b0:Int) c0=>(I3 b0 ((i64.wrap (f+(1:Int)))) e d v b9 u a3 a6 z w a9 a2 x a4 s j c0/\M3 b0 ((i64.wrap (f+(1:Int)))) e d v b9 u a3 a6 z w a9 a2 x a4 s j c0<M3 r f e d v b9 u a3 a6 z w a9 a2 x a4 s j l)))))))))))) (K r l)) (K r l))))))))))))))))):CallT PR AU [(.agg (cV v_0 v_1 v_2 v_3 v_4 v_5 v_6 v_7 v_8 v_9 v_10 v_11 v_12)),.int .i64 depth,.int .i64 n,.int .i64 bytes] [.one (.int .i64)] st K:=
 Aj (cfg:=⟨[4],[],[]⟩) (h:=(.seq .none (.seq .none (.seq .none (.seq (.seq .none (.block (.loop ⟨[(2,.int .i64),(9,.int .i64),(1,.int .i64),(3,.int .i64)],[(4,0,0)],[(0,13)],[(0,0,.int .i64),(0,1,.bool),(0,2,.bool),(0,3,.str),(0,4,.int .i64),(0,5,.int .i64),(0,6,.int .i64),(0,7,.int .i64),(0,8,.int .i64),(0,9,.str),(0,10,.tv),(0,11,.tv),(0,12,.tv)]⟩ .none))) (.seq (.seq .none (.block (.loop ⟨[(2,.int .i64),(10,.int .i64),(1,.int .i64),(3,.int .i64)],[(4,0,0)],[(0,13)],[(0,0,.int .i64),(0,1,.bool),(0,2,.bool),(0,3,.str),(0,4,.int .i64),(0,5,.int .i64),(0,6,.int .i64),(0,7,.int .i64),(0,8,.int .i64),(0,9,.str),(0,10,.tv),(0,11,.tv),(0,12,.tv)]⟩ .none))) .none)))))) mixed (fun _ _=>Tryd.call15 _ _) Tryd.func15 (by kernel_rfl) (by kernel_rfl) h
theorem EW (v_0:Int) (v_1:Bool) (v_2:Bool) (v_3:B8) (v_4:Int) (v_5:Int) (v_6:Int) (v_7:Int) (v_8:Int) (v_9:B8) (v_10:TV) (v_11:TV) (v_12:TV) (st:St) (K:Int->St->Prop) (h:need (isSl v_10) (∃(I1:Int->Int->V13 (St->Prop)) (M1:Int->Int->V13 (St->Nat)),(I1 ((i64.wrap ((i64.wrap ((v_9.length:Int)+(lenS v_10:Int)))+(v_3.length:Int)))) 0 v_0 v_1 v_2 v_3 v_4 v_5 v_6 v_7 v_8 v_9 v_10 v_11 v_12 st)/\∀e b n1 b1 b2 s1 n2 n3 n4 n5 n6 s2 v1 v2 v3 d,I1 e b n1 b1 b2 s1 n2 n3 n4 n5 n6 s2 v1 v2 v3 d->(need (isSl v2) (BId (b<(lenS v2:Int)) (((0<=b/\b<(lenZ 13 v2:Int))/\Al ((Am d [] (.t (ixT 13 v2 b.toNat)) 0 13).map TV.agg) (fun (x1:TV)=>Dz [.int .i64,.bool,.bool,.str,.int .i64,.int .i64,.int .i64,.int .i64,.int .i64,.str,.tv,.tv,.tv] x1 (fun (n7:Int) (b3 b4:Bool) (s3:B8) (n8 n9 r a2 x:Int) (s4:B8) (v4 v5 v6:TV)=>CallT PR AY [(.agg (cV n7 b3 b4 s3 n8 n9 r a2 x s4 v4 v5 v6))] [.one (.int .i64)] d (fun (o:Int) q=>(I1 ((i64.wrap (e+o))) ((i64.wrap (b+(1:Int)))) n1 b1 b2 s1 n2 n3 n4 n5 n6 s2 v1 v2 v3 q/\M1 ((i64.wrap (e+o))) ((i64.wrap (b+(1:Int)))) n1 b1 b2 s1 n2 n3 n4 n5 n6 s2 v1 v2 v3 q<M1 e b n1 b1 b2 s1 n2 n3 n4 n5 n6 s2 v1 v2 v3 d)))))) (∃(I2:Int->Int->V13 (St->Prop)) (M2:Int->Int->V13 (St->Nat)),(I2 e 0 n1 b1 b2 s1 n2 n3 n4 n5 n6 s2 v1 v2 v3 d)/\∀f a m b5 b6 s5 j l i k g s6 v7 v8 v9 c,I2 f a m b5 b6 s5 j l i k g s6 v7 v8 v9 c->(need (isSl v9) (BId (a<(lenS v9:Int)) (((0<=a/\a<(lenZ 14 v9:Int))/\need (isPtr (ixT 14 v9 a.toNat)) (Al (Ac c [] (.t (AE (ixT 14 v9 a.toNat) 0)) 0) (fun (x2:TV)=>A1 .str x2 (fun (s7:B8)=>((0<=a/\a<(lenZ 14 v9:Int))/\need (isPtr (ixT 14 v9 a.toNat)) (Al ((Am c [] (.t (AE (ixT 14 v9 a.toNat) 1)) 0 13).map TV.agg) (fun (x3:TV)=>Dz [.int .i64,.bool,.bool,.str,.int .i64,.int .i64,.int .i64,.int .i64,.int .i64,.str,.tv,.tv,.tv] x3 (fun (w:Int) (b7 b8:Bool) (s8:B8) (a0 a3 z u y:Int) (s9:B8) (v s a1:TV)=>CallT PR AY [(.agg (cV w b7 b8 s8 a0 a3 z u y s9 v s a1))] [.one (.int .i64)] c (fun (p:Int) n=>(Ac n [] (.t (AE (ixT 14 v9 a.toNat) 0)) 0=some (.str s7)/\(I2 ((i64.wrap ((i64.wrap (f+(s7.length:Int)))+p))) ((i64.wrap (a+(1:Int)))) m b5 b6 s5 j l i k g s6 v7 v8 v9 n/\M2 ((i64.wrap ((i64.wrap (f+(s7.length:Int)))+p))) ((i64.wrap (a+(1:Int)))) m b5 b6 s5 j l i k g s6 v7 v8 v9 n<M2 f a m b5 b6 s5 j l i k g s6 v7 v8 v9 c)))))))))))) (K f c)))))))):CallT PR AY [(.agg (cV v_0 v_1 v_2 v_3 v_4 v_5 v_6 v_7 v_8 v_9 v_10 v_11 v_12))] [.one (.int .i64)] st K:=
 Aj (cfg:=⟨[1],[],[46,54]⟩) (h:=(.seq .none (.seq .none (.seq (.seq .none (.block (.loop ⟨[(3,.int .i64),(4,.int .i64)],[(1,0,0)],[(0,13)],[(0,0,.int .i64),(0,1,.bool),(0,2,.bool),(0,3,.str),(0,4,.int .i64),(0,5,.int .i64),(0,6,.int .i64),(0,7,.int .i64),(0,8,.int .i64),(0,9,.str),(0,10,.tv),(0,11,.tv),(0,12,.tv)]⟩ .none))) (.seq (.seq .none (.block (.loop ⟨[(3,.int .i64),(5,.int .i64)],[(1,0,0)],[(0,13)],[(0,0,.int .i64),(0,1,.bool),(0,2,.bool),(0,3,.str),(0,4,.int .i64),(0,5,.int .i64),(0,6,.int .i64),(0,7,.int .i64),(0,8,.int .i64),(0,9,.str),(0,10,.tv),(0,11,.tv),(0,12,.tv)]⟩ .none))) .none))))) mixed (fun _ _=>Tryd.call16 _ _) Tryd.func16 (by kernel_rfl) (by kernel_rfl) h
theorem IA (v_0:Int) (d:Bool) (e:Bool) (v_3:B8) (v_4:Int) (v_5:Int) (v_6:Int) (v_7:Int) (v_8:Int) (v_9:B8) (v_10:TV) (v_11:TV) (v_12:TV) (depth:Int) (n:Nat) (st:St) (K:Int->St->Prop) (h:Al (Ac st [] (.t (.box n 0)) 0) (fun (x1:TV)=>A1 (.int .i64) x1 (fun (n1:Int)=>stB st (.box n 0) [(.int .i64 (i64.wrap (n1+(1:Int))))] (fun r=>∃(C1:Int->TV->V13 (St->Prop)),(BId ((48:Int)<depth) (K 9 r) (Al (Ac r [] (.t (.box n 0)) 0) (fun (x2:TV)=>A1 (.int .i64) x2 (fun (n2:Int)=>BId ((65536:Int)<n2) (K 10 r) (∃(C2:Bool->Int->TV->V13 (St->Prop)),(BId (v_0<0) (C2 true depth ((.box n 0)) v_0 d e v_3 v_4 v_5 v_6 v_7 v_8 v_9 v_10 v_11 v_12 r) (BId ((8:Int)<=v_0) (C2 true depth ((.box n 0)) v_0 d e v_3 v_4 v_5 v_6 v_7 v_8 v_9 v_10 v_11 v_12 r) (CallT PR DR [(.agg (cV v_0 d e v_3 v_4 v_5 v_6 v_7 v_8 v_9 v_10 v_11 v_12))] [.one .bool] r (fun (b1:Bool) g9=>C2 b1 depth ((.box n 0)) v_0 d e v_3 v_4 v_5 v_6 v_7 v_8 v_9 v_10 v_11 v_12 g9))))/\∀f0 a q n3 b2 b3 s1 n4 n5 n6 n7 n8 s2 v1 v2 v3 s,C2 f0 a q n3 b2 b3 s1 n4 n5 n6 n7 n8 s2 v1 v2 v3 s->(BIf f0 (K 6 s) (∃(C3:Bool->Int->TV->V13 (St->Prop)),(BId (n3=2) (CallT PR CS [(.agg [.bool b3,.str s1,.int .i64 n4])] [.one .bool] s (fun (b4:Bool) c2=>BIf (!b4) (C3 true a q n3 b2 b3 s1 n4 n5 n6 n7 n8 s2 v1 v2 v3 c2) (BId (n3=3) (CallT PR Cn [(.agg [.int .i64 n5,.int .i64 n6,.int .i64 n7,.int .i64 n8])] [.one .bool] c2 (fun (b5:Bool) g8=>C3 ((!b5)) a q n3 b2 b3 s1 n4 n5 n6 n7 n8 s2 v1 v2 v3 g8)) (C3 false a q n3 b2 b3 s1 n4 n5 n6 n7 n8 s2 v1 v2 v3 c2)))) (BId (n3=3) (CallT PR Cn [(.agg [.int .i64 n5,.int .i64 n6,.int .i64 n7,.int .i64 n8])] [.one .bool] s (fun (b6:Bool) h0=>C3 ((!b6)) a q n3 b2 b3 s1 n4 n5 n6 n7 n8 s2 v1 v2 v3 h0)) (C3 false a q n3 b2 b3 s1 n4 n5 n6 n7 n8 s2 v1 v2 v3 s)))/\∀d0 f c3 n9 b7 b8 s3 c5 c6 b0 c1 c0 s4 v4 v5 v6 o,C3 d0 f c3 n9 b7 b8 s3 c5 c6 b0 c1 c0 s4 v4 v5 v6 o->(BIf d0 (K 2 o) (BId (n9=4) (CallT PR Dx [.str s4] [.one .bool] o (fun (b9:Bool) a4=>BIf (!b9) (K 5 a4) (BId ((65536:Int)<(s4.length:Int)) (K 10 a4) (need (isSl v4) (BId ((65536:Int)<(lenS v4:Int)) (K 10 a4) (C1 f c3 n9 b7 b8 s3 c5 c6 b0 c1 c0 s4 v4 v5 v6 a4)))))) (BId ((65536:Int)<(s4.length:Int)) (K 10 o) (need (isSl v4) (BId ((65536:Int)<(lenS v4:Int)) (K 10 o) (C1 f c3 n9 b7 b8 s3 c5 c6 b0 c1 c0 s4 v4 v5 v6 o)))))))))))))/\∀m d5 e9 c7 e4 s5 g2 e8 f3 f5 c9 s6 v7 v8 v9 e7,C1 m d5 e9 c7 e4 s5 g2 e8 f3 f5 c9 s6 v7 v8 v9 e7->(CallT PR Ep [v9] [.one (.int .i64)] e7 (fun (f4:Int) c4=>BId (f4≠0) (K f4 c4) (need (isSl v8) (∃(I1:Int->Int->TV->TV->Int->V13 (St->Prop)) (M1:Int->Int->TV->TV->Int->V13 (St->Nat)),(I1 0 m d5 v8 ((lenS v8:Int)) e9 c7 e4 s5 g2 e8 f3 f5 c9 s6 v7 v8 v9 c4)/\∀i b p d w a0 a3 a5 s7 a8 a6 z a9 a1 s8 a7 a2 k l,I1 i b p d w a0 a3 a5 s7 a8 a6 z a9 a1 s8 a7 a2 k l->(BId (i<w) (((0<=i/\i<(lenZ 13 d:Int))/\Al ((Am l [] (.t (ixT 13 d i.toNat)) 0 13).map TV.agg) (fun (x3:TV)=>Dz [.int .i64,.bool,.bool,.str,.int .i64,.int .i64,.int .i64,.int .i64,.int .i64,.str,.tv,.tv,.tv] x3 (fun (e1:Int) (d9 e0:Bool) (s9:B8) (f6 c8 g4 d7 e2:Int) (d2:B8) (g1 e6 e5:TV)=>need (List.all (cV e1 d9 e0 s9 f6 c8 g4 d7 e2 d2 g1 e6 e5) Aq) (CallT PR BZ [(.agg (cV e1 d9 e0 s9 f6 c8 g4 d7 e2 d2 g1 e6 e5)),(.int .i64 (i64.wrap (b+(1:Int)))),p] [.one (.int .i64)] l (fun (e3:Int) y=>BId (e3≠0) (K e3 y) ((I1 ((i64.wrap (i+(1:Int)))) b p d w a0 a3 a5 s7 a8 a6 z a9 a1 s8 a7 a2 k y/\M1 ((i64.wrap (i+(1:Int)))) b p d w a0 a3 a5 s7 a8 a6 z a9 a1 s8 a7 a2 k y<M1 i b p d w a0 a3 a5 s7 a8 a6 z a9 a1 s8 a7 a2 k l)))))))) (need (isSl k) (∃(I2:Int->Int->TV->TV->Int->St->Prop) (M2:Int->Int->TV->TV->Int->St->Nat),(I2 0 b p k ((lenS k:Int)) l)/\∀g c u e v j,I2 g c u e v j->(BId (g<v) (((0<=g/\g<(lenZ 14 e:Int))/\Al ((Am j [] (.t (ixT 14 e g.toNat)) 0 14).map TV.agg) (fun (x4:TV)=>Dz [.str,.int .i64,.bool,.bool,.str,.int .i64,.int .i64,.int .i64,.int .i64,.int .i64,.str,.tv,.tv,.tv] x4 (fun (g7:B8) (g6:Int) (f8 d6:Bool) (g5:B8) (f2 g0 d4 f7 d8:Int) (f1:B8) (d3 d1 g3:TV)=>need (List.all [.str g7,.int .i64 g6,.bool f8,.bool d6,.str g5,.int .i64 f2,.int .i64 g0,.int .i64 d4,.int .i64 f7,.int .i64 d8,.str f1,d3,d1,g3] Aq) (CallT PR BZ [(.agg (cV g6 f8 d6 g5 f2 g0 d4 f7 d8 f1 d3 d1 g3)),(.int .i64 (i64.wrap (c+(1:Int)))),u] [.one (.int .i64)] j (fun (f9:Int) x=>BId (f9≠0) (K f9 x) ((I2 ((i64.wrap (g+(1:Int)))) c u e v x/\M2 ((i64.wrap (g+(1:Int)))) c u e v x<M2 g c u e v j)))))))) (K 0 j))))))))))))):CallT PR BZ [(.agg (cV v_0 d e v_3 v_4 v_5 v_6 v_7 v_8 v_9 v_10 v_11 v_12)),.int .i64 depth,(.box n 0)] [.one (.int .i64)] st K:=
 Aj (cfg:=⟨[3,9,12],[],[]⟩) (h:=(.seq .none (.seq .none (.cut ⟨[(1,.int .i64),(2,.tv)],[(3,0,0)],[(0,13)],[(0,0,.int .i64),(0,1,.bool),(0,2,.bool),(0,3,.str),(0,4,.int .i64),(0,5,.int .i64),(0,6,.int .i64),(0,7,.int .i64),(0,8,.int .i64),(0,9,.str),(0,10,.tv),(0,11,.tv),(0,12,.tv)]⟩ (.block (.seq .none (.cond .none (.seq .none (.cond .none (.cut ⟨[(27,.bool),(1,.int .i64),(2,.tv)],[(3,0,0)],[(0,13)],[(0,0,.int .i64),(0,1,.bool),(0,2,.bool),(0,3,.str),(0,4,.int .i64),(0,5,.int .i64),(0,6,.int .i64),(0,7,.int .i64),(0,8,.int .i64),(0,9,.str),(0,10,.tv),(0,11,.tv),(0,12,.tv)]⟩ .none (.cond .none (.cut ⟨[(40,.bool),(1,.int .i64),(2,.tv)],[(3,0,0)],[(0,13)],[(0,0,.int .i64),(0,1,.bool),(0,2,.bool),(0,3,.str),(0,4,.int .i64),(0,5,.int .i64),(0,6,.int .i64),(0,7,.int .i64),(0,8,.int .i64),(0,9,.str),(0,10,.tv),(0,11,.tv),(0,12,.tv)]⟩ .none .none)))))))) (.seq .none (.seq (.seq .none (.block (.loop ⟨[(91,.int .i64),(1,.int .i64),(2,.tv),(89,.tv),(90,.int .i64)],[(3,0,0)],[(0,13)],[(0,0,.int .i64),(0,1,.bool),(0,2,.bool),(0,3,.str),(0,4,.int .i64),(0,5,.int .i64),(0,6,.int .i64),(0,7,.int .i64),(0,8,.int .i64),(0,9,.str),(0,10,.tv),(0,11,.tv),(0,12,.tv)]⟩ .none))) (.seq (.seq .none (.block (.loop ⟨[(107,.int .i64),(1,.int .i64),(2,.tv),(105,.tv),(106,.int .i64)],[],[],[]⟩ .none))) .none))))))) mixed (fun _ _=>Tryd.call18 _ _) Tryd.func18 (by kernel_rfl) (by kernel_rfl) h
theorem JO (v_0:Int) (v_1:Bool) (v_2:Bool) (v_3:B8) (v_4:Int) (v_5:Int) (v_6:Int) (v_7:Int) (v_8:Int) (v_9:B8) (v_10:TV) (v_11:TV) (v_12:TV) (st:St) (K:V13 (St->Prop)) (h:CallT PR BF [(.agg (cV v_0 v_1 v_2 v_3 v_4 v_5 v_6 v_7 v_8 v_9 v_10 v_11 v_12)),.int .i64 65536] [sV] st (fun (n1:Int) (b1 b2:Bool) (s1:B8) (n2 n3 n4 n5 n6:Int) (s2:B8) (v1 v2 v3:TV) a=>need (List.all (cV n1 b1 b2 s1 n2 n3 n4 n5 n6 s2 v1 v2 v3) Aq) (K n1 b1 b2 s1 n2 n3 n4 n5 n6 s2 v1 v2 v3 a))):CallT PR CZ [(.agg (cV v_0 v_1 v_2 v_3 v_4 v_5 v_6 v_7 v_8 v_9 v_10 v_11 v_12))] [sV] st K:=
 Aj (cfg:=⟨[1,2],[],[]⟩) (h:= .none) mixed (fun _ _=>Tryd.call19 _ _) Tryd.func19 (by kernel_rfl) (by kernel_rfl) h
theorem Eg (b:Nat) (t:Nat) (st:St) (K:V13 (St->Prop)) (h:Al (Ac st [] (.t (.box t 0)) 0) (fun (v1:TV)=>need (isSl v1) (∃(I1:Int->TV->TV->TV->Int->V13 (V13 (St->Prop))) (M1:Int->TV->TV->TV->Int->V13 (V13 (St->Nat))),(I1 0 ((.box b 0)) ((.box t 0)) v1 ((lenS v1:Int)) 0 false false [] 0 0 0 0 0 [] .nilSlice .nilSlice .nilSlice 7 false false [] 0 0 0 0 0 [] .nilSlice .nilSlice .nilSlice st)/\∀c k d f j n1 b1 b2 s1 n2 n3 n4 n5 n6 s2 v2 v3 v4 n7 b3 b4 s3 n8 n9 g i e s4 v5 v6 v7 a,I1 c k d f j n1 b1 b2 s1 n2 n3 n4 n5 n6 s2 v2 v3 v4 n7 b3 b4 s3 n8 n9 g i e s4 v5 v6 v7 a->(BId (c<j) (((0<=c/\c<(lenZ 1 f:Int))/\Al (Ac a [] (.t (ixT 1 f c.toNat)) 0) (fun (x2:TV)=>A1 .str x2 (fun (s5:B8)=>need (isPtr d) (need (isPtr d) (Al (Ac a [] (.t (AE d 1)) 0) (fun (v8:TV)=>Al (Dn a v8) (fun (es1:List (B8×TV))=>need (isPtr (Ao .nilPtr (As s5 es1))) (need (isPtr (Ao .nilPtr (As s5 es1))) (Al ((Am a [] (.t (AE (Ao .nilPtr (As s5 es1)) 2)) 0 13).map TV.agg) (fun (x4:TV)=>Dz [.int .i64,.bool,.bool,.str,.int .i64,.int .i64,.int .i64,.int .i64,.int .i64,.str,.tv,.tv,.tv] x4 (fun (f0:Int) (b5 b6:Bool) (s6:B8) (e6 f5 g4 f4 f7:Int) (s7:B8) (v9 g1 e9:TV)=>need (List.all (cV f0 b5 b6 s6 e6 f5 g4 f4 f7 s7 v9 g1 e9) Aq) (need (isPtr (Ao .nilPtr (As s5 es1))) (need (isPtr (Ao .nilPtr (As s5 es1))) (Al (Ac a [] (.t (AE (Ao .nilPtr (As s5 es1)) 0)) 0) (fun (i3:TV)=>need (Em i3) (BIf (!Ce i3) (need (isPtr (Ao .nilPtr (As s5 es1))) (need (isPtr (Ao .nilPtr (As s5 es1))) (Al (Ac a [] (.t (AE (Ao .nilPtr (As s5 es1)) 0)) 0) (fun (i7:TV)=>CallT PR Ah [k,i7] [sV] a (fun (g2:Int) (b7 b8:Bool) (s8:B8) (e3 f8 e8 g3 g0:Int) (s9:B8) (f2 f1 e5:TV) i5=>need (List.all (cV g2 b7 b8 s8 e3 f8 e8 g3 g0 s9 f2 f1 e5) Aq) (need (List.all [.str s5,.int .i64 g2,.bool b7,.bool b8,.str s8,.int .i64 e3,.int .i64 f8,.int .i64 e8,.int .i64 g3,.int .i64 g0,.str s9,f2,f1,e5] Aq) (Cf 50 14 184 v7 1 [.str s5,.int .i64 g2,.bool b7,.bool b8,.str s8,.int .i64 e3,.int .i64 f8,.int .i64 e8,.int .i64 g3,.int .i64 g0,.str s9,f2,f1,e5] i5 (fun (e4:TV) g7=>need (List.all [e4] Aq) ((I1 ((i64.wrap (c+(1:Int)))) k d f j n1 b1 b2 s1 n2 n3 n4 n5 n6 s2 v2 v3 v4 n7 b3 b4 s3 n8 n9 g i e s4 v5 v6 e4 g7/\M1 ((i64.wrap (c+(1:Int)))) k d f j n1 b1 b2 s1 n2 n3 n4 n5 n6 s2 v2 v3 v4 n7 b3 b4 s3 n8 n9 g i e s4 v5 v6 e4 g7<M1 c k d f j n1 b1 b2 s1 n2 n3 n4 n5 n6 s2 v2 v3 v4 n7 b3 b4 s3 n8 n9 g i e s4 v5 v6 v7 a)))))))))) (need (isPtr (Ao .nilPtr (As s5 es1))) (need (isPtr (Ao .nilPtr (As s5 es1))) (Al (Ac a [] (.t (AE (Ao .nilPtr (As s5 es1)) 1)) 0) (fun (i2:TV)=>need (isSl i2) (BId ((0:Int)<(lenS i2:Int)) (need (isPtr (Ao .nilPtr (As s5 es1))) (need (isPtr (Ao .nilPtr (As s5 es1))) (Al (Ac a [] (.t (AE (Ao .nilPtr (As s5 es1)) 1)) 0) (fun (f9:TV)=>need (isSl f9) (∃(I2:Int->TV->TV->B8->TV->Int->Int->TV->Int->V13 (V13 (V13 (St->Prop)))) (M2:Int->TV->TV->B8->TV->Int->Int->TV->Int->V13 (V13 (V13 (St->Nat)))),(I2 0 k d s5 f j c f9 ((lenS f9:Int)) n1 b1 b2 s1 n2 n3 n4 n5 n6 s2 v2 v3 v4 n7 b3 b4 s3 n8 n9 g i e s4 v5 v6 v7 6 false false [] 0 0 0 0 0 [] .nilSlice .nilSlice .nilSlice a)/\∀l m c1 a0 a1 c0 a3 c6 e1 s b9 n r d5 y a6 c8 o p d1 u d4 d6 b0 z d7 a2 a8 a9 d8 c3 c2 c4 w d9 d3 c5 a5 c9 v c7 a4 d0 d2 a7 x e2 q e0,I2 l m c1 a0 a1 c0 a3 c6 e1 s b9 n r d5 y a6 c8 o p d1 u d4 d6 b0 z d7 a2 a8 a9 d8 c3 c2 c4 w d9 d3 c5 a5 c9 v c7 a4 d0 d2 a7 x e2 q e0->(BId (l<e1) (((0<=l/\l<(lenZ 1 c6:Int))/\Al (Ac e0 [] (.t (ixT 1 c6 l.toNat)) 0) (fun (i6:TV)=>CallT PR Ah [m,i6] [sV] e0 (fun (g8:Int) (h4 h8:Bool) (h0:B8) (h7 h6 i1 h5 h1:Int) (g9:B8) (h2 g6 h9:TV) i4=>need (List.all (cV g8 h4 h8 h0 h7 h6 i1 h5 h1 g9 h2 g6 h9) Aq) (Cf 37 13 168 e2 1 (cV g8 h4 h8 h0 h7 h6 i1 h5 h1 g9 h2 g6 h9) i4 (fun (f3:TV) i0=>need (List.all [f3] Aq) ((I2 ((i64.wrap (l+(1:Int)))) m c1 a0 a1 c0 a3 c6 e1 s b9 n r d5 y a6 c8 o p d1 u d4 d6 b0 z d7 a2 a8 a9 d8 c3 c2 c4 w d9 d3 c5 a5 c9 v c7 a4 d0 d2 a7 x f3 q i0/\M2 ((i64.wrap (l+(1:Int)))) m c1 a0 a1 c0 a3 c6 e1 s b9 n r d5 y a6 c8 o p d1 u d4 d6 b0 z d7 a2 a8 a9 d8 c3 c2 c4 w d9 d3 c5 a5 c9 v c7 a4 d0 d2 a7 x f3 q i0<M2 l m c1 a0 a1 c0 a3 c6 e1 s b9 n r d5 y a6 c8 o p d1 u d4 d6 b0 z d7 a2 a8 a9 d8 c3 c2 c4 w d9 d3 c5 a5 c9 v c7 a4 d0 d2 a7 x e2 q e0)))))))) (need (List.all [.str a0,.int .i64 d3,.bool c5,.bool a5,.str c9,.int .i64 v,.int .i64 c7,.int .i64 a4,.int .i64 d0,.int .i64 d2,.str a7,x,e2,q] Aq) (Cf 50 14 184 d9 1 [.str a0,.int .i64 d3,.bool c5,.bool a5,.str c9,.int .i64 v,.int .i64 c7,.int .i64 a4,.int .i64 d0,.int .i64 d2,.str a7,x,e2,q] e0 (fun (e7:TV) g5=>need (List.all [e7] Aq) ((I1 ((i64.wrap (a3+(1:Int)))) m c1 a1 c0 s b9 n r d5 y a6 c8 o p d1 u d4 d6 b0 z d7 a2 a8 a9 d8 c3 c2 c4 w e7 g5/\M1 ((i64.wrap (a3+(1:Int)))) m c1 a1 c0 s b9 n r d5 y a6 c8 o p d1 u d4 d6 b0 z d7 a2 a8 a9 d8 c3 c2 c4 w e7 g5<M1 c k d f j n1 b1 b2 s1 n2 n3 n4 n5 n6 s2 v2 v3 v4 n7 b3 b4 s3 n8 n9 g i e s4 v5 v6 v7 a))))))))))) (need (List.all [.str s5,.int .i64 f0,.bool b5,.bool b6,.str s6,.int .i64 e6,.int .i64 f5,.int .i64 g4,.int .i64 f4,.int .i64 f7,.str s7,v9,g1,e9] Aq) (Cf 50 14 184 v7 1 [.str s5,.int .i64 f0,.bool b5,.bool b6,.str s6,.int .i64 e6,.int .i64 f5,.int .i64 g4,.int .i64 f4,.int .i64 f7,.str s7,v9,g1,e9] a (fun (f6:TV) h3=>need (List.all [f6] Aq) ((I1 ((i64.wrap (c+(1:Int)))) k d f j n1 b1 b2 s1 n2 n3 n4 n5 n6 s2 v2 v3 v4 n7 b3 b4 s3 n8 n9 g i e s4 v5 v6 f6 h3/\M1 ((i64.wrap (c+(1:Int)))) k d f j n1 b1 b2 s1 n2 n3 n4 n5 n6 s2 v2 v3 v4 n7 b3 b4 s3 n8 n9 g i e s4 v5 v6 f6 h3<M1 c k d f j n1 b1 b2 s1 n2 n3 n4 n5 n6 s2 v2 v3 v4 n7 b3 b4 s3 n8 n9 g i e s4 v5 v6 v7 a))))))))))))))))))))))))))) (need (List.all (cV n7 b3 b4 s3 n8 n9 g i e s4 v5 v6 v7) Aq) (K n7 b3 b4 s3 n8 n9 g i e s4 v5 v6 v7 a)))))):CallT PR Ah [(.box b 0),(.box t 0)] [sV] st K:=
 Aj (cfg:=⟨[4,5,9],[],[]⟩) (h:=(.seq .none (.seq .none (.seq (.seq .none (.block (.loop ⟨[(18,.int .i64),(0,.tv),(1,.tv),(16,.tv),(17,.int .i64)],[(4,0,0),(5,1,0)],[(0,13),(1,13)],[(0,0,.int .i64),(0,1,.bool),(0,2,.bool),(0,3,.str),(0,4,.int .i64),(0,5,.int .i64),(0,6,.int .i64),(0,7,.int .i64),(0,8,.int .i64),(0,9,.str),(0,10,.tv),(0,11,.tv),(0,12,.tv),(1,0,.int .i64),(1,1,.bool),(1,2,.bool),(1,3,.str),(1,4,.int .i64),(1,5,.int .i64),(1,6,.int .i64),(1,7,.int .i64),(1,8,.int .i64),(1,9,.str),(1,10,.tv),(1,11,.tv),(1,12,.tv)]⟩ (.seq .none (.seq .none (.seq (.block (.seq .none (.seq .none (.seq .none (.seq (.seq .none (.cond .none (.seq .none (.cond (.seq .none (.seq .none (.block (.loop ⟨[(55,.int .i64),(0,.tv),(1,.tv),(7,.str),(16,.tv),(17,.int .i64),(18,.int .i64),(53,.tv),(54,.int .i64)],[(4,0,0),(5,1,0),(9,2,0)],[(0,13),(1,13),(2,13)],[(0,0,.int .i64),(0,1,.bool),(0,2,.bool),(0,3,.str),(0,4,.int .i64),(0,5,.int .i64),(0,6,.int .i64),(0,7,.int .i64),(0,8,.int .i64),(0,9,.str),(0,10,.tv),(0,11,.tv),(0,12,.tv),(1,0,.int .i64),(1,1,.bool),(1,2,.bool),(1,3,.str),(1,4,.int .i64),(1,5,.int .i64),(1,6,.int .i64),(1,7,.int .i64),(1,8,.int .i64),(1,9,.str),(1,10,.tv),(1,11,.tv),(1,12,.tv),(2,0,.int .i64),(2,1,.bool),(2,2,.bool),(2,3,.str),(2,4,.int .i64),(2,5,.int .i64),(2,6,.int .i64),(2,7,.int .i64),(2,8,.int .i64),(2,9,.str),(2,10,.tv),(2,11,.tv),(2,12,.tv)]⟩ .none)))) .none)))) .none))))) .none)))))) .none)))) mixed (fun _ _=>Tryd.call20 _ _) Tryd.func20 (by kernel_rfl) (by kernel_rfl) h
theorem EX (st:St) (K:V13 (St->Prop)) (h:K 2 false false str5 0 0 0 0 0 [] .nilSlice .nilSlice .nilSlice st):CallT PR CB [] [sV] st K:=
 Aj (cfg:=⟨[0],[],[]⟩) (h:= .none) mixed (fun _ _=>Tryd.call22 _ _) Tryd.func22 (by kernel_rfl) (by kernel_rfl) h
theorem Ft (st:St) (K:TV->St->Prop) (h:need (List.all [(.map st.nb)] Aq) (CallT PR Au [(.box (st.push (.pmap []) none).nb 0),.int .i64 1] [.one .tv] ((st.push (.pmap []) none).push (.cells [.nilPtr,.nilPtr,(.map st.nb),.int .i64 0]) (some 64)) (fun (v1:TV) c=>need (List.all [v1] Aq) (stB c (.box (st.push (.pmap []) none).nb 0) [v1] (fun a=>Al (Ac a [] (.t (.box (st.push (.pmap []) none).nb 0)) 0) (fun (v2:TV)=>need (List.all [v2] Aq) (stB a (.box (st.push (.pmap []) none).nb 1) [v2] (fun b=>K ((.box (st.push (.pmap []) none).nb 0)) b)))))))):CallT PR BN [] [.one .tv] st K:=
 Aj (cfg:=⟨[],[],[]⟩) (h:= .none) mixed (fun _ _=>Tryd.call23 _ _) Tryd.func23 (by kernel_rfl) (by kernel_rfl) h
theorem D4 (b:Nat) (a_0:Bool) (a_1:Bool) (a_2:TV) (a_3:Int) (a_4:Bool) (a_5:Bool) (a_6:B8) (a_7:Int) (a_8:Int) (a_9:Int) (a_10:Int) (a_11:Int) (a_12:B8) (a_13:TV) (a_14:TV) (a_15:TV) (atx:Int) (st:St) (K:Int->St->Prop) (h:CallT PR BR [(.agg [.bool a_0,.bool a_1,a_2,.int .i64 a_3,.bool a_4,.bool a_5,.str a_6,.int .i64 a_7,.int .i64 a_8,.int .i64 a_9,.int .i64 a_10,.int .i64 a_11,.str a_12,a_13,a_14,a_15])] [.one .bool] st (fun (b1:Bool) i=>BIf (!b1) (K 1 i) (Al (Ac i [] (.t (.box b 1)) 0) (fun (v1:TV)=>∃(C1:TV->TV->Int->Bool->Bool->TV->V13 (St->Prop)),(BIf a_0 (Al (Ac i [] (.t (.box b 0)) 0) (fun (v2:TV)=>C1 v2 ((.box b 0)) atx a_0 a_1 a_2 a_3 a_4 a_5 a_6 a_7 a_8 a_9 a_10 a_11 a_12 a_13 a_14 a_15 i)) (C1 v1 ((.box b 0)) atx a_0 a_1 a_2 a_3 a_4 a_5 a_6 a_7 a_8 a_9 a_10 a_11 a_12 a_13 a_14 a_15 i))/\∀j a p b2 b3 v3 n1 b4 b5 s1 n2 n3 n4 n5 n6 s2 v4 v5 v6 s,C1 j a p b2 b3 v3 n1 b4 b5 s1 n2 n3 n4 n5 n6 s2 v4 v5 v6 s->(CallT PR Bq [a,j,(.agg [.bool b2,.bool b3,v3,.int .i64 n1,.bool b4,.bool b5,.str s1,.int .i64 n2,.int .i64 n3,.int .i64 n4,.int .i64 n5,.int .i64 n6,.str s2,v4,v5,v6])] [.one .tv,.one .bool] s (fun (v7:TV) (b6:Bool) c=>BIf (!b6) (K 8 c) (need (isSl v3) (((0<=(i64.wrap ((lenS v3:Int)-(1:Int)))/\(i64.wrap ((lenS v3:Int)-(1:Int)))<(lenZ 1 v3:Int))/\Al (Ac c [] (.t (ixT 1 v3 (Int.toNat (i64.wrap ((lenS v3:Int)-(1:Int)))))) 0) (fun (x3:TV)=>A1 .str x3 (fun (s3:B8)=>need (isPtr v7) (need (isPtr v7) (Al (Ac c [] (.t (AE v7 2)) 0) (fun (x4:TV)=>A1 (.int .i64) x4 (fun (n7:Int)=>BIf b3 (CallT PR Bg [a,v7,.str s3] [.one (.int .i64)] c (fun (n8:Int) f=>BId (n8≠0) (K n8 f) (BId ((48:Int)<(i64.wrap (n7+(2:Int)))) (need (isPtr a) (need (isPtr a) (Al (Ac f [] (.t (AE a 0)) 0) (fun (v8:TV)=>CallT PR Ah [a,v8] [sV] f (fun (n9:Int) (b7 b8:Bool) (s4:B8) (o9 t4 e0 h6 f0:Int) (s5:B8) (v9 p3 g8:TV) i5=>CallT PR Ay [(.agg (cV n9 b7 b8 s4 o9 t4 e0 h6 f0 s5 v9 p3 g8))] [.one (.int .i64)] i5 (fun (l6:Int) p5=>K l6 p5)))))) (need (isPtr a) (need (isPtr a) (Al (Ac f [] (.t (AE a 3)) 0) (fun (x6:TV)=>A1 (.int .i64) x6 (fun (r5:Int)=>BId ((65536:Int)<r5) (need (isPtr a) (need (isPtr a) (Al (Ac f [] (.t (AE a 0)) 0) (fun (r8:TV)=>CallT PR Ah [a,r8] [sV] f (fun (l3:Int) (b9 c2:Bool) (s6:B8) (m6 p4 d1 m9 g5:Int) (s7:B8) (r0 k5 k1:TV) d5=>CallT PR Ay [(.agg (cV l3 b9 c2 s6 m6 p4 d1 m9 g5 s7 r0 k5 k1))] [.one (.int .i64)] d5 (fun (r4:Int) i0=>K r4 i0)))))) (CallT PR Ar [v3,(.func AX [])] [.one .bool] f (fun (j7:Bool) m=>BIf j7 (need (isPtr a) (need (isPtr a) (Al (Ac m [] (.t (AE a 0)) 0) (fun (e2:TV)=>CallT PR Ah [a,e2] [sV] m (fun (p1:Int) (h2 o4:Bool) (s8:B8) (e4 r6 g7 j1 p6:Int) (s9:B8) (d6 r7 o5:TV) a5=>CallT PR Ay [(.agg (cV p1 h2 o4 s8 e4 r6 g7 j1 p6 s9 d6 r7 o5))] [.one (.int .i64)] a5 (fun (c6:Int) b0=>K c6 b0)))))) (K 0 m))))))))))) (BIf b2 (CallT PR Bj [a,v7,.str s3] [.one (.int .i64)] c (fun (u:Int) d=>BId (u≠0) (K u d) (BId ((48:Int)<(i64.wrap (n7+(2:Int)))) (need (isPtr a) (need (isPtr a) (Al (Ac d [] (.t (AE a 0)) 0) (fun (q1:TV)=>CallT PR Ah [a,q1] [sV] d (fun (h5:Int) (i3 i4:Bool) (d9:B8) (j4 j5 t3 m1 q9:Int) (c7:B8) (e5 r1 m5:TV) y=>CallT PR Ay [(.agg (cV h5 i3 i4 d9 j4 j5 t3 m1 q9 c7 e5 r1 m5))] [.one (.int .i64)] y (fun (e9:Int) w=>K e9 w)))))) (need (isPtr a) (need (isPtr a) (Al (Ac d [] (.t (AE a 3)) 0) (fun (g6:TV)=>A1 (.int .i64) g6 (fun (p7:Int)=>BId ((65536:Int)<p7) (need (isPtr a) (need (isPtr a) (Al (Ac d [] (.t (AE a 0)) 0) (fun (g3:TV)=>CallT PR Ah [a,g3] [sV] d (fun (i2:Int) (p8 h4:Bool) (r9:B8) (p9 q5 e8 o3 m8:Int) (l9:B8) (f9 g4 q4:TV) a9=>CallT PR Ay [(.agg (cV i2 p8 h4 r9 p9 q5 e8 o3 m8 l9 f9 g4 q4))] [.one (.int .i64)] a9 (fun (r2:Int) a7=>K r2 a7)))))) (CallT PR Ar [v3,(.func AX [])] [.one .bool] d (fun (j3:Bool) l=>BIf j3 (need (isPtr a) (need (isPtr a) (Al (Ac l [] (.t (AE a 0)) 0) (fun (d4:TV)=>CallT PR Ah [a,d4] [sV] l (fun (l1:Int) (o8 s0:Bool) (q0:B8) (h0 o1 d2 j9 i7:Int) (j2:B8) (k6 h9 d7:TV) a6=>CallT PR Ay [(.agg (cV l1 o8 s0 q0 h0 o1 d2 j9 i7 j2 k6 h9 d7))] [.one (.int .i64)] a6 (fun (q6:Int) a4=>K q6 a4)))))) (K 0 l))))))))))) (need (isPtr v7) (need (isPtr v7) (Al (Ac c [] (.t (AE v7 1)) 0) (fun (q2:TV)=>Al (Dn c q2) (fun (es1:List (B8×TV))=>need (Em (Ao .nilPtr (As s3 es1))) (BIf (!Ce (Ao .nilPtr (As s3 es1))) (K 8 c) (CallT PR AB [v7,.str s3,(.box c.nb 0)] [] (c.push (.cells [.nilPtr,.nilSlice,.int .i64 n1,.bool b4,.bool b5,.str s1,.int .i64 n2,.int .i64 n3,.int .i64 n4,.int .i64 n5,.int .i64 n6,.str s2,v4,v5,v6,.int .i64 p]) (some 81)) (fun (a1:St)=>CallT PR Ay [(.agg (cV n1 b4 b5 s1 n2 n3 n4 n5 n6 s2 v4 v5 v6))] [.one (.int .i64)] a1 (fun (m2:Int) g=>BId (m2≠0) (need (isPtr a) (need (isPtr a) (Al (Ac g [] (.t (AE a 0)) 0) (fun (l0:TV)=>CallT PR Ah [a,l0] [sV] g (fun (h1:Int) (h8 l2:Bool) (g2:B8) (g0 c4 o6 t2 c3:Int) (f4:B8) (f5 m4 o0:TV) a8=>CallT PR Ay [(.agg (cV h1 h8 l2 g2 g0 c4 o6 t2 c3 f4 f5 m4 o0))] [.one (.int .i64)] a8 (fun (q8:Int) x=>K q8 x)))))) (need (isPtr a) (need (isPtr a) (Al (Ac g [] (.t (AE a 3)) 0) (fun (i1:TV)=>A1 (.int .i64) i1 (fun (q:Int)=>CallT PR Er [(.agg (cV n1 b4 b5 s1 n2 n3 n4 n5 n6 s2 v4 v5 v6))] [.one (.int .i64)] g (fun (l5:Int) n=>(Ac n [] (.t (AE a 3)) 0=some (.int .i64 q)/\need (isPtr a) (need (isPtr a) (stB n (AE a 3) [(.int .i64 (i64.wrap (q+l5)))] (fun o=>need (isPtr v7) (need (isPtr v7) (Al (Ac o [] (.t (AE v7 2)) 0) (fun (n0:TV)=>A1 (.int .i64) n0 (fun (r:Int)=>CallT PR DS [(.agg (cV n1 b4 b5 s1 n2 n3 n4 n5 n6 s2 v4 v5 v6))] [.one (.int .i64)] o (fun (f2:Int) e=>(Ac e [] (.t (AE v7 2)) 0=some (.int .i64 r)/\BId ((48:Int)<(i64.wrap (r+f2))) (need (isPtr a) (need (isPtr a) (Al (Ac e [] (.t (AE a 0)) 0) (fun (m0:TV)=>CallT PR Ah [a,m0] [sV] e (fun (d3:Int) (c9 i8:Bool) (r3:B8) (f6 f3 o7 l7 i6:Int) (d0:B8) (f8 i9 t1:TV) a0=>CallT PR Ay [(.agg (cV d3 c9 i8 r3 f6 f3 o7 l7 i6 d0 f8 i9 t1))] [.one (.int .i64)] a0 (fun (j0:Int) a2=>K j0 a2)))))) (need (isPtr a) (need (isPtr a) (Al (Ac e [] (.t (AE a 3)) 0) (fun (j6:TV)=>A1 (.int .i64) j6 (fun (c1:Int)=>BId ((65536:Int)<c1) (need (isPtr a) (need (isPtr a) (Al (Ac e [] (.t (AE a 0)) 0) (fun (k3:TV)=>CallT PR Ah [a,k3] [sV] e (fun (t0:Int) (f7 h3:Bool) (f1:B8) (g9 k4 j8 c5 d8:Int) (e6:B8) (q7 l4 m3:TV) v=>CallT PR Ay [(.agg (cV t0 f7 h3 f1 g9 k4 j8 c5 d8 e6 q7 l4 m3))] [.one (.int .i64)] v (fun (k0:Int) a3=>K k0 a3)))))) (CallT PR Ar [v3,(.func AX [])] [.one .bool] e (fun (m7:Bool) k=>BIf m7 (need (isPtr a) (need (isPtr a) (Al (Ac k [] (.t (AE a 0)) 0) (fun (q3:TV)=>CallT PR Ah [a,q3] [sV] k (fun (e1:Int) (k8 k9:Bool) (e7:B8) (g1 k2 h7 c8 p2:Int) (e3:B8) (o2 p0 l8:TV) z=>CallT PR Ay [(.agg (cV e1 k8 k9 e7 g1 k2 h7 c8 p2 e3 o2 p0 l8))] [.one (.int .i64)] z (fun (k7:Int) c0=>K k7 c0)))))) (K 0 k))))))))))))))))))))))))))))))))))))))))))))))))):CallT PR Bk [(.box b 0),(.agg [.bool a_0,.bool a_1,a_2,.int .i64 a_3,.bool a_4,.bool a_5,.str a_6,.int .i64 a_7,.int .i64 a_8,.int .i64 a_9,.int .i64 a_10,.int .i64 a_11,.str a_12,a_13,a_14,a_15]),.int .i64 atx] [.one (.int .i64)] st K:=
 Aj (cfg:=⟨[4],[],[71,81]⟩) (h:=(.seq .none (.seq .none (.seq .none (.cut ⟨[(7,.tv),(0,.tv),(2,.int .i64)],[(4,0,0)],[(0,16)],[(0,0,.bool),(0,1,.bool),(0,2,.tv),(0,3,.int .i64),(0,4,.bool),(0,5,.bool),(0,6,.str),(0,7,.int .i64),(0,8,.int .i64),(0,9,.int .i64),(0,10,.int .i64),(0,11,.int .i64),(0,12,.str),(0,13,.tv),(0,14,.tv),(0,15,.tv)]⟩ .none .none))))) mixed (fun _ _=>Tryd.call24 _ _) Tryd.func24 (by kernel_rfl) (by kernel_rfl) h
theorem Iz (v_0:Int) (v_1:Bool) (v_2:Bool) (v_3:B8) (v_4:Int) (v_5:Int) (v_6:Int) (v_7:Int) (v_8:Int) (v_9:B8) (v_10:TV) (v_11:TV) (v_12:TV) (st:St) (K:Bool->St->Prop) (h:BId (v_0≠1) (BIf v_1 (K true st) (BId (v_0≠2) (BIf (!((v_2==false)&&(decide (v_3=([]:B8))&&(decide (v_4=(0:Int))&&true)))) (K true st) (BId (v_0≠3) (BIf (!(decide (v_5=(0:Int))&&(decide (v_6=(0:Int))&&(decide (v_7=(0:Int))&&(decide (v_8=(0:Int))&&true))))) (K true st) (BId (v_0≠4) (BId (v_9≠([]:B8)) (K true st) (BId (v_0≠5) (need (isSl v_10) (BId ((0:Int)<(lenS v_10:Int)) (K true st) (BId (v_0≠6) (need (isSl v_11) (BId ((0:Int)<(lenS v_11:Int)) (K true st) (BId (v_0≠7) (need (isSl v_12) (K ((decide ((0:Int)<(lenS v_12:Int)))) st)) (K false st)))) (BId (v_0≠7) (need (isSl v_12) (K ((decide ((0:Int)<(lenS v_12:Int)))) st)) (K false st))))) (BId (v_0≠6) (need (isSl v_11) (BId ((0:Int)<(lenS v_11:Int)) (K true st) (BId (v_0≠7) (need (isSl v_12) (K ((decide ((0:Int)<(lenS v_12:Int)))) st)) (K false st)))) (BId (v_0≠7) (need (isSl v_12) (K ((decide ((0:Int)<(lenS v_12:Int)))) st)) (K false st))))) (BId (v_0≠5) (need (isSl v_10) (BId ((0:Int)<(lenS v_10:Int)) (K true st) (BId (v_0≠6) (need (isSl v_11) (BId ((0:Int)<(lenS v_11:Int)) (K true st) (BId (v_0≠7) (need (isSl v_12) (K ((decide ((0:Int)<(lenS v_12:Int)))) st)) (K false st)))) (BId (v_0≠7) (need (isSl v_12) (K ((decide ((0:Int)<(lenS v_12:Int)))) st)) (K false st))))) (BId (v_0≠6) (need (isSl v_11) (BId ((0:Int)<(lenS v_11:Int)) (K true st) (BId (v_0≠7) (need (isSl v_12) (K ((decide ((0:Int)<(lenS v_12:Int)))) st)) (K false st)))) (BId (v_0≠7) (need (isSl v_12) (K ((decide ((0:Int)<(lenS v_12:Int)))) st)) (K false st)))))) (BId (v_0≠4) (BId (v_9≠([]:B8)) (K true st) (BId (v_0≠5) (need (isSl v_10) (BId ((0:Int)<(lenS v_10:Int)) (K true st) (BId (v_0≠6) (need (isSl v_11) (BId ((0:Int)<(lenS v_11:Int)) (K true st) (BId (v_0≠7) (need (isSl v_12) (K ((decide ((0:Int)<(lenS v_12:Int)))) st)) (K false st)))) (BId (v_0≠7) (need (isSl v_12) (K ((decide ((0:Int)<(lenS v_12:Int)))) st)) (K false st))))) (BId (v_0≠6) (need (isSl v_11) (BId ((0:Int)<(lenS v_11:Int)) (K true st) (BId (v_0≠7) (need (isSl v_12) (K ((decide ((0:Int)<(lenS v_12:Int)))) st)) (K false st)))) (BId (v_0≠7) (need (isSl v_12) (K ((decide ((0:Int)<(lenS v_12:Int)))) st)) (K false st))))) (BId (v_0≠5) (need (isSl v_10) (BId ((0:Int)<(lenS v_10:Int)) (K true st) (BId (v_0≠6) (need (isSl v_11) (BId ((0:Int)<(lenS v_11:Int)) (K true st) (BId (v_0≠7) (need (isSl v_12) (K ((decide ((0:Int)<(lenS v_12:Int)))) st)) (K false st)))) (BId (v_0≠7) (need (isSl v_12) (K ((decide ((0:Int)<(lenS v_12:Int)))) st)) (K false st))))) (BId (v_0≠6) (need (isSl v_11) (BId ((0:Int)<(lenS v_11:Int)) (K true st) (BId (v_0≠7) (need (isSl v_12) (K ((decide ((0:Int)<(lenS v_12:Int)))) st)) (K false st)))) (BId (v_0≠7) (need (isSl v_12) (K ((decide ((0:Int)<(lenS v_12:Int)))) st)) (K false st))))))) (BId (v_0≠3) (BIf (!(decide (v_5=(0:Int))&&(decide (v_6=(0:Int))&&(decide (v_7=(0:Int))&&(decide (v_8=(0:Int))&&true))))) (K true st) (BId (v_0≠4) (BId (v_9≠([]:B8)) (K true st) (BId (v_0≠5) (need (isSl v_10) (BId ((0:Int)<(lenS v_10:Int)) (K true st) (BId (v_0≠6) (need (isSl v_11) (BId ((0:Int)<(lenS v_11:Int)) (K true st) (BId (v_0≠7) (need (isSl v_12) (K ((decide ((0:Int)<(lenS v_12:Int)))) st)) (K false st)))) (BId (v_0≠7) (need (isSl v_12) (K ((decide ((0:Int)<(lenS v_12:Int)))) st)) (K false st))))) (BId (v_0≠6) (need (isSl v_11) (BId ((0:Int)<(lenS v_11:Int)) (K true st) (BId (v_0≠7) (need (isSl v_12) (K ((decide ((0:Int)<(lenS v_12:Int)))) st)) (K false st)))) (BId (v_0≠7) (need (isSl v_12) (K ((decide ((0:Int)<(lenS v_12:Int)))) st)) (K false st))))) (BId (v_0≠5) (need (isSl v_10) (BId ((0:Int)<(lenS v_10:Int)) (K true st) (BId (v_0≠6) (need (isSl v_11) (BId ((0:Int)<(lenS v_11:Int)) (K true st) (BId (v_0≠7) (need (isSl v_12) (K ((decide ((0:Int)<(lenS v_12:Int)))) st)) (K false st)))) (BId (v_0≠7) (need (isSl v_12) (K ((decide ((0:Int)<(lenS v_12:Int)))) st)) (K false st))))) (BId (v_0≠6) (need (isSl v_11) (BId ((0:Int)<(lenS v_11:Int)) (K true st) (BId (v_0≠7) (need (isSl v_12) (K ((decide ((0:Int)<(lenS v_12:Int)))) st)) (K false st)))) (BId (v_0≠7) (need (isSl v_12) (K ((decide ((0:Int)<(lenS v_12:Int)))) st)) (K false st)))))) (BId (v_0≠4) (BId (v_9≠([]:B8)) (K true st) (BId (v_0≠5) (need (isSl v_10) (BId ((0:Int)<(lenS v_10:Int)) (K true st) (BId (v_0≠6) (need (isSl v_11) (BId ((0:Int)<(lenS v_11:Int)) (K true st) (BId (v_0≠7) (need (isSl v_12) (K ((decide ((0:Int)<(lenS v_12:Int)))) st)) (K false st)))) (BId (v_0≠7) (need (isSl v_12) (K ((decide ((0:Int)<(lenS v_12:Int)))) st)) (K false st))))) (BId (v_0≠6) (need (isSl v_11) (BId ((0:Int)<(lenS v_11:Int)) (K true st) (BId (v_0≠7) (need (isSl v_12) (K ((decide ((0:Int)<(lenS v_12:Int)))) st)) (K false st)))) (BId (v_0≠7) (need (isSl v_12) (K ((decide ((0:Int)<(lenS v_12:Int)))) st)) (K false st))))) (BId (v_0≠5) (need (isSl v_10) (BId ((0:Int)<(lenS v_10:Int)) (K true st) (BId (v_0≠6) (need (isSl v_11) (BId ((0:Int)<(lenS v_11:Int)) (K true st) (BId (v_0≠7) (need (isSl v_12) (K ((decide ((0:Int)<(lenS v_12:Int)))) st)) (K false st)))) (BId (v_0≠7) (need (isSl v_12) (K ((decide ((0:Int)<(lenS v_12:Int)))) st)) (K false st))))) (BId (v_0≠6) (need (isSl v_11) (BId ((0:Int)<(lenS v_11:Int)) (K true st) (BId (v_0≠7) (need (isSl v_12) (K ((decide ((0:Int)<(lenS v_12:Int)))) st)) (K false st)))) (BId (v_0≠7) (need (isSl v_12) (K ((decide ((0:Int)<(lenS v_12:Int)))) st)) (K false st)))))))) (BId (v_0≠2) (BIf (!((v_2==false)&&(decide (v_3=([]:B8))&&(decide (v_4=(0:Int))&&true)))) (K true st) (BId (v_0≠3) (BIf (!(decide (v_5=(0:Int))&&(decide (v_6=(0:Int))&&(decide (v_7=(0:Int))&&(decide (v_8=(0:Int))&&true))))) (K true st) (BId (v_0≠4) (BId (v_9≠([]:B8)) (K true st) (BId (v_0≠5) (need (isSl v_10) (BId ((0:Int)<(lenS v_10:Int)) (K true st) (BId (v_0≠6) (need (isSl v_11) (BId ((0:Int)<(lenS v_11:Int)) (K true st) (BId (v_0≠7) (need (isSl v_12) (K ((decide ((0:Int)<(lenS v_12:Int)))) st)) (K false st)))) (BId (v_0≠7) (need (isSl v_12) (K ((decide ((0:Int)<(lenS v_12:Int)))) st)) (K false st))))) (BId (v_0≠6) (need (isSl v_11) (BId ((0:Int)<(lenS v_11:Int)) (K true st) (BId (v_0≠7) (need (isSl v_12) (K ((decide ((0:Int)<(lenS v_12:Int)))) st)) (K false st)))) (BId (v_0≠7) (need (isSl v_12) (K ((decide ((0:Int)<(lenS v_12:Int)))) st)) (K false st))))) (BId (v_0≠5) (need (isSl v_10) (BId ((0:Int)<(lenS v_10:Int)) (K true st) (BId (v_0≠6) (need (isSl v_11) (BId ((0:Int)<(lenS v_11:Int)) (K true st) (BId (v_0≠7) (need (isSl v_12) (K ((decide ((0:Int)<(lenS v_12:Int)))) st)) (K false st)))) (BId (v_0≠7) (need (isSl v_12) (K ((decide ((0:Int)<(lenS v_12:Int)))) st)) (K false st))))) (BId (v_0≠6) (need (isSl v_11) (BId ((0:Int)<(lenS v_11:Int)) (K true st) (BId (v_0≠7) (need (isSl v_12) (K ((decide ((0:Int)<(lenS v_12:Int)))) st)) (K false st)))) (BId (v_0≠7) (need (isSl v_12) (K ((decide ((0:Int)<(lenS v_12:Int)))) st)) (K false st)))))) (BId (v_0≠4) (BId (v_9≠([]:B8)) (K true st) (BId (v_0≠5) (need (isSl v_10) (BId ((0:Int)<(lenS v_10:Int)) (K true st) (BId (v_0≠6) (need (isSl v_11) (BId ((0:Int)<(lenS v_11:Int)) (K true st) (BId (v_0≠7) (need (isSl v_12) (K ((decide ((0:Int)<(lenS v_12:Int)))) st)) (K false st)))) (BId (v_0≠7) (need (isSl v_12) (K ((decide ((0:Int)<(lenS v_12:Int)))) st)) (K false st))))) (BId (v_0≠6) (need (isSl v_11) (BId ((0:Int)<(lenS v_11:Int)) (K true st) (BId (v_0≠7) (need (isSl v_12) (K ((decide ((0:Int)<(lenS v_12:Int)))) st)) (K false st)))) (BId (v_0≠7) (need (isSl v_12) (K ((decide ((0:Int)<(lenS v_12:Int)))) st)) (K false st))))) (BId (v_0≠5) (need (isSl v_10) (BId ((0:Int)<(lenS v_10:Int)) (K true st) (BId (v_0≠6) (need (isSl v_11) (BId ((0:Int)<(lenS v_11:Int)) (K true st) (BId (v_0≠7) (need (isSl v_12) (K ((decide ((0:Int)<(lenS v_12:Int)))) st)) (K false st)))) (BId (v_0≠7) (need (isSl v_12) (K ((decide ((0:Int)<(lenS v_12:Int)))) st)) (K false st))))) (BId (v_0≠6) (need (isSl v_11) (BId ((0:Int)<(lenS v_11:Int)) (K true st) (BId (v_0≠7) (need (isSl v_12) (K ((decide ((0:Int)<(lenS v_12:Int)))) st)) (K false st)))) (BId (v_0≠7) (need (isSl v_12) (K ((decide ((0:Int)<(lenS v_12:Int)))) st)) (K false st))))))) (BId (v_0≠3) (BIf (!(decide (v_5=(0:Int))&&(decide (v_6=(0:Int))&&(decide (v_7=(0:Int))&&(decide (v_8=(0:Int))&&true))))) (K true st) (BId (v_0≠4) (BId (v_9≠([]:B8)) (K true st) (BId (v_0≠5) (need (isSl v_10) (BId ((0:Int)<(lenS v_10:Int)) (K true st) (BId (v_0≠6) (need (isSl v_11) (BId ((0:Int)<(lenS v_11:Int)) (K true st) (BId (v_0≠7) (need (isSl v_12) (K ((decide ((0:Int)<(lenS v_12:Int)))) st)) (K false st)))) (BId (v_0≠7) (need (isSl v_12) (K ((decide ((0:Int)<(lenS v_12:Int)))) st)) (K false st))))) (BId (v_0≠6) (need (isSl v_11) (BId ((0:Int)<(lenS v_11:Int)) (K true st) (BId (v_0≠7) (need (isSl v_12) (K ((decide ((0:Int)<(lenS v_12:Int)))) st)) (K false st)))) (BId (v_0≠7) (need (isSl v_12) (K ((decide ((0:Int)<(lenS v_12:Int)))) st)) (K false st))))) (BId (v_0≠5) (need (isSl v_10) (BId ((0:Int)<(lenS v_10:Int)) (K true st) (BId (v_0≠6) (need (isSl v_11) (BId ((0:Int)<(lenS v_11:Int)) (K true st) (BId (v_0≠7) (need (isSl v_12) (K ((decide ((0:Int)<(lenS v_12:Int)))) st)) (K false st)))) (BId (v_0≠7) (need (isSl v_12) (K ((decide ((0:Int)<(lenS v_12:Int)))) st)) (K false st))))) (BId (v_0≠6) (need (isSl v_11) (BId ((0:Int)<(lenS v_11:Int)) (K true st) (BId (v_0≠7) (need (isSl v_12) (K ((decide ((0:Int)<(lenS v_12:Int)))) st)) (K false st)))) (BId (v_0≠7) (need (isSl v_12) (K ((decide ((0:Int)<(lenS v_12:Int)))) st)) (K false st)))))) (BId (v_0≠4) (BId (v_9≠([]:B8)) (K true st) (BId (v_0≠5) (need (isSl v_10) (BId ((0:Int)<(lenS v_10:Int)) (K true st) (BId (v_0≠6) (need (isSl v_11) (BId ((0:Int)<(lenS v_11:Int)) (K true st) (BId (v_0≠7) (need (isSl v_12) (K ((decide ((0:Int)<(lenS v_12:Int)))) st)) (K false st)))) (BId (v_0≠7) (need (isSl v_12) (K ((decide ((0:Int)<(lenS v_12:Int)))) st)) (K false st))))) (BId (v_0≠6) (need (isSl v_11) (BId ((0:Int)<(lenS v_11:Int)) (K true st) (BId (v_0≠7) (need (isSl v_12) (K ((decide ((0:Int)<(lenS v_12:Int)))) st)) (K false st)))) (BId (v_0≠7) (need (isSl v_12) (K ((decide ((0:Int)<(lenS v_12:Int)))) st)) (K false st))))) (BId (v_0≠5) (need (isSl v_10) (BId ((0:Int)<(lenS v_10:Int)) (K true st) (BId (v_0≠6) (need (isSl v_11) (BId ((0:Int)<(lenS v_11:Int)) (K true st) (BId (v_0≠7) (need (isSl v_12) (K ((decide ((0:Int)<(lenS v_12:Int)))) st)) (K false st)))) (BId (v_0≠7) (need (isSl v_12) (K ((decide ((0:Int)<(lenS v_12:Int)))) st)) (K false st))))) (BId (v_0≠6) (need (isSl v_11) (BId ((0:Int)<(lenS v_11:Int)) (K true st) (BId (v_0≠7) (need (isSl v_12) (K ((decide ((0:Int)<(lenS v_12:Int)))) st)) (K false st)))) (BId (v_0≠7) (need (isSl v_12) (K ((decide ((0:Int)<(lenS v_12:Int)))) st)) (K false st)))))))):CallT PR DR [(.agg (cV v_0 v_1 v_2 v_3 v_4 v_5 v_6 v_7 v_8 v_9 v_10 v_11 v_12))] [.one .bool] st K:=
 Aj (cfg:=⟨[1],[],[]⟩) (h:= .none) mixed (fun _ _=>Tryd.call27 _ _) Tryd.func27 (by kernel_rfl) (by kernel_rfl) h
theorem Hr (d_0:Bool) (d_1:B8) (d_2:Int) (st:St) (K:Bool->St->Prop) (h:BId (d_1=([]:B8)) (K (((d_0==false)&&(decide (d_1=([]:B8))&&(decide (d_2=(0:Int))&&true)))) st) (CallT PR Di [.str d_1] [.one .bool] st (fun (b1:Bool) a=>BIf b1 (BId ((d_1.length:Int)<=(120:Int)) (CallT PR Dh [.str d_1] [.one (.int .i64)] a (fun (n1:Int) b=>BId (n1=0) (BId ((-400:Int)<=d_2) (K ((decide (d_2<=400))) b) (K false b)) (K false b))) (K false a)) (K false a)))):CallT PR CS [(.agg [.bool d_0,.str d_1,.int .i64 d_2])] [.one .bool] st K:=
 Aj (cfg:=⟨[1],[],[]⟩) (h:= .none) mixed (fun _ _=>Tryd.call28 _ _) Tryd.func28 (by kernel_rfl) (by kernel_rfl) h
theorem Ig (t_0:Int) (t_1:Int) (t_2:Int) (t_3:Int) (st:St) (K:Bool->St->Prop) (h:BId (t_0<1) (K false st) (BId ((4:Int)<t_0) (K false st) (BId (t_1<0) (K false st) (BId ((3652058:Int)<t_1) (K false st) (BId (t_2<0) (K false st) (BId ((86399999999999:Int)<t_2) (K false st) (BId (t_3<(-1439:Int)) (K false st) (BId ((1439:Int)<t_3) (K false st) (BId (t_0=2) (BId (t_1=0) (K ((decide (t_3=0))) st) (K false st)) (BId (t_0=1) (BId (t_2=0) (K ((decide (t_3=0))) st) (K false st)) (BId (t_0=3) (K ((decide (t_3=0))) st) (K true st)))))))))))):CallT PR Cn [(.agg [.int .i64 t_0,.int .i64 t_1,.int .i64 t_2,.int .i64 t_3])] [.one .bool] st K:=
 Aj (cfg:=⟨[1],[],[]⟩) (h:= .none) mixed (fun _ _=>Tryd.call29 _ _) Tryd.func29 (by kernel_rfl) (by kernel_rfl) h
theorem KU (s:B8) (st:St) (K:Bool->St->Prop) (h:CallT PR GM [.str s] [.one (.int .i64),.one (.int .i64)] st (fun (n1 n2:Int) a=>K ((decide (n2=0))) a)):CallT PR Dx [.str s] [.one .bool] st K:=
 Aj (cfg:=⟨[],[],[]⟩) (h:= .none) mixed (fun _ _=>Tryd.call30 _ _) Tryd.func30 (by kernel_rfl) (by kernel_rfl) h
theorem JL (l:TV) (st:St) (K:Int->St->Prop) (h:need (isSl l) (∃(I1:Int->TV->TV->Int->St->Prop) (M1:Int->TV->TV->Int->St->Nat),(I1 0 ((.map st.nb)) l ((lenS l:Int)) (st.push (.map []) none))/\∀b a c d e,I1 b a c d e->(BId (b<d) (((0<=b/\b<(lenZ 14 c:Int))/\Al ((Am e [] (.t (ixT 14 c b.toNat)) 0 14).map TV.agg) (fun (x1:TV)=>Dz [.str,.int .i64,.bool,.bool,.str,.int .i64,.int .i64,.int .i64,.int .i64,.int .i64,.str,.tv,.tv,.tv] x1 (fun (s1:B8) (n1:Int) (b1 b2:Bool) (s2:B8) (n2 n3 n4 n5 n6:Int) (s3:B8) (v1 v2 v3:TV)=>need (List.all [.str s1,.int .i64 n1,.bool b1,.bool b2,.str s2,.int .i64 n2,.int .i64 n3,.int .i64 n4,.int .i64 n5,.int .i64 n6,.str s3,v1,v2,v3] Aq) (CallT PR Fc [.str s1] [.one (.int .i64)] e (fun (n7:Int) f=>BId (n7≠0) (K n7 f) (Al (Dn f a) (fun (es1:List (B8×TV))=>A1 .bool (Ao (.bool false) (As s1 es1)) (fun (b3:Bool)=>BIf b3 (K 8 f) (muK a s1 (.bool true) f (fun g=>(I1 ((i64.wrap (b+(1:Int)))) a c d g/\M1 ((i64.wrap (b+(1:Int)))) a c d g<M1 b a c d e)))))))))))) (K 0 e)))):CallT PR Ep [l] [.one (.int .i64)] st K:=
 Aj (cfg:=⟨[5],[],[]⟩) (h:=(.seq .none (.seq .none (.seq (.seq .none (.block (.loop ⟨[(10,.int .i64),(3,.tv),(8,.tv),(9,.int .i64)],[],[],[]⟩ .none))) .none)))) mixed (fun _ _=>Tryd.call31 _ _) Tryd.func31 (by kernel_rfl) (by kernel_rfl) h
theorem Ie (v_0:Int) (b:Bool) (c:Bool) (v_3:B8) (v_4:Int) (v_5:Int) (v_6:Int) (v_7:Int) (v_8:Int) (v_9:B8) (v_10:TV) (v_11:TV) (v_12:TV) (left:Int) (st:St) (K:V13 (St->Prop)) (h:CallT PR A9 [v_10] [.one .tv] st (fun (v1:TV) f0=>need (List.all [v1] Aq) (BId (left<1) (need (List.all (cV v_0 b c v_3 v_4 v_5 v_6 v_7 v_8 v_9 v1 .nilSlice .nilSlice) Aq) (K v_0 b c v_3 v_4 v_5 v_6 v_7 v_8 v_9 v1 .nilSlice .nilSlice f0)) (need (isSl v_11) (∃(I1:TV->Int->Int->TV->Int->V13 (V13 (St->Prop))) (M1:TV->Int->Int->TV->Int->V13 (V13 (St->Nat))),(I1 .nilSlice 0 left v_11 ((lenS v_11:Int)) v_0 b c v_3 v_4 v_5 v_6 v_7 v_8 v_9 v1 v_11 v_12 0 false false [] 0 0 0 0 0 [] .nilSlice .nilSlice .nilSlice f0)/\∀a5 f a b w n1 b1 b2 s1 n2 n3 n4 n5 n6 s2 v2 v3 v4 n7 b3 b4 s3 n8 n9 y z s s4 v5 v6 v7 v,I1 a5 f a b w n1 b1 b2 s1 n2 n3 n4 n5 n6 s2 v2 v3 v4 n7 b3 b4 s3 n8 n9 y z s s4 v5 v6 v7 v->(BId (f<w) (((0<=f/\f<(lenZ 13 b:Int))/\Al ((Am v [] (.t (ixT 13 b f.toNat)) 0 13).map TV.agg) (fun (x1:TV)=>Dz [.int .i64,.bool,.bool,.str,.int .i64,.int .i64,.int .i64,.int .i64,.int .i64,.str,.tv,.tv,.tv] x1 (fun (e0:Int) (b5 b6:Bool) (s5:B8) (d1 e9 h1 e8 f2:Int) (s6:B8) (v8 v9 f8:TV)=>need (List.all (cV e0 b5 b6 s5 d1 e9 h1 e8 f2 s6 v8 v9 f8) Aq) (CallT PR BF [(.agg (cV e0 b5 b6 s5 d1 e9 h1 e8 f2 s6 v8 v9 f8)),(.int .i64 (i64.wrap (a-(1:Int))))] [sV] v (fun (f9:Int) (b7 b8:Bool) (s7:B8) (c6 f4 d7 h0 f7:Int) (s8:B8) (d8 h2 g7:TV) h3=>need (List.all (cV f9 b7 b8 s7 c6 f4 d7 h0 f7 s8 d8 h2 g7) Aq) (Hm 37 13 168 a5 1 (cV f9 b7 b8 s7 c6 f4 d7 h0 f7 s8 d8 h2 g7) h3 (fun (e6:TV) e5=>(I1 e6 ((i64.wrap (f+(1:Int)))) a b w n1 b1 b2 s1 n2 n3 n4 n5 n6 s2 v2 v3 v4 n7 b3 b4 s3 n8 n9 y z s s4 v5 v6 v7 e5/\M1 e6 ((i64.wrap (f+(1:Int)))) a b w n1 b1 b2 s1 n2 n3 n4 n5 n6 s2 v2 v3 v4 n7 b3 b4 s3 n8 n9 y z s s4 v5 v6 v7 e5<M1 a5 f a b w n1 b1 b2 s1 n2 n3 n4 n5 n6 s2 v2 v3 v4 n7 b3 b4 s3 n8 n9 y z s s4 v5 v6 v7 v))))))))) (need (isSl v4) (∃(I2:TV->Int->Int->TV->TV->Int->V13 (V13 (St->Prop))) (M2:TV->Int->Int->TV->TV->Int->V13 (V13 (St->Nat))),(I2 .nilSlice 0 a a5 v4 ((lenS v4:Int)) n1 b1 b2 s1 n2 n3 n4 n5 n6 s2 v2 v3 v4 n7 b3 b4 s3 n8 n9 y z s s4 v5 v6 v7 v)/\∀p e d g c x l b9 i s9 r m n q j k o a2 a1 c2 a8 a3 a0 a4 a6 a7 c4 a9 c3 c1 b0 c0 u,I2 p e d g c x l b9 i s9 r m n q j k o a2 a1 c2 a8 a3 a0 a4 a6 a7 c4 a9 c3 c1 b0 c0 u->(BId (e<x) (((0<=e/\e<(lenZ 14 c:Int))/\Al ((Am u [] (.t (ixT 14 c e.toNat)) 0 14).map TV.agg) (fun (x2:TV)=>Dz [.str,.int .i64,.bool,.bool,.str,.int .i64,.int .i64,.int .i64,.int .i64,.int .i64,.str,.tv,.tv,.tv] x2 (fun (c5:B8) (g6:Int) (f6 e2:Bool) (g1:B8) (d0 g0 e1 g2 g5:Int) (e4:B8) (c8 g8 f1:TV)=>need (List.all [.str c5,.int .i64 g6,.bool f6,.bool e2,.str g1,.int .i64 d0,.int .i64 g0,.int .i64 e1,.int .i64 g2,.int .i64 g5,.str e4,c8,g8,f1] Aq) (CallT PR BF [(.agg (cV g6 f6 e2 g1 d0 g0 e1 g2 g5 e4 c8 g8 f1)),(.int .i64 (i64.wrap (d-(1:Int))))] [sV] u (fun (c9:Int) (e3 g3:Bool) (d5:B8) (f5 f3 g9 e7 d9:Int) (d2:B8) (d4 d3 d6:TV) h4=>need (List.all [.str c5,.int .i64 c9,.bool e3,.bool g3,.str d5,.int .i64 f5,.int .i64 f3,.int .i64 g9,.int .i64 e7,.int .i64 d9,.str d2,d4,d3,d6] Aq) (Hm 50 14 184 p 1 [.str c5,.int .i64 c9,.bool e3,.bool g3,.str d5,.int .i64 f5,.int .i64 f3,.int .i64 g9,.int .i64 e7,.int .i64 d9,.str d2,d4,d3,d6] h4 (fun (g4:TV) c7=>(I2 g4 ((i64.wrap (e+(1:Int)))) d g c x l b9 i s9 r m n q j k o a2 a1 c2 a8 a3 a0 a4 a6 a7 c4 a9 c3 c1 b0 c0 c7/\M2 g4 ((i64.wrap (e+(1:Int)))) d g c x l b9 i s9 r m n q j k o a2 a1 c2 a8 a3 a0 a4 a6 a7 c4 a9 c3 c1 b0 c0 c7<M2 p e d g c x l b9 i s9 r m n q j k o a2 a1 c2 a8 a3 a0 a4 a6 a7 c4 a9 c3 c1 b0 c0 u))))))))) (need (List.all [g] Aq) (need (List.all [p] Aq) (need (List.all (cV l b9 i s9 r m n q j k o g p) Aq) (K l b9 i s9 r m n q j k o g p u))))))))))))):CallT PR BF [(.agg (cV v_0 b c v_3 v_4 v_5 v_6 v_7 v_8 v_9 v_10 v_11 v_12)),.int .i64 left] [sV] st K:=
 Aj (cfg:=⟨[2,4,7,10],[33,52],[]⟩) (h:=(.seq .none (.seq .none (.seq .none (.seq .none (.seq (.seq .none (.block (.loop ⟨[(5,.tv),(23,.int .i64),(1,.int .i64),(21,.tv),(22,.int .i64)],[(2,0,0),(4,1,0)],[(0,13),(1,13)],[(0,0,.int .i64),(0,1,.bool),(0,2,.bool),(0,3,.str),(0,4,.int .i64),(0,5,.int .i64),(0,6,.int .i64),(0,7,.int .i64),(0,8,.int .i64),(0,9,.str),(0,10,.tv),(0,11,.tv),(0,12,.tv),(1,0,.int .i64),(1,1,.bool),(1,2,.bool),(1,3,.str),(1,4,.int .i64),(1,5,.int .i64),(1,6,.int .i64),(1,7,.int .i64),(1,8,.int .i64),(1,9,.str),(1,10,.tv),(1,11,.tv),(1,12,.tv)]⟩ .none))) (.seq .none (.seq (.seq .none (.block (.loop ⟨[(8,.tv),(38,.int .i64),(1,.int .i64),(5,.tv),(36,.tv),(37,.int .i64)],[(2,0,0),(4,1,0)],[(0,13),(1,13)],[(0,0,.int .i64),(0,1,.bool),(0,2,.bool),(0,3,.str),(0,4,.int .i64),(0,5,.int .i64),(0,6,.int .i64),(0,7,.int .i64),(0,8,.int .i64),(0,9,.str),(0,10,.tv),(0,11,.tv),(0,12,.tv),(1,0,.int .i64),(1,1,.bool),(1,2,.bool),(1,3,.str),(1,4,.int .i64),(1,5,.int .i64),(1,6,.int .i64),(1,7,.int .i64),(1,8,.int .i64),(1,9,.str),(1,10,.tv),(1,11,.tv),(1,12,.tv)]⟩ .none))) .none)))))))) mixed (fun _ _=>Tryd.call32 _ _) Tryd.func32 (by kernel_rfl) (by kernel_rfl) h
theorem Eh (b:Nat) (depth:Int) (st:St) (K:TV->St->Prop) (h:need (List.all [(.map st.nb)] Aq) (Al (Ac ((st.push (.map []) none).push (.cells [.nilSlice,(.map st.nb),.int .i64 depth]) (some 77)) [] (.t (.box b 2)) 0) (fun (v1:TV)=>puK v1 (.box (st.push (.map []) none).nb 0) (.bool true) ((st.push (.map []) none).push (.cells [.nilSlice,(.map st.nb),.int .i64 depth]) (some 77)) (fun a=>Al (Ac a [] (.t (.box b 3)) 0) (fun (x2:TV)=>A1 (.int .i64) x2 (fun (n1:Int)=>stB a (.box b 3) [(.int .i64 (i64.wrap (n1+(1:Int))))] (fun c=>K ((.box (st.push (.map []) none).nb 0)) c))))))):CallT PR Au [(.box b 0),.int .i64 depth] [.one .tv] st K:=
 Aj (cfg:=⟨[],[],[]⟩) (h:= .none) mixed (fun _ _=>Tryd.call39 _ _) Tryd.func39 (by kernel_rfl) (by kernel_rfl) h
theorem GT (a_0:Bool) (a_1:Bool) (a_2:TV) (a_3:Int) (a_4:Bool) (a_5:Bool) (a_6:B8) (a_7:Int) (a_8:Int) (a_9:Int) (a_10:Int) (a_11:Int) (a_12:B8) (a_13:TV) (a_14:TV) (a_15:TV) (st:St) (K:Bool->St->Prop) (h:need (isSl a_2) (BId ((0:Int)<(lenS a_2:Int)) (BIf a_0 (BIf (!a_0) (K true st) (CallT PR BG [(.agg (cV a_3 a_4 a_5 a_6 a_7 a_8 a_9 a_10 a_11 a_12 a_13 a_14 a_15))] [.one .bool] st (fun (b1:Bool) a=>K b1 a))) (BIf (!a_1) (BIf (!a_0) (K true st) (CallT PR BG [(.agg (cV a_3 a_4 a_5 a_6 a_7 a_8 a_9 a_10 a_11 a_12 a_13 a_14 a_15))] [.one .bool] st (fun (b2:Bool) b=>K b2 b))) (K false st))) (K false st))):CallT PR BR [(.agg [.bool a_0,.bool a_1,a_2,.int .i64 a_3,.bool a_4,.bool a_5,.str a_6,.int .i64 a_7,.int .i64 a_8,.int .i64 a_9,.int .i64 a_10,.int .i64 a_11,.str a_12,a_13,a_14,a_15])] [.one .bool] st K:=
 Aj (cfg:=⟨[1],[],[]⟩) (h:= .none) mixed (fun _ _=>Tryd.call40 _ _) Tryd.func40 (by kernel_rfl) (by kernel_rfl) h
theorem Ei (b:Nat) (t:Nat) (a_0:Bool) (a_1:Bool) (a_2:TV) (a_3:Int) (a_4:Bool) (a_5:Bool) (a_6:B8) (a_7:Int) (a_8:Int) (a_9:Int) (a_10:Int) (a_11:Int) (a_12:B8) (a_13:TV) (a_14:TV) (a_15:TV) (st:St) (K:TV->Bool->St->Prop) (h:need (isSl a_2) (((isLst 1 a_2=true/\0<=(i64.wrap ((lenS a_2:Int)-(1:Int)))/\(i64.wrap ((lenS a_2:Int)-(1:Int)))<=(lenS a_2:Int))/\need (isSl (slT 1 .non a_2 0 (Int.toNat (i64.wrap ((lenS a_2:Int)-(1:Int)))))) (∃(I1:TV->Int->TV->TV->Int->Bool->Bool->TV->V13 (St->Prop)) (M1:TV->Int->TV->TV->Int->Bool->Bool->TV->V13 (St->Nat)),(I1 ((.box t 0)) 0 ((.box b 0)) ((slT 1 .non a_2 0 (Int.toNat (i64.wrap ((lenS a_2:Int)-(1:Int)))))) ((lenS (slT 1 .non a_2 0 (Int.toNat (i64.wrap ((lenS a_2:Int)-(1:Int))))):Int)) a_0 a_1 a_2 a_3 a_4 a_5 a_6 a_7 a_8 a_9 a_10 a_11 a_12 a_13 a_14 a_15 st)/\∀d c g e f b1 b2 v1 n1 b3 b4 s1 n2 n3 n4 n5 n6 s2 v2 v3 v4 a,I1 d c g e f b1 b2 v1 n1 b3 b4 s1 n2 n3 n4 n5 n6 s2 v2 v3 v4 a->(BId (c<f) (((0<=c/\c<(lenZ 1 e:Int))/\Al (Ac a [] (.t (ixT 1 e c.toNat)) 0) (fun (x1:TV)=>A1 .str x1 (fun (s3:B8)=>need (isPtr d) (need (isPtr d) (Al (Ac a [] (.t (AE d 1)) 0) (fun (v5:TV)=>Al (Dn a v5) (fun (es1:List (B8×TV))=>need (Em (Ao .nilPtr (As s3 es1))) (BIf (Ce (Ao .nilPtr (As s3 es1))) (need (isPtr d) (need (isPtr d) (Al (Ac a [] (.t (AE d 2)) 0) (fun (x3:TV)=>A1 (.int .i64) x3 (fun (n7:Int)=>CallT PR Au [g,(.int .i64 (i64.wrap (n7+(1:Int))))] [.one .tv] a (fun (v6:TV) m=>need (List.all [v6] Aq) (CallT PR AB [d,.str s3,(.box m.nb 0)] [] (m.push (.cells [v6,.nilSlice,.int .i64 0,.bool false,.bool false,(.str []),.int .i64 0,.int .i64 0,.int .i64 0,.int .i64 0,.int .i64 0,(.str []),.nilSlice,.nilSlice,.nilSlice,.int .i64 0]) (some 81)) (fun (l:St)=>(I1 v6 ((i64.wrap (c+(1:Int)))) g e f b1 b2 v1 n1 b3 b4 s1 n2 n3 n4 n5 n6 s2 v2 v3 v4 l/\M1 v6 ((i64.wrap (c+(1:Int)))) g e f b1 b2 v1 n1 b3 b4 s1 n2 n3 n4 n5 n6 s2 v2 v3 v4 l<M1 d c g e f b1 b2 v1 n1 b3 b4 s1 n2 n3 n4 n5 n6 s2 v2 v3 v4 a))))))))) (need (isPtr (Ao .nilPtr (As s3 es1))) (need (isPtr (Ao .nilPtr (As s3 es1))) (Al (Ac a [] (.t (AE (Ao .nilPtr (As s3 es1)) 0)) 0) (fun (v7:TV)=>need (Em v7) (BIf (!Ce v7) (need (isPtr (Ao .nilPtr (As s3 es1))) (need (isPtr (Ao .nilPtr (As s3 es1))) (Al (Ac a [] (.t (AE (Ao .nilPtr (As s3 es1)) 0)) 0) (fun (v8:TV)=>(I1 v8 ((i64.wrap (c+(1:Int)))) g e f b1 b2 v1 n1 b3 b4 s1 n2 n3 n4 n5 n6 s2 v2 v3 v4 a/\M1 v8 ((i64.wrap (c+(1:Int)))) g e f b1 b2 v1 n1 b3 b4 s1 n2 n3 n4 n5 n6 s2 v2 v3 v4 a<M1 d c g e f b1 b2 v1 n1 b3 b4 s1 n2 n3 n4 n5 n6 s2 v2 v3 v4 a))))) (need (isPtr (Ao .nilPtr (As s3 es1))) (need (isPtr (Ao .nilPtr (As s3 es1))) (Al (Ac a [] (.t (AE (Ao .nilPtr (As s3 es1)) 1)) 0) (fun (v9:TV)=>need (isSl v9) (BId ((0:Int)<(lenS v9:Int)) (BIf b1 (need (isPtr (Ao .nilPtr (As s3 es1))) (need (isPtr (Ao .nilPtr (As s3 es1))) (Al (Ac a [] (.t (AE (Ao .nilPtr (As s3 es1)) 1)) 0) (fun (k:TV)=>need (isPtr (Ao .nilPtr (As s3 es1))) (need (isPtr (Ao .nilPtr (As s3 es1))) (Al (Ac a [] (.t (AE (Ao .nilPtr (As s3 es1)) 1)) 0) (fun (i:TV)=>need (isSl i) (((0<=(i64.wrap ((lenS i:Int)-(1:Int)))/\(i64.wrap ((lenS i:Int)-(1:Int)))<(lenZ 1 k:Int))/\Al (Ac a [] (.t (ixT 1 k (Int.toNat (i64.wrap ((lenS i:Int)-(1:Int)))))) 0) (fun (j:TV)=>(I1 j ((i64.wrap (c+(1:Int)))) g e f b1 b2 v1 n1 b3 b4 s1 n2 n3 n4 n5 n6 s2 v2 v3 v4 a/\M1 j ((i64.wrap (c+(1:Int)))) g e f b1 b2 v1 n1 b3 b4 s1 n2 n3 n4 n5 n6 s2 v2 v3 v4 a<M1 d c g e f b1 b2 v1 n1 b3 b4 s1 n2 n3 n4 n5 n6 s2 v2 v3 v4 a))))))))))) (K .nilPtr false a)) (K .nilPtr false a)))))))))))))))))))) (K d true a)))))):CallT PR Bq [(.box b 0),(.box t 0),(.agg [.bool a_0,.bool a_1,a_2,.int .i64 a_3,.bool a_4,.bool a_5,.str a_6,.int .i64 a_7,.int .i64 a_8,.int .i64 a_9,.int .i64 a_10,.int .i64 a_11,.str a_12,a_13,a_14,a_15])] [.one .tv,.one .bool] st K:=
 Aj (cfg:=⟨[5],[],[]⟩) (h:=(.seq .none (.seq (.seq .none (.block (.loop ⟨[(1,.tv),(20,.int .i64),(0,.tv),(18,.tv),(19,.int .i64)],[(5,0,0)],[(0,16)],[(0,0,.bool),(0,1,.bool),(0,2,.tv),(0,3,.int .i64),(0,4,.bool),(0,5,.bool),(0,6,.str),(0,7,.int .i64),(0,8,.int .i64),(0,9,.int .i64),(0,10,.int .i64),(0,11,.int .i64),(0,12,.str),(0,13,.tv),(0,14,.tv),(0,15,.tv)]⟩ .none))) .none))) mixed (fun _ _=>Tryd.call41 _ _) Tryd.func41 (by kernel_rfl) (by kernel_rfl) h
theorem DJ (b:Nat) (t:Nat) (key:B8) (st:St) (K:Int->St->Prop) (h:Al (Ac st [] (.t (.box t 1)) 0) (fun (v1:TV)=>Al (Dn st v1) (fun (es1:List (B8×TV))=>need (Em (Ao .nilPtr (As key es1))) (BIf (Ce (Ao .nilPtr (As key es1))) (CallT PR AB [(.box t 0),.str key,(.box st.nb 0)] [] (st.push (.cells [.nilPtr,.nilSlice,.int .i64 0,.bool false,.bool false,(.str []),.int .i64 0,.int .i64 0,.int .i64 0,.int .i64 0,.int .i64 0,(.str []),.nilSlice,.nilSlice,.nilSlice,.int .i64 0]) (some 81)) (fun (e:St)=>Al (Ac e [] (.t (.box b 3)) 0) (fun (x2:TV)=>A1 (.int .i64) x2 (fun (n1:Int)=>stB e (.box b 3) [(.int .i64 (i64.wrap (n1+(1:Int))))] (fun f=>Al (Ac f [] (.t (.box t 2)) 0) (fun (x3:TV)=>A1 (.int .i64) x3 (fun (n2:Int)=>CallT PR Au [(.box b 0),(.int .i64 (i64.wrap (n2+(2:Int))))] [.one .tv] f (fun (v2:TV) l=>need (List.all [v2] Aq) (stB l (.box b 1) [v2] (fun c=>Al (Ac c [] (.t (.box st.nb 1)) 0) (fun (v3:TV)=>Al (Ac c [] (.t (.box b 1)) 0) (fun (v4:TV)=>need (List.all [v4] Aq) (need (List.all [v4] Aq) (Cf 61 1 8 v3 1 [v4] c (fun (v5:TV) i=>need (List.all [v5] Aq) (stB i (.box st.nb 1) [v5] (fun m=>K 0 m))))))))))))))))) (need (isPtr (Ao .nilPtr (As key es1))) (need (isPtr (Ao .nilPtr (As key es1))) (Al (Ac st [] (.t (AE (Ao .nilPtr (As key es1)) 1)) 0) (fun (v6:TV)=>need (isSl v6) (BId ((lenS v6:Int)=(0:Int)) (K 6 st) (Al (Ac st [] (.t (.box t 2)) 0) (fun (x7:TV)=>A1 (.int .i64) x7 (fun (n3:Int)=>CallT PR Au [(.box b 0),(.int .i64 (i64.wrap (n3+(2:Int))))] [.one .tv] st (fun (v7:TV) j=>need (List.all [v7] Aq) (stB j (.box b 1) [v7] (fun a=>need (isPtr (Ao .nilPtr (As key es1))) (need (isPtr (Ao .nilPtr (As key es1))) (Al (Ac a [] (.t (AE (Ao .nilPtr (As key es1)) 1)) 0) (fun (v8:TV)=>Al (Ac a [] (.t (.box b 1)) 0) (fun (v9:TV)=>need (List.all [v9] Aq) (need (List.all [v9] Aq) (Cf 61 1 8 v8 1 [v9] a (fun (d:TV) k=>need (isPtr (Ao .nilPtr (As key es1))) (need (isPtr (Ao .nilPtr (As key es1))) (need (List.all [d] Aq) (stB k (AE (Ao .nilPtr (As key es1)) 1) [d] (fun g=>K 0 g)))))))))))))))))))))))))):CallT PR Bg [(.box b 0),(.box t 0),.str key] [.one (.int .i64)] st K:=
 Aj (cfg:=⟨[],[],[]⟩) (h:= .none) mixed (fun _ _=>Tryd.call42 _ _) Tryd.func42 (by kernel_rfl) (by kernel_rfl) h
theorem D3 (b:Nat) (t:Nat) (key:B8) (st:St) (K:Int->St->Prop) (h:Al (Ac st [] (.t (.box t 1)) 0) (fun (v1:TV)=>Al (Dn st v1) (fun (es1:List (B8×TV))=>need (Em (Ao .nilPtr (As key es1))) (BIf (Ce (Ao .nilPtr (As key es1))) (Al (Ac st [] (.t (.box t 2)) 0) (fun (x2:TV)=>A1 (.int .i64) x2 (fun (n1:Int)=>CallT PR Au [(.box b 0),(.int .i64 (i64.wrap (n1+(1:Int))))] [.one .tv] st (fun (v2:TV) c=>need (List.all [v2] Aq) (CallT PR AB [(.box t 0),.str key,(.box c.nb 0)] [] (c.push (.cells [v2,.nilSlice,.int .i64 0,.bool false,.bool false,(.str []),.int .i64 0,.int .i64 0,.int .i64 0,.int .i64 0,.int .i64 0,(.str []),.nilSlice,.nilSlice,.nilSlice,.int .i64 0]) (some 81)) (fun (a:St)=>Al (Ac a [] (.t (.box c.nb 0)) 0) (fun (v3:TV)=>need (Em v3) (BIf (Ce v3) (K 8 a) (Al (Ac a [] (.t (.box b 2)) 0) (fun (v4:TV)=>Al (Ac a [] (.t (.box c.nb 0)) 0) (fun (v5:TV)=>Al (plook a v4 v5 false (.bool false)) (fun (x6:TV)=>A1 .bool x6 (fun (b1:Bool)=>BIf (!b1) (K 8 a) (Al (Ac a [] (.t (.box b 2)) 0) (fun (v6:TV)=>Al (Ac a [] (.t (.box c.nb 0)) 0) (fun (v7:TV)=>pdK v6 v7 a (fun f=>Al (Ac f [] (.t (.box c.nb 0)) 0) (fun (v8:TV)=>need (List.all [v8] Aq) (stB f (.box b 1) [v8] (fun n=>K 0 n)))))))))))))))))))) (need (isPtr (Ao .nilPtr (As key es1))) (need (isPtr (Ao .nilPtr (As key es1))) (Al (Ac st [] (.t (AE (Ao .nilPtr (As key es1)) 0)) 0) (fun (v9:TV)=>need (Em v9) (BIf (Ce v9) (K 8 st) (Al (Ac st [] (.t (.box b 2)) 0) (fun (l:TV)=>need (isPtr (Ao .nilPtr (As key es1))) (need (isPtr (Ao .nilPtr (As key es1))) (Al (Ac st [] (.t (AE (Ao .nilPtr (As key es1)) 0)) 0) (fun (k:TV)=>Al (plook st l k false (.bool false)) (fun (j:TV)=>A1 .bool j (fun (b2:Bool)=>BIf (!b2) (K 8 st) (Al (Ac st [] (.t (.box b 2)) 0) (fun (g:TV)=>need (isPtr (Ao .nilPtr (As key es1))) (need (isPtr (Ao .nilPtr (As key es1))) (Al (Ac st [] (.t (AE (Ao .nilPtr (As key es1)) 0)) 0) (fun (i:TV)=>pdK g i st (fun e=>need (isPtr (Ao .nilPtr (As key es1))) (need (isPtr (Ao .nilPtr (As key es1))) (Al (Ac e [] (.t (AE (Ao .nilPtr (As key es1)) 0)) 0) (fun (d:TV)=>need (List.all [d] Aq) (stB e (.box b 1) [d] (fun m=>K 0 m))))))))))))))))))))))))))):CallT PR Bj [(.box b 0),(.box t 0),.str key] [.one (.int .i64)] st K:=
 Aj (cfg:=⟨[],[],[]⟩) (h:= .none) mixed (fun _ _=>Tryd.call43 _ _) Tryd.func43 (by kernel_rfl) (by kernel_rfl) h
theorem FB (t:Nat) (key:B8) (e:Nat) (st:St) (K:St->Prop) (h:Al (Ac st [] (.t (.box t 0)) 0) (fun (v1:TV)=>Cf 9 1 16 v1 1 [.str key] st (fun (v2:TV) c=>need (List.all [v2] Aq) (stB c (.box t 0) [v2] (fun a=>Al (Ac a [] (.t (.box t 1)) 0) (fun (v3:TV)=>muK v3 key (.box e 0) a (fun b=>K b))))))):CallT PR AB [(.box t 0),.str key,(.box e 0)] [] st K:=
 Aj (cfg:=⟨[],[],[]⟩) (h:= .none) mixed (fun _ _=>Tryd.call44 _ _) Tryd.func44 (by kernel_rfl) (by kernel_rfl) h
theorem JN (v_0:Int) (v_1:Bool) (v_2:Bool) (v_3:B8) (v_4:Int) (v_5:Int) (v_6:Int) (v_7:Int) (v_8:Int) (v_9:B8) (v_10:TV) (v_11:TV) (v_12:TV) (st:St) (K:Int->St->Prop) (h:CallT PR CW [(.agg (cV v_0 v_1 v_2 v_3 v_4 v_5 v_6 v_7 v_8 v_9 v_10 v_11 v_12)),.int .i64 65536] [.one (.int .i64)] st (fun (n1:Int) a=>K n1 a)):CallT PR Er [(.agg (cV v_0 v_1 v_2 v_3 v_4 v_5 v_6 v_7 v_8 v_9 v_10 v_11 v_12))] [.one (.int .i64)] st K:=
 Aj (cfg:=⟨[1],[],[]⟩) (h:= .none) mixed (fun _ _=>Tryd.call45 _ _) Tryd.func45 (by kernel_rfl) (by kernel_rfl) h
theorem IB (v_0:Int) (v_1:Bool) (v_2:Bool) (v_3:B8) (v_4:Int) (v_5:Int) (v_6:Int) (v_7:Int) (v_8:Int) (v_9:B8) (v_10:TV) (v_11:TV) (v_12:TV) (st:St) (K:Int->St->Prop) (h:CallT PR CY [(.agg (cV v_0 v_1 v_2 v_3 v_4 v_5 v_6 v_7 v_8 v_9 v_10 v_11 v_12)),.int .i64 65536] [.one (.int .i64)] st (fun (n1:Int) a=>K n1 a)):CallT PR DS [(.agg (cV v_0 v_1 v_2 v_3 v_4 v_5 v_6 v_7 v_8 v_9 v_10 v_11 v_12))] [.one (.int .i64)] st K:=
 Aj (cfg:=⟨[1],[],[]⟩) (h:= .none) mixed (fun _ _=>Tryd.call46 _ _) Tryd.func46 (by kernel_rfl) (by kernel_rfl) h
theorem BS (s:TV) (f:TV) (st:St) (K:Bool->St->Prop) (h:CallT PR Bb [s,f] [.one (.int .i64)] st (fun (n1:Int) a=>K ((decide ((0:Int)<=n1))) a)):CallT PR Ar [s,f] [.one .bool] st K:=
 Aj (cfg:=⟨[],[],[]⟩) (h:= .none) mixed (fun _ _=>Tryd.call47 _ _) Tryd.func47 (by kernel_rfl) (by kernel_rfl) h
theorem ID (s:B8) (st:St) (K:Bool->St->Prop) (h:CallT PR Do [.str s] [.one .bool] st (fun (b1:Bool) a=>BIf (!b1) (K true a) (K ((decide ((1024:Int)<(s.length:Int)))) a))):CallT PR AX [.str s] [.one .bool] st K:=
 Aj (cfg:=⟨[],[],[]⟩) (h:= .none) mixed (fun _ _=>Tryd.call48 _ _) Tryd.func48 (by kernel_rfl) (by kernel_rfl) h
theorem Ii (s:B8) (st:St) (K:Bool->St->Prop) (h:BId ((s.length:Int)<=(600:Int)) (CallT PR Eu [.str s] [.one .bool] st (fun (b1:Bool) a=>BIf b1 (BId (s=([]:B8)) (K true a) (((0<=(0:Int)/\(0:Int)<(s.length:Int))/\K ((decide (((List.getD s (Int.toNat (0:Int)) 0).toNat:Int)≠(48:Int)))) a))) (K false a))) (K false st)):CallT PR Di [.str s] [.one .bool] st K:=
 Aj (cfg:=⟨[],[],[]⟩) (h:= .none) mixed (fun _ _=>Tryd.call51 _ _) Tryd.func51 (by kernel_rfl) (by kernel_rfl) h
theorem Ih (a:B8) (st:St) (K:Int->St->Prop) (h:CallT PR C8 [.str a,.str str6] [.one .str] st (fun (s1:B8) b=>K ((i64.wrap ((a.length:Int)-(s1.length:Int)))) b)):CallT PR Dh [.str a] [.one (.int .i64)] st K:=
 Aj (cfg:=⟨[],[],[]⟩) (h:= .none) mixed (fun _ _=>Tryd.call52 _ _) Tryd.func52 (by kernel_rfl) (by kernel_rfl) h
theorem M9 (s:B8) (st:St) (K:Int->Int->St->Prop) (h:∃(I1:Int->Int->B8->St->Prop) (M1:Int->Int->B8->St->Nat),(I1 0 0 s st)/\∀c a b d,I1 c a b d->(BId (a<(b.length:Int)) (CallT PR Et [.str b,.int .i64 a] [.one (.int .i64),.one (.int .i64)] d (fun (n1 n2:Int) e=>BId (n2=0) (K 0 5 e) ((I1 ((i64.wrap (c+(1:Int)))) ((i64.wrap (a+n2))) b e/\M1 ((i64.wrap (c+(1:Int)))) ((i64.wrap (a+n2))) b e<M1 c a b d)))) (K c 0 d))):CallT PR GM [.str s] [.one (.int .i64),.one (.int .i64)] st K:=
 Aj (cfg:=⟨[],[],[]⟩) (h:=(.seq .none (.seq .none (.seq (.seq .none (.block (.loop ⟨[(4,.int .i64),(5,.int .i64),(0,.str)],[],[],[]⟩ .none))) .none)))) mixed (fun _ _=>Tryd.call53 _ _) Tryd.func53 (by kernel_rfl) (by kernel_rfl) h
theorem KS (s:B8) (st:St) (K:Int->St->Prop) (h:CallT PR Dx [.str s] [.one .bool] st (fun (b1:Bool) a=>BIf (!b1) (K 5 a) (BId ((1024:Int)<(s.length:Int)) (K 10 a) (K 0 a)))):CallT PR Fc [.str s] [.one (.int .i64)] st K:=
 Aj (cfg:=⟨[],[],[]⟩) (h:= .none) mixed (fun _ _=>Tryd.call54 _ _) Tryd.func54 (by kernel_rfl) (by kernel_rfl) h
theorem Df (s:TV) (st:St) (K:TV->St->Prop) (h:need (isSl s) (BIf (Ce s) (K .nilSlice st) (Al (CG st 1 s) (fun (q1:Nat×List TV)=>need (List.all q1.2 Aq) (Hm 5 1 1 (.list 1 .full 0 []) q1.1 q1.2 st (fun (v1:TV) a=>K v1 a)))))):CallT PR A9 [s] [.one .tv] st K:=
 Aj (cfg:=⟨[],[7],[]⟩) (h:= .none) mixed (fun _ _=>Tryd.call55 _ _) Tryd.func55 (by kernel_rfl) (by kernel_rfl) h
theorem If (v_0:Int) (v_1:Bool) (v_2:Bool) (v_3:B8) (v_4:Int) (v_5:Int) (v_6:Int) (v_7:Int) (v_8:Int) (v_9:B8) (v_10:TV) (v_11:TV) (v_12:TV) (st:St) (K:Bool->St->Prop) (h:BId (v_0=0) (BIf (!v_1) (BIf ((v_2==false)&&(decide (v_3=([]:B8))&&(decide (v_4=(0:Int))&&true))) (BIf (decide (v_5=(0:Int))&&(decide (v_6=(0:Int))&&(decide (v_7=(0:Int))&&(decide (v_8=(0:Int))&&true)))) (BId (v_9=([]:B8)) (need (isSl v_10) (BId ((lenS v_10:Int)=(0:Int)) (need (isSl v_11) (BId ((lenS v_11:Int)=(0:Int)) (need (isSl v_12) (K ((decide ((lenS v_12:Int)=(0:Int)))) st)) (K false st))) (K false st))) (K false st)) (K false st)) (K false st)) (K false st)) (K false st)):CallT PR BG [(.agg (cV v_0 v_1 v_2 v_3 v_4 v_5 v_6 v_7 v_8 v_9 v_10 v_11 v_12))] [.one .bool] st K:=
 Aj (cfg:=⟨[1],[],[]⟩) (h:= .none) mixed (fun _ _=>Tryd.call60 _ _) Tryd.func60 (by kernel_rfl) (by kernel_rfl) h
theorem JJ (v_0:Int) (b:Bool) (v_2:Bool) (v_3:B8) (v_4:Int) (v_5:Int) (v_6:Int) (v_7:Int) (v_8:Int) (v_9:B8) (v_10:TV) (v_11:TV) (v_12:TV) (left:Int) (st:St) (K:Int->St->Prop) (h:BId (left<1) (K 1 st) (CallT PR CX [(.agg (cV v_0 b v_2 v_3 v_4 v_5 v_6 v_7 v_8 v_9 v_10 v_11 v_12))] [.one .tv] st (fun (v1:TV) i=>need (isSl v1) (∃(I1:Int->Int->Int->TV->Int->St->Prop) (M1:Int->Int->Int->TV->Int->St->Nat),(I1 1 0 left v1 ((lenS v1:Int)) i)/\∀e c a b d f,I1 e c a b d f->(BId (c<d) (((0<=c/\c<(lenZ 13 b:Int))/\Al ((Am f [] (.t (ixT 13 b c.toNat)) 0 13).map TV.agg) (fun (x1:TV)=>Dz [.int .i64,.bool,.bool,.str,.int .i64,.int .i64,.int .i64,.int .i64,.int .i64,.str,.tv,.tv,.tv] x1 (fun (n1:Int) (b1 b2:Bool) (s1:B8) (n2 n3 n4 n5 n6:Int) (s2:B8) (v2 v3 v4:TV)=>need (List.all (cV n1 b1 b2 s1 n2 n3 n4 n5 n6 s2 v2 v3 v4) Aq) (CallT PR CW [(.agg (cV n1 b1 b2 s1 n2 n3 n4 n5 n6 s2 v2 v3 v4)),(.int .i64 (i64.wrap (a-(1:Int))))] [.one (.int .i64)] f (fun (n7:Int) g=>(I1 ((i64.wrap (e+n7))) ((i64.wrap (c+(1:Int)))) a b d g/\M1 ((i64.wrap (e+n7))) ((i64.wrap (c+(1:Int)))) a b d g<M1 e c a b d f))))))) (K e f)))))):CallT PR CW [(.agg (cV v_0 b v_2 v_3 v_4 v_5 v_6 v_7 v_8 v_9 v_10 v_11 v_12)),.int .i64 left] [.one (.int .i64)] st K:=
 Aj (cfg:=⟨[2,7],[],[]⟩) (h:=(.seq .none (.seq .none (.seq .none (.seq (.seq .none (.block (.loop ⟨[(5,.int .i64),(14,.int .i64),(1,.int .i64),(12,.tv),(13,.int .i64)],[],[],[]⟩ .none))) .none))))) mixed (fun _ _=>Tryd.call61 _ _) Tryd.func61 (by kernel_rfl) (by kernel_rfl) h
theorem JM (v_0:Int) (b:Bool) (v_2:Bool) (v_3:B8) (v_4:Int) (v_5:Int) (v_6:Int) (v_7:Int) (v_8:Int) (v_9:B8) (v_10:TV) (v_11:TV) (v_12:TV) (left:Int) (st:St) (K:Int->St->Prop) (h:BId (left<=1) (K 1 st) (CallT PR CX [(.agg (cV v_0 b v_2 v_3 v_4 v_5 v_6 v_7 v_8 v_9 v_10 v_11 v_12))] [.one .tv] st (fun (v1:TV) i=>need (isSl v1) (∃(I1:Int->Int->Int->TV->Int->St->Prop) (M1:Int->Int->Int->TV->Int->St->Nat),(I1 1 0 left v1 ((lenS v1:Int)) i)/\∀e c a b d f,I1 e c a b d f->(BId (c<d) (((0<=c/\c<(lenZ 13 b:Int))/\Al ((Am f [] (.t (ixT 13 b c.toNat)) 0 13).map TV.agg) (fun (x1:TV)=>Dz [.int .i64,.bool,.bool,.str,.int .i64,.int .i64,.int .i64,.int .i64,.int .i64,.str,.tv,.tv,.tv] x1 (fun (n1:Int) (b1 b2:Bool) (s1:B8) (n2 n3 n4 n5 n6:Int) (s2:B8) (v2 v3 v4:TV)=>need (List.all (cV n1 b1 b2 s1 n2 n3 n4 n5 n6 s2 v2 v3 v4) Aq) (CallT PR CY [(.agg (cV n1 b1 b2 s1 n2 n3 n4 n5 n6 s2 v2 v3 v4)),(.int .i64 (i64.wrap (a-(1:Int))))] [.one (.int .i64)] f (fun (n7:Int) g=>(I1 ((max e (i64.wrap ((1:Int)+n7)))) ((i64.wrap (c+(1:Int)))) a b d g/\M1 ((max e (i64.wrap ((1:Int)+n7)))) ((i64.wrap (c+(1:Int)))) a b d g<M1 e c a b d f))))))) (K e f)))))):CallT PR CY [(.agg (cV v_0 b v_2 v_3 v_4 v_5 v_6 v_7 v_8 v_9 v_10 v_11 v_12)),.int .i64 left] [.one (.int .i64)] st K:=
 Aj (cfg:=⟨[2,7],[],[]⟩) (h:=(.seq .none (.seq .none (.seq .none (.seq (.seq .none (.block (.loop ⟨[(5,.int .i64),(14,.int .i64),(1,.int .i64),(12,.tv),(13,.int .i64)],[],[],[]⟩ .none))) .none))))) mixed (fun _ _=>Tryd.call62 _ _) Tryd.func62 (by kernel_rfl) (by kernel_rfl) h
theorem Cc (s:TV) (f:TV) (st:St) (K:Int->St->Prop) (h:need (isSl s) (∃(I1:Int->TV->TV->Int->St->Prop) (M1:Int->TV->TV->Int->St->Nat),(I1 0 s f ((lenS s:Int)) st)/\∀a b d c e,I1 a b d c e->(BId (a<c) (((0<=a/\a<(lenZ 1 b:Int))/\Al (Ac e [] (.t (ixT 1 b a.toNat)) 0) (fun (x1:TV)=>A1 .str x1 (fun (s1:B8)=>OC PR d [.str s1] [.one .bool] e (fun (b1:Bool) g=>BIf b1 (K a g) ((I1 ((i64.wrap (a+(1:Int)))) b d c g/\M1 ((i64.wrap (a+(1:Int)))) b d c g<M1 a b d c e))))))) (K (-1) e)))):CallT PR Bb [s,f] [.one (.int .i64)] st K:=
 Aj (cfg:=⟨[],[],[]⟩) (h:=(.seq .none (.seq (.seq .none (.block (.loop ⟨[(8,.int .i64),(0,.tv),(1,.tv),(7,.int .i64)],[],[],[]⟩ .none))) .none))) mixed (fun _ _=>Tryd.call63 _ _) Tryd.func63 (by kernel_rfl) (by kernel_rfl) h
theorem JR (s:B8) (st:St) (K:Bool->St->Prop) (h:∃(I1:Int->B8->Int->St->Prop) (M1:Int->B8->Int->St->Nat),(I1 0 s ((s.length:Int)) st)/\∀a b d c,I1 a b d c->(BId (a<d) (((0<=a/\a<(b.length:Int))/\BId (((List.getD b a.toNat 0).toNat:Int)<(48:Int)) (K false c) (((0<=a/\a<(b.length:Int))/\BId ((57:Int)<((List.getD b a.toNat 0).toNat:Int)) (K false c) ((I1 ((i64.wrap (a+(1:Int)))) b d c/\M1 ((i64.wrap (a+(1:Int)))) b d c<M1 a b d c)))))) (K true c))):CallT PR Eu [.str s] [.one .bool] st K:=
 Aj (cfg:=⟨[],[],[]⟩) (h:=(.seq .none (.seq (.seq .none (.block (.loop ⟨[(6,.int .i64),(0,.str),(5,.int .i64)],[],[],[]⟩ .none))) .none))) mixed (fun _ _=>Tryd.call66 _ _) Tryd.func66 (by kernel_rfl) (by kernel_rfl) h
theorem JQ (s:B8) (atx:Int) (st:St) (K:Int->Int->St->Prop) (h:BId (atx<0) (K 0 0 st) (BId ((s.length:Int)<=atx) (K 0 0 st) (((0<=atx/\atx<(s.length:Int))/\CallT PR FS [(.int .u8 ((List.getD s atx.toNat 0).toNat:Int))] [.one (.int .i64),.one (.int .i64)] st (fun (n1 n2:Int) g=>BId (n1=0) (K 0 0 g) (BId ((i64.wrap ((s.length:Int)-atx))<n1) (K 0 0 g) (∃(I1:Int->Int->B8->Int->Int->St->Prop) (M1:Int->Int->B8->Int->Int->St->Nat),(I1 n2 1 s atx n1 g)/\∀d b c a e f,I1 d b c a e f->(BId (b<e) (((0<=(i64.wrap (a+b))/\(i64.wrap (a+b))<(c.length:Int))/\BId ((BL .and .u8 ((List.getD c (Int.toNat (i64.wrap (a+b))) 0).toNat:Int) (192:Int))≠(128:Int)) (K 0 0 f) ((I1 ((BL .or .i64 (i64.wrap (d*2^(min (Int.toNat (6:Int)) (IntKind.bits .i64)))) (i64.wrap (BL .and .u8 ((List.getD c (Int.toNat (i64.wrap (a+b))) 0).toNat:Int) (63:Int))))) ((i64.wrap (b+(1:Int)))) c a e f/\M1 ((BL .or .i64 (i64.wrap (d*2^(min (Int.toNat (6:Int)) (IntKind.bits .i64)))) (i64.wrap (BL .and .u8 ((List.getD c (Int.toNat (i64.wrap (a+b))) 0).toNat:Int) (63:Int))))) ((i64.wrap (b+(1:Int)))) c a e f<M1 d b c a e f)))) (CallT PR Es [.int .i64 d] [.one .bool] f (fun (b1:Bool) i=>BIf (!b1) (K 0 0 i) (CallT PR Fe [.int .i64 d] [.one (.int .i64)] i (fun (n3:Int) j=>BId (n3≠e) (K 0 0 j) (K d e j))))))))))))):CallT PR Et [.str s,.int .i64 atx] [.one (.int .i64),.one (.int .i64)] st K:=
 Aj (cfg:=⟨[],[],[]⟩) (h:=(.seq .none (.seq .none (.seq .none (.seq .none (.seq (.seq .none (.block (.loop ⟨[(4,.int .i64),(7,.int .i64),(0,.str),(1,.int .i64),(6,.int .i64)],[],[],[]⟩ .none))) .none)))))) mixed (fun _ _=>Tryd.call68 _ _) Tryd.func68 (by kernel_rfl) (by kernel_rfl) h
theorem JK (v_0:Int) (a:Bool) (v_2:Bool) (v_3:B8) (v_4:Int) (v_5:Int) (v_6:Int) (v_7:Int) (v_8:Int) (v_9:B8) (v_10:TV) (v_11:TV) (v_12:TV) (st:St) (K:TV->St->Prop) (h:CallT PR AM [v_11] [.one .tv] st (fun (v1:TV) g=>need (isSl v_12) (∃(I1:TV->Int->TV->Int->St->Prop) (M1:TV->Int->TV->Int->St->Nat),(I1 v1 0 v_12 ((lenS v_12:Int)) g)/\∀e b a c d,I1 e b a c d->(BId (b<c) (((0<=b/\b<(lenZ 14 a:Int))/\Al ((Am d [] (.t (ixT 14 a b.toNat)) 0 14).map TV.agg) (fun (x1:TV)=>Dz [.str,.int .i64,.bool,.bool,.str,.int .i64,.int .i64,.int .i64,.int .i64,.int .i64,.str,.tv,.tv,.tv] x1 (fun (s1:B8) (n1:Int) (b1 b2:Bool) (s2:B8) (n2 n3 n4 n5 n6:Int) (s3:B8) (v2 v3 v4:TV)=>need (List.all [.str s1,.int .i64 n1,.bool b1,.bool b2,.str s2,.int .i64 n2,.int .i64 n3,.int .i64 n4,.int .i64 n5,.int .i64 n6,.str s3,v2,v3,v4] Aq) (need (List.all (cV n1 b1 b2 s2 n2 n3 n4 n5 n6 s3 v2 v3 v4) Aq) (Cf 37 13 168 e 1 (cV n1 b1 b2 s2 n2 n3 n4 n5 n6 s3 v2 v3 v4) d (fun (v5:TV) f=>(I1 v5 ((i64.wrap (b+(1:Int)))) a c f/\M1 v5 ((i64.wrap (b+(1:Int)))) a c f<M1 e b a c d)))))))) (K e d))))):CallT PR CX [(.agg (cV v_0 a v_2 v_3 v_4 v_5 v_6 v_7 v_8 v_9 v_10 v_11 v_12))] [.one .tv] st K:=
 Aj (cfg:=⟨[1,5],[],[]⟩) (h:=(.seq .none (.seq .none (.seq (.seq .none (.block (.loop ⟨[(3,.tv),(12,.int .i64),(10,.tv),(11,.int .i64)],[],[],[]⟩ .none))) .none)))) mixed (fun _ _=>Tryd.call71 _ _) Tryd.func71 (by kernel_rfl) (by kernel_rfl) h
theorem LQ (b:Int) (st:St) (K:Int->Int->St->Prop) (h:BId (b<128) (K 1 ((i64.wrap b)) st) (BId ((192:Int)<=b) (BId (b<224) (K 2 ((i64.wrap (BL .and .u8 b (31:Int)))) st) (BId ((224:Int)<=b) (BId (b<240) (K 3 ((i64.wrap (BL .and .u8 b (15:Int)))) st) (BId ((240:Int)<=b) (BId (b<248) (K 4 ((i64.wrap (BL .and .u8 b (7:Int)))) st) (K 0 0 st)) (K 0 0 st))) (BId ((240:Int)<=b) (BId (b<248) (K 4 ((i64.wrap (BL .and .u8 b (7:Int)))) st) (K 0 0 st)) (K 0 0 st)))) (BId ((224:Int)<=b) (BId (b<240) (K 3 ((i64.wrap (BL .and .u8 b (15:Int)))) st) (BId ((240:Int)<=b) (BId (b<248) (K 4 ((i64.wrap (BL .and .u8 b (7:Int)))) st) (K 0 0 st)) (K 0 0 st))) (BId ((240:Int)<=b) (BId (b<248) (K 4 ((i64.wrap (BL .and .u8 b (7:Int)))) st) (K 0 0 st)) (K 0 0 st))))):CallT PR FS [.int .u8 b] [.one (.int .i64),.one (.int .i64)] st K:=
 Aj (cfg:=⟨[],[],[]⟩) (h:= .none) mixed (fun _ _=>Tryd.call77 _ _) Tryd.func77 (by kernel_rfl) (by kernel_rfl) h
theorem JP (r:Int) (st:St) (K:Bool->St->Prop) (h:BId ((0:Int)<=r) (BId (r<=1114111) (BId (r<55296) (K true st) (K ((decide ((57343:Int)<r))) st)) (K false st)) (K false st)):CallT PR Es [.int .i64 r] [.one .bool] st K:=
 Aj (cfg:=⟨[],[],[]⟩) (h:= .none) mixed (fun _ _=>Tryd.call78 _ _) Tryd.func78 (by kernel_rfl) (by kernel_rfl) h
theorem KT (r:Int) (st:St) (K:Int->St->Prop) (h:BId (r<128) (K 1 st) (BId (r<2048) (K 2 st) (BId (r<65536) (K 3 st) (K 4 st)))):CallT PR Fe [.int .i64 r] [.one (.int .i64)] st K:=
 Aj (cfg:=⟨[],[],[]⟩) (h:= .none) mixed (fun _ _=>Tryd.call79 _ _) Tryd.func79 (by kernel_rfl) (by kernel_rfl) h
theorem BU (s:TV) (st:St) (K:TV->St->Prop) (h:need (isSl s) (BIf (Ce s) (K .nilSlice st) (Al (CG st 13 s) (fun (q1:Nat×List TV)=>need (List.all q1.2 Aq) (Cf 37 13 168 (.list 13 .full 0 []) q1.1 q1.2 st (fun (v1:TV) a=>K v1 a)))))):CallT PR AM [s] [.one .tv] st K:=
 Aj (cfg:=⟨[],[],[]⟩) (h:= .none) mixed (fun _ _=>Tryd.call83 _ _) Tryd.func83 (by kernel_rfl) (by kernel_rfl) h
section
structure Sc where
 kind:Int
 b:Bool
 neg:Bool
 dg:B8
 ex:Int
 tk:Int
 td:Int
 tn:Int
 tz:Int
 text:B8
 bytes:B8
mutual
inductive Vl where
 | mk (s:Sc) (l:List Vl) (f:List Fd)
inductive Fd where
 | mk (k:B8) (v:Vl)
end
def Vl.sc:Vl->Sc | .mk s _ _=>s
def Vl.list:Vl->List Vl | .mk _ l _=>l
def Vl.flds:Vl->List Fd | .mk _ _ f=>f
def Fd.key:Fd->B8 | .mk k _=>k
def Fd.val:Fd->Vl | .mk _ v=>v
def SlR (st:St) (sz:Nat) (v:TV) (n:Nat) (xs:List TV):Prop:=
 Rd sz v n xs∨∃b off cap l,v= .ms sz b off n cap/\b<st.nb/\st.box b= .cells l/\off+cap*sz<=l.length/\n<=cap/\xs=(l.drop off).take (n*sz)
theorem SlR.of_rd {st:St} {sz n:Nat} {v:TV} {xs:List TV} (h:Rd sz v n xs):SlR st sz v n xs:= .inl h
def Bp (st st':St):Prop:=st.nb<=st'.nb/\∀b,b<st.nb->st'.box b=st.box b
theorem SlR.keep {st st':St} (k:Bp st st') {sz n:Nat} {v:TV} {xs:List TV} (h:SlR st sz v n xs):SlR st' sz v n xs:=by
 rcases h with h | ⟨b,off,cap,l,h1,h2,h3,h4,h5,h6⟩
 ·exact .inl h
 ·exact .inr ⟨b,off,cap,l,h1,Nat.lt_of_lt_of_le h2 k.1,(k.2 b h2).trans h3,h4,h5,h6⟩
mutual
def VlR (st:St):Vl->List TV->Prop
 | .mk s l f,cs=>∃ub ul uf xl xf,cs=[.int .i64 s.kind,.bool s.b,.bool s.neg,.str s.dg,.int .i64 s.ex,.int .i64 s.tk,.int .i64 s.td,.int .i64 s.tn,.int .i64 s.tz,.str s.text,ub,ul,uf]/\
   SlR st 1 ub s.bytes.length (AZ s.bytes)/\SlR st 13 ul l.length xl/\VsR st l xl/\SlR st 14 uf f.length xf/\FsR st f xf
def VsR (st:St):List Vl->List TV->Prop
 | [],xs=>xs=[]
 | v::r,xs=>∃a b,xs=a++b/\VlR st v a/\VsR st r b
def FdR (st:St):Fd->List TV->Prop
 | .mk k v,xs=>∃cs,xs= .str k::cs/\VlR st v cs
def FsR (st:St):List Fd->List TV->Prop
 | [],xs=>xs=[]
 | d::r,xs=>∃a b,xs=a++b/\FdR st d a/\FsR st r b
end
mutual
theorem VlR.keep {st st':St} (k:Bp st st'):∀{v:Vl} {cs:List TV},VlR st v cs->VlR st' v cs
 | .mk s l f,cs,h=>by
  unfold VlR at h⊢
  obtain⟨ub,ul,uf,xl,xf,h0,h1,h2,h3,h4,h5⟩:=h
  exact⟨ub,ul,uf,xl,xf,h0,h1.keep k,h2.keep k,VsR.keep k h3,h4.keep k,FsR.keep k h5⟩
theorem VsR.keep {st st':St} (k:Bp st st'):∀{l:List Vl} {cs:List TV},VsR st l cs->VsR st' l cs
 | [],cs,h=>by unfold VsR at h⊢;exact h
 | v::r,cs,h=>by
  unfold VsR at h⊢
  obtain⟨a,b,h0,h1,h2⟩:=h
  exact⟨a,b,h0,VlR.keep k h1,VsR.keep k h2⟩
theorem FdR.keep {st st':St} (k:Bp st st'):∀{d:Fd} {cs:List TV},FdR st d cs->FdR st' d cs
 | .mk key v,cs,h=>by
  unfold FdR at h⊢
  obtain⟨c,h0,h1⟩:=h
  exact⟨c,h0,VlR.keep k h1⟩
theorem FsR.keep {st st':St} (k:Bp st st'):∀{l:List Fd} {cs:List TV},FsR st l cs->FsR st' l cs
 | [],cs,h=>by unfold FsR at h⊢;exact h
 | d::r,cs,h=>by
  unfold FsR at h⊢
  obtain⟨a,b,h0,h1,h2⟩:=h
  exact⟨a,b,h0,FdR.keep k h1,FsR.keep k h2⟩
end
theorem VlR.len {st:St} {v:Vl} {cs:List TV} (h:VlR st v cs):cs.length=13:=by
 cases v;unfold VlR at h;obtain⟨ub,ul,uf,xl,xf,rfl,_⟩:=h;rfl
theorem FdR.len {st:St} {v:Fd} {cs:List TV} (h:FdR st v cs):cs.length=14:=by
 cases v;unfold FdR at h;obtain⟨c,rfl,h⟩:=h;simp[h.len]
theorem VsR.len {st:St}:∀{l:List Vl} {xs:List TV},VsR st l xs->xs.length=l.length*13
 | [],xs,h=>by unfold VsR at h;subst h;rfl
 | v::r,xs,h=>by
  unfold VsR at h
  obtain⟨a,b,rfl,h1,h2⟩:=h
  rw[List.length_append,h1.len,VsR.len h2,List.length_cons];omega
theorem FsR.len {st:St}:∀{l:List Fd} {xs:List TV},FsR st l xs->xs.length=l.length*14
 | [],xs,h=>by unfold FsR at h;subst h;rfl
 | v::r,xs,h=>by
  unfold FsR at h
  obtain⟨a,b,rfl,h1,h2⟩:=h
  rw[List.length_append,h1.len,FsR.len h2,List.length_cons];omega
theorem VsR.get {st:St}:∀{l:List Vl} {xs:List TV} {i:Nat} {v:Vl},VsR st l xs->l[i]? =some v->∃cs,VlR st v cs/\(xs.drop (i*13)).take 13=cs/\cs.length=13
 | [],xs,i,v,h,hi=>by simp at hi
 | w::r,xs,i,v,h,hi=>by
  unfold VsR at h
  obtain⟨a,b,rfl,h1,h2⟩:=h
  cases i with
  | zero=>
   simp only[List.getElem?_cons_zero,Option.some.injEq]at hi
   subst hi
   refine⟨a,h1,?_,h1.len⟩
   rw[Nat.zero_mul,List.drop_zero,<-h1.len,List.take_left]
  | succ i=>
   obtain⟨cs,h3,h4,h5⟩:=VsR.get h2 (by simpa using hi)
   refine⟨cs,h3,?_,h5⟩
   rw[show(i+1)*13=a.length+i*13 by rw[h1.len];omega,List.drop_append]
   simp only[Nat.add_sub_cancel_left]
   rw[List.drop_of_length_le (by omega),List.nil_append];exact h4
theorem FsR.get {st:St}:∀{l:List Fd} {xs:List TV} {i:Nat} {v:Fd},FsR st l xs->l[i]? =some v->∃cs,FdR st v cs/\(xs.drop (i*14)).take 14=cs/\cs.length=14
 | [],xs,i,v,h,hi=>by simp at hi
 | w::r,xs,i,v,h,hi=>by
  unfold FsR at h
  obtain⟨a,b,rfl,h1,h2⟩:=h
  cases i with
  | zero=>
   simp only[List.getElem?_cons_zero,Option.some.injEq]at hi
   subst hi
   refine⟨a,h1,?_,h1.len⟩
   rw[Nat.zero_mul,List.drop_zero,<-h1.len,List.take_left]
  | succ i=>
   obtain⟨cs,h3,h4,h5⟩:=FsR.get h2 (by simpa using hi)
   refine⟨cs,h3,?_,h5⟩
   rw[show(i+1)*14=a.length+i*14 by rw[h1.len];omega,List.drop_append]
   simp only[Nat.add_sub_cancel_left]
   rw[List.drop_of_length_le (by omega),List.nil_append];exact h4
mutual
def Vl.cnt:Vl->Nat
 | .mk _ l f=>1+Av l+AA f
def Av:List Vl->Nat
 | []=>0
 | v::r=>v.cnt+Av r
def Fd.cnt:Fd->Nat
 | .mk _ v=>v.cnt
def AA:List Fd->Nat
 | []=>0
 | d::r=>d.cnt+AA r
end
end
structure StX (S:Nat->Prop) (a b:St):Prop where
 nb:a.nb<=b.nb
 box:∀i,i<a.nb->¬S i->b.box i=a.box i
 nt:a.nt<=b.nt
 live:∀i,i<a.nt->b.live i=a.live i
 ty:∀i,i<a.nt->b.ty i=a.ty i
 bt:∀i,i<a.nb->b.bt i=a.bt i
theorem StX.trans {S:Nat->Prop} {a b c:St} (h:StX S a b) (k:StX S b c):StX S a c:=
 ⟨Nat.le_trans h.nb k.nb,fun i hi hs=>(k.box i (Nat.lt_of_lt_of_le hi h.nb) hs).trans (h.box i hi hs),Nat.le_trans h.nt k.nt,fun i hi=>(k.live i (Nat.lt_of_lt_of_le hi h.nt)).trans (h.live i hi),fun i hi=>(k.ty i (Nat.lt_of_lt_of_le hi h.nt)).trans (h.ty i hi),fun i hi=>(k.bt i (Nat.lt_of_lt_of_le hi h.nb)).trans (h.bt i hi)⟩
theorem StX.of {S:Nat->Prop} {a b:St} (h:At a b):StX S a b:=⟨h.nb,fun i hi _=>h.box i hi,h.nt,h.live,h.ty,h.bt⟩
theorem StX.ext {S:Nat->Prop} {a b c:St} (h:At a b) (k:StX S b c) (hs:∀i,S i->a.nb<=i):At a c:=
 ⟨Nat.le_trans h.nb k.nb,fun i hi=>(k.box i (Nat.lt_of_lt_of_le hi h.nb) fun g=>absurd (hs i g) (by omega)).trans (h.box i hi),Nat.le_trans h.nt k.nt,fun i hi=>(k.live i (Nat.lt_of_lt_of_le hi h.nt)).trans (h.live i hi),fun i hi=>(k.ty i (Nat.lt_of_lt_of_le hi h.nt)).trans (h.ty i hi),fun i hi=>(k.bt i (Nat.lt_of_lt_of_le hi h.nb)).trans (h.bt i hi)⟩
theorem StX.put {S:Nat->Prop} {a:St} {i:Nat} (hi:S i) (o:Hn):StX S a (a.put i o):=
 ⟨Nat.le_refl _,fun j hj hs=>by simp only[St.put];rw[if_neg (by rintro rfl;exact hs hi)],Nat.le_refl _,fun _ _=>rfl,fun _ _=>rfl,fun _ _=>rfl⟩
theorem Qp {k:B8} {n1:Int} {b1 b2:Bool} {s2:B8} {n2 n3 n4 n5 n6:Int} {s3:B8} {u1 u2 u3:TV} {f:Fun [.str,.int .i64,.bool,.bool,.str,.int .i64,.int .i64,.int .i64,.int .i64,.int .i64,.str,.tv,.tv,.tv] Prop} (h:f k n1 b1 b2 s2 n2 n3 n4 n5 n6 s3 u1 u2 u3):
  Dz [.str,.int .i64,.bool,.bool,.str,.int .i64,.int .i64,.int .i64,.int .i64,.int .i64,.str,.tv,.tv,.tv] (.agg [.str k,.int .i64 n1,.bool b1,.bool b2,.str s2,.int .i64 n2,.int .i64 n3,.int .i64 n4,.int .i64 n5,.int .i64 n6,.str s3,u1,u2,u3]) f:=h
theorem IR:∀(ys A c B:List TV),ys.length=c.length->setAll (A++c++B) A.length ys=A++ys++B
 | [],A,c,B,h=>by
  have:c=[]:=List.eq_nil_of_length_eq_zero (by simpa using h.symm)
  subst this;rfl
 | y::ys,A,[],B,h=>by simp at h
 | y::ys,A,x::c,B,h=>by
  rw[setAll]
  have e:(A++x::c++B).set A.length y=(A++[y])++c++B:=by simp
  rw[e]
  have:=IR ys (A++[y]) c B (by simpa using h)
  rw[List.length_append]at this
  rw[show A.length+1=A.length+ [y].length from rfl,this]
  simp
theorem Iq {st:St} {b:Nat} {B:List TV}:∀(c:List TV) (l:List TV) (j o:Nat),st.box b= .cells l->l.drop (o+j)=c++B->Am st [] (.t (.box b o)) j c.length=some c
 | [],l,j,o,h,hd=>rfl
 | x::c,l,j,o,h,hd=>by
  have hx:l[o+j]? =some x:=by
   have:=congrArg (fun z:List TV=>z[0]?) hd
   simpa using this
  have hd2:l.drop (o+(j+1))=c++B:=by
   have:=congrArg (fun z:List TV=>z.drop 1) hd
   simpa [List.drop_drop,Nat.add_assoc]using this
  show(match Ac st [] (.t (.box b o)) j with | some x=>(Am st [] (.t (.box b o)) (j+1) c.length).map (x::·) | none=>none)=_
  have:Ac st [] (.t (.box b o)) j=some x:=by simp only[Ac,h];exact hx
  rw[this]
  simp only
  rw[Iq c l (j+1) o h hd2];rfl
theorem FJ {g:Ghost} {w:World} {l:B8} {v:Value} (h:Rel g w (.str l) v):v= .string ⟨l.toArray⟩:=by cases h;rfl
theorem Py {g:Ghost} {w:World} {x:TV} {vs:List Value} (h:Aw g w [x] vs):∃v,vs=[v]/\Rel g w x v:=by
 obtain⟨v,h1,h2⟩:=h.get? (i:=0) rfl
 have:=h.1
 cases vs with
 | nil=>simp at this
 | cons a r=>cases r with
  | nil=>simp at h1;subst h1;exact⟨_,rfl,h2⟩
  | cons b r=>simp at this
theorem Px {g:Ghost} {w:World} {x y:TV} {vs:List Value} (h:Aw g w [x,y] vs):∃v u,vs=[v,u]/\Rel g w x v/\Rel g w y u:=by
 obtain⟨v,h1,h2⟩:=h.get? (i:=0) rfl
 obtain⟨u,h3,h4⟩:=h.get? (i:=1) rfl
 have:=h.1
 cases vs with
 | nil=>simp at this
 | cons a r=>cases r with
  | nil=>simp at this
  | cons b r=>cases r with
   | nil=>simp at h1 h3;subst h1 h3;exact⟨_,_,rfl,h2,h4⟩
   | cons c r=>simp at this
section
inductive M7 {α β:Type} (R:α->β->Prop):List α->List β->Prop
 | nil:M7 R [] []
 | cons {a:α} {b:β} {l:List α} {m:List β}:R a b->M7 R l m->M7 R (a::l) (b::m)
theorem FsR.chunks {st:St}:∀{f:List Fd} {xs:List TV},FsR st f xs->∃cks:List (List TV),xs=cks.flatten/\M7 (FdR st) f cks
 | [],xs,h=>by unfold FsR at h;subst h;exact⟨[],rfl,.nil⟩
 | d::r,xs,h=>by
  unfold FsR at h
  obtain⟨a,b,rfl,h1,h2⟩:=h
  obtain⟨cks,rfl,h3⟩:=FsR.chunks h2
  exact⟨a::cks,by simp,.cons h1 h3⟩
theorem FsR.of_chunks {st:St} {f:List Fd} {cks:List (List TV)} (h:M7 (FdR st) f cks):FsR st f cks.flatten:=by
 induction h with
 | nil=>unfold FsR;rfl
 | cons r _ ih=>unfold FsR;exact⟨_,_,by simp,r,ih⟩
theorem SlR.one {st:St} {sz n:Nat} {u:TV} {xs:List TV} (h:SlR st sz u n xs):Aq u=true:=by
 rcases h with(⟨rfl,_⟩ | ⟨tip,rfl⟩) | ⟨b,off,cap,l,rfl,_⟩<;>rfl
theorem SlR.src {st:St} {sz n:Nat} {u:TV} {xs:List TV} (h:SlR st sz u n xs) (hl:xs.length=n*sz):CG st sz u=some (n,xs):=by
 rcases h with(⟨rfl,rfl,rfl⟩ | ⟨tip,rfl⟩) | ⟨b,off,cap,l,rfl,h2,h3,h4,h5,rfl⟩
 ·rfl
 ·simp[CG]
 ·have hlt:n*sz<=cap*sz:=Nat.mul_le_mul_right _ h5
  have e:=Iq (B:=l.drop (off+n*sz)) (st:=st) (b:=b) ((l.drop off).take (n*sz)) l 0 off h3 (by
   rw[Nat.add_zero,<-List.drop_drop,List.take_append_drop])
  rw[show((l.drop off).take (n*sz)).length=n*sz by simp;omega]at e
  simp only[CG,Nat.beq_refl]
  rw[e]
theorem At.keeps {a b:St} (h:At a b):Bp a b:=⟨h.nb,h.box⟩
section
variable {st:St}
end
end
section
def B4 (st:St) (sz:Nat) (u:TV) (n:Nat) (xs:List TV) (bs:List Nat):Prop:=
 (n=0/\xs=[]/\bs=[]/\(u= .nilSlice∨u= .list sz .full 0 []))∨∃b cap tail,u= .ms sz b 0 n cap/\b<st.nb/\st.box b= .cells (xs++tail)/\(xs++tail).length=cap*sz/\xs.length=n*sz/\n<=cap/\bs=[b]
theorem B4.rd {st:St} {sz n:Nat} {u:TV} {xs:List TV} {bs:List Nat} (h:B4 st sz u n xs bs):SlR st sz u n xs:=by
 rcases h with⟨rfl,rfl,rfl,rfl | rfl⟩ | ⟨b,cap,tail,rfl,h1,h2,h3,h4,h5,rfl⟩
 ·exact .inl (.inl ⟨rfl,rfl,rfl⟩)
 ·exact .inl (.inr ⟨_,rfl⟩)
 ·exact .inr ⟨b,0,cap,_,rfl,h1,h2,by omega,h5,by rw[List.drop_zero,<-h4,List.take_left]⟩
theorem B4.frame {S:Nat->Prop} {st st':St} (e:StX S st st') {sz n:Nat} {u:TV} {xs:List TV} {bs:List Nat} (hs:∀x,x∈bs->¬S x) (h:B4 st sz u n xs bs):B4 st' sz u n xs bs:=by
 rcases h with h | ⟨b,cap,tail,rfl,h1,h2,h3,h4,h5,rfl⟩
 ·exact .inl h
 ·exact .inr ⟨b,cap,tail,rfl,Nat.lt_of_lt_of_le h1 e.nb,(e.box b h1 (hs b (.head _))).trans h2,h3,h4,h5,rfl⟩
theorem B4.lt {st:St} {sz n:Nat} {u:TV} {xs:List TV} {bs:List Nat} (h:B4 st sz u n xs bs):∀x,x∈bs->x<st.nb:=by
 rcases h with⟨_,_,rfl,_⟩ | ⟨b,cap,tail,rfl,h1,h2,h3,h4,h5,rfl⟩
 ·intro x hx;cases hx
 ·intro x hx;rcases List.mem_singleton.1 hx with rfl;exact h1
mutual
def VlO (st:St):Vl->List TV->List Nat->Prop
 | .mk s l f,cs,fp=>∃ub ul uf xl xf bb bl bf fl ff,cs=[.int .i64 s.kind,.bool s.b,.bool s.neg,.str s.dg,.int .i64 s.ex,.int .i64 s.tk,.int .i64 s.td,.int .i64 s.tn,.int .i64 s.tz,.str s.text,ub,ul,uf]/\
   B4 st 1 ub s.bytes.length (AZ s.bytes) bb/\B4 st 13 ul l.length xl bl/\VsO st l xl fl/\B4 st 14 uf f.length xf bf/\FsO st f xf ff/\fp=bb++(bl++(fl++(bf++ff)))
def VsO (st:St):List Vl->List TV->List Nat->Prop
 | [],xs,fp=>xs=[]/\fp=[]
 | v::r,xs,fp=>∃a b p q,xs=a++b/\fp=p++q/\VlO st v a p/\VsO st r b q
def FdO (st:St):Fd->List TV->List Nat->Prop
 | .mk k v,xs,fp=>∃cs,xs= .str k::cs/\VlO st v cs fp
def FsO (st:St):List Fd->List TV->List Nat->Prop
 | [],xs,fp=>xs=[]/\fp=[]
 | d::r,xs,fp=>∃a b p q,xs=a++b/\fp=p++q/\FdO st d a p/\FsO st r b q
end
mutual
theorem VlO.frame {S:Nat->Prop} {st st':St} (e:StX S st st'):∀{v:Vl} {cs:List TV} {fp:List Nat},(∀x,x∈fp->¬S x)->VlO st v cs fp->VlO st' v cs fp
 | .mk s l f,cs,fp,hs,h=>by
  unfold VlO at h⊢
  obtain⟨ub,ul,uf,xl,xf,bb,bl,bf,fl,ff,h0,h1,h2,h3,h4,h5,h6⟩:=h
  subst h6
  simp only[List.mem_append]at hs
  exact⟨ub,ul,uf,xl,xf,bb,bl,bf,fl,ff,h0,h1.frame e (fun x hx=>hs x (.inl hx)),h2.frame e (fun x hx=>hs x (.inr (.inl hx))),VsO.frame e (fun x hx=>hs x (.inr (.inr (.inl hx)))) h3,
   h4.frame e (fun x hx=>hs x (.inr (.inr (.inr (.inl hx))))),FsO.frame e (fun x hx=>hs x (.inr (.inr (.inr (.inr hx))))) h5,rfl⟩
theorem VsO.frame {S:Nat->Prop} {st st':St} (e:StX S st st'):∀{l:List Vl} {cs:List TV} {fp:List Nat},(∀x,x∈fp->¬S x)->VsO st l cs fp->VsO st' l cs fp
 | [],cs,fp,hs,h=>by unfold VsO at h⊢;exact h
 | v::r,cs,fp,hs,h=>by
  unfold VsO at h⊢
  obtain⟨a,b,p,q,h0,rfl,h1,h2⟩:=h
  simp only[List.mem_append]at hs
  exact⟨a,b,p,q,h0,rfl,VlO.frame e (fun x hx=>hs x (.inl hx)) h1,VsO.frame e (fun x hx=>hs x (.inr hx)) h2⟩
theorem FdO.frame {S:Nat->Prop} {st st':St} (e:StX S st st'):∀{d:Fd} {cs:List TV} {fp:List Nat},(∀x,x∈fp->¬S x)->FdO st d cs fp->FdO st' d cs fp
 | .mk key v,cs,fp,hs,h=>by
  unfold FdO at h⊢
  obtain⟨c,h0,h1⟩:=h
  exact⟨c,h0,VlO.frame e hs h1⟩
theorem FsO.frame {S:Nat->Prop} {st st':St} (e:StX S st st'):∀{l:List Fd} {cs:List TV} {fp:List Nat},(∀x,x∈fp->¬S x)->FsO st l cs fp->FsO st' l cs fp
 | [],cs,fp,hs,h=>by unfold FsO at h⊢;exact h
 | d::r,cs,fp,hs,h=>by
  unfold FsO at h⊢
  obtain⟨a,b,p,q,h0,rfl,h1,h2⟩:=h
  simp only[List.mem_append]at hs
  exact⟨a,b,p,q,h0,rfl,FdO.frame e (fun x hx=>hs x (.inl hx)) h1,FsO.frame e (fun x hx=>hs x (.inr hx)) h2⟩
end
theorem VsO.snoc {st:St} {v:Vl} {cv:List TV} {pv:List Nat}:∀{l:List Vl} {xs:List TV} {fp:List Nat},VsO st l xs fp->VlO st v cv pv->VsO st (l++[v]) (xs++cv) (fp++pv)
 | [],xs,fp,h,hv=>by
  unfold VsO at h
  obtain⟨rfl,rfl⟩:=h
  show VsO st [v] _ _
  unfold VsO
  exact⟨cv,[],pv,[],by simp,by simp,hv,by unfold VsO;exact⟨rfl,rfl⟩⟩
 | w::r,xs,fp,h,hv=>by
  unfold VsO at h
  obtain⟨a,b,p,q,rfl,rfl,h1,h2⟩:=h
  show VsO st (w::(r++[v])) _ _
  unfold VsO
  exact⟨a,b++cv,p,q++pv,by simp,by simp,h1,VsO.snoc h2 hv⟩
theorem FsO.snoc {st:St} {d:Fd} {cv:List TV} {pv:List Nat}:∀{l:List Fd} {xs:List TV} {fp:List Nat},FsO st l xs fp->FdO st d cv pv->FsO st (l++[d]) (xs++cv) (fp++pv)
 | [],xs,fp,h,hv=>by
  unfold FsO at h
  obtain⟨rfl,rfl⟩:=h
  show FsO st [d] _ _
  unfold FsO
  exact⟨cv,[],pv,[],by simp,by simp,hv,by unfold FsO;exact⟨rfl,rfl⟩⟩
 | w::r,xs,fp,h,hv=>by
  unfold FsO at h
  obtain⟨a,b,p,q,rfl,rfl,h1,h2⟩:=h
  show FsO st (w::(r++[d])) _ _
  unfold FsO
  exact⟨a,b++cv,p,q++pv,by simp,by simp,h1,FsO.snoc h2 hv⟩
theorem Nk (xs ys tail:List TV) (h:ys.length<=tail.length):setAll (xs++tail) xs.length ys=xs++ys++tail.drop ys.length:=by
 have e:tail=tail.take ys.length++tail.drop ys.length:=(List.take_append_drop _ _).symm
 have:=IR ys xs (tail.take ys.length) (tail.drop ys.length) (by simp;omega)
 rw[List.append_assoc,List.take_append_drop]at this
 exact this
theorem HS {T sz bytes:Nat} {st:St} {u:TV} {n k:Nat} {xs ys:List TV} {bs:List Nat} {K:TV->St->Prop} (h:B4 st sz u n xs bs) (hk1:0<k) (hy:ys.length=k*sz) (hby:(n+k)*bytes<=140737488355328)
  (hK:∀u' st' bs',B4 st' sz u' (n+k) (xs++ys) bs'->StX (·∈bs) st st'->((bs'=bs/\bs≠ [])∨bs'=[st.nb])->K u' st'):Hm T sz bytes u k ys st K:=by
 obtain⟨m,rfl⟩:∃m,k=m+1:=⟨k-1,by omega⟩
 have fresh:∀(zs:List TV) (N cap:Nat),zs.length=N*sz->N<=cap->B4 (st.push (.cells (zs++Ea ((cap-N)*sz))) (some T)) sz (.ms sz st.nb 0 N cap) N zs [st.nb]:=fun zs N cap h1 h2=>
  .inr ⟨st.nb,cap,Ea ((cap-N)*sz),rfl,by simp[St.push],by simp[St.push],by rw[List.length_append,h1];simp only[Ea,List.length_replicate];rw[<-Nat.add_mul];congr 1;omega,h1,h2,rfl⟩
 rcases h with⟨rfl,rfl,rfl,rfl | rfl⟩ | ⟨b,cap,tail,rfl,h1,h2,h3,h4,h5,rfl⟩
 ·simp only[Hm,Af]
  refine⟨by simpa using hby,fun cap hc=>hK _ _ [st.nb] ?_ (StX.of ((At.refl st).push _ _)) (.inr rfl)⟩
  have:=fresh ys (m+1) cap hy hc
  simpa using this
 ·simp only[Hm,Nat.beq_refl]
  refine⟨hby,fun cap hc=>hK _ _ [st.nb] ?_ (StX.of ((At.refl st).push _ _)) (.inr rfl)⟩
  have:=fresh ys (0+(m+1)) cap (by rw[hy];congr 1;omega) hc
  simpa using this
 ·simp only[Hm,Nat.beq_refl]
  rw[List.length_append]at h3
  refine⟨hby,_,h2,by rw[List.length_append];omega,fun hc=>?_,fun hc cap' hc'=>?_⟩
  ·have hmul:(n+(m+1))*sz<=cap*sz:=Nat.mul_le_mul_right _ hc
   rw[Nat.add_mul]at hmul
   rw[Nat.zero_add,<-h4,Nk xs ys tail (by omega)]
   refine hK _ _ [b] (.inr ⟨b,cap,tail.drop ys.length,rfl,h1,by simp[St.put],by simp only[List.length_append,List.length_drop];omega,by rw[List.length_append,h4,hy,<-Nat.add_mul],hc,rfl⟩) (StX.put (S:=(·∈ [b])) (.head _) _) (.inl ⟨rfl,by simp⟩)
  ·rw[List.drop_zero,<-h4,List.take_left]
   exact hK _ _ [st.nb] (fresh (xs++ys) (n+(m+1)) cap' (by rw[List.length_append,h4,hy,<-Nat.add_mul]) hc') (StX.of ((At.refl st).push _ _)) (.inr rfl)
end
section
mutual
def Vl.sz:Vl->Nat
 | .mk s l f=>1+s.bytes.length+s.text.length+s.dg.length+Br l+Bt f
def Br:List Vl->Nat
 | []=>0
 | v::r=>v.sz+Br r
def Fd.sz:Fd->Nat
 | .mk k v=>k.length+v.sz
def Bt:List Fd->Nat
 | []=>0
 | d::r=>d.sz+Bt r
end
theorem Vl.sz_pos (v:Vl):1<=v.sz:=by cases v;unfold Vl.sz;omega
theorem FA:∀l:List Vl,l.length<=Br l
 | []=>Nat.le_refl _
 | v::r=>by have:=FA r;have:=v.sz_pos;unfold Br;simp only[List.length_cons];omega
theorem EN:∀l:List Fd,l.length<=Bt l
 | []=>Nat.le_refl _
 | .mk k v::r=>by have:=EN r;have:=v.sz_pos;unfold Bt Fd.sz;simp only[List.length_cons];omega
theorem EC:∀{l:List Vl} {i:Nat} {v:Vl},l[i]? =some v->v.sz<=Br l
 | [],i,v,h=>by simp at h
 | w::r,0,v,h=>by simp at h;subst h;unfold Br;omega
 | w::r,i+1,v,h=>by have:=EC (by simpa using h:r[i]? =some v);unfold Br;omega
theorem EO:∀{l:List Fd} {i:Nat} {d:Fd},l[i]? =some d->d.sz<=Bt l
 | [],i,v,h=>by simp at h
 | w::r,0,v,h=>by simp at h;subst h;unfold Bt;omega
 | w::r,i+1,v,h=>by have:=EO (by simpa using h:r[i]? =some v);unfold Bt;omega
theorem Jb {st:St} {ys:List TV}:∀(k j:Nat),j+k<=ys.length->Am st [] (.t (.rptr ys)) j k=some ((ys.drop j).take k)
 | 0,j,h=>by simp[Am]
 | k+1,j,h=>by
  show(match Ac st [] (.t (.rptr ys)) j with | some x=>(Am st [] (.t (.rptr ys)) (j+1) k).map (x::·) | none=>none)=_
  have hj:j<ys.length:=by omega
  have:Ac st [] (.t (.rptr ys)) j=some ys[j]:=by simp[Ac,hj]
  rw[this]
  simp only
  rw[Jb k (j+1) (by omega),List.drop_eq_getElem_cons hj]
  rfl
theorem SlR.ldc {st:St} {sz n i:Nat} {u:TV} {xs:List TV} (h:SlR st sz u n xs) (hl:xs.length=n*sz) (hi:i<n):Am st [] (.t (ixT sz u i)) 0 sz=some ((xs.drop (i*sz)).take sz):=by
 have hm:(i+1)*sz<=n*sz:=Nat.mul_le_mul_right _ hi
 rw[Nat.add_mul,Nat.one_mul]at hm
 rcases h with(⟨rfl,rfl,rfl⟩ | ⟨tip,rfl⟩) | ⟨b,off,cap,l,rfl,h2,h3,h4,h5,rfl⟩
 ·omega
 ·show Am st [] (.t (.rptr (xs.drop (i*sz)))) 0 sz=_
  rw[Jb sz 0 (by rw[List.length_drop];omega),List.drop_zero]
 ·have hc:n*sz<=cap*sz:=Nat.mul_le_mul_right _ h5
  have e1:(((l.drop off).take (n*sz)).drop (i*sz)).take sz=(l.drop (off+i*sz)).take sz:=by
   rw[List.drop_take,List.drop_drop,List.take_take,Nat.min_eq_left (by omega)]
  rw[e1]
  have e:=Iq (B:=l.drop (off+i*sz+sz)) (st:=st) (b:=b) ((l.drop (off+i*sz)).take sz) l 0 (off+i*sz) h3 (by
   have:=List.take_append_drop sz (l.drop (off+i*sz))
   rw[List.drop_drop]at this
   rw[Nat.add_zero];exact this.symm)
  rw[show((l.drop (off+i*sz)).take sz).length=sz by simp;omega]at e
  exact e
theorem SlR.lenZ {st:St} {sz n:Nat} {u:TV} {xs:List TV} (h:SlR st sz u n xs):TVF.lenZ sz u=n:=by
 rcases h with(⟨rfl,rfl,rfl⟩ | ⟨tip,rfl⟩) | ⟨b,off,cap,l,rfl,h2,h3,h4,h5,rfl⟩
 ·rfl
 ·simp[TVF.lenZ]
 ·simp[TVF.lenZ]
theorem SlR.lenS {st:St} {sz n:Nat} {u:TV} {xs:List TV} (h:SlR st sz u n xs):TVF.lenS u=n:=by
 rcases h with(⟨rfl,rfl,rfl⟩ | ⟨tip,rfl⟩) | ⟨b,off,cap,l,rfl,h2,h3,h4,h5,rfl⟩<;>rfl
theorem SlR.isSl {st:St} {sz n:Nat} {u:TV} {xs:List TV} (h:SlR st sz u n xs):TVF.isSl u=true:=by
 rcases h with(⟨rfl,rfl,rfl⟩ | ⟨tip,rfl⟩) | ⟨b,off,cap,l,rfl,h2,h3,h4,h5,rfl⟩<;>rfl
theorem B4.nil (st:St) (sz:Nat):B4 st sz .nilSlice 0 [] []:= .inl ⟨rfl,rfl,rfl,.inl rfl⟩
theorem Jw {n1:Int} {b1 b2:Bool} {s2:B8} {n2 n3 n4 n5 n6:Int} {s3:B8} {u1 u2 u3:TV} {f:Fun [.int .i64,.bool,.bool,.str,.int .i64,.int .i64,.int .i64,.int .i64,.int .i64,.str,.tv,.tv,.tv] Prop} (h:f n1 b1 b2 s2 n2 n3 n4 n5 n6 s3 u1 u2 u3):
  Dz [.int .i64,.bool,.bool,.str,.int .i64,.int .i64,.int .i64,.int .i64,.int .i64,.str,.tv,.tv,.tv] (.agg [.int .i64 n1,.bool b1,.bool b2,.str s2,.int .i64 n2,.int .i64 n3,.int .i64 n4,.int .i64 n5,.int .i64 n6,.str s3,u1,u2,u3]) f:=h
theorem C5 {n1:Int} {b1 b2:Bool} {s2:B8} {n2 n3 n4 n5 n6:Int} {s3:B8} {u1 u2 u3:TV} (h1:Aq u1=true) (h2:Aq u2=true) (h3:Aq u3=true):
  List.all [.int .i64 n1,.bool b1,.bool b2,.str s2,.int .i64 n2,.int .i64 n3,.int .i64 n4,.int .i64 n5,.int .i64 n6,.str s3,u1,u2,u3] Aq=true:=by
 simp only[List.all_cons,List.all_nil,h1,h2,h3,Bool.and_true];rfl
theorem Pd {st:St} {u:TV} {l:B8} (h:SlR st 1 u l.length (AZ l)) (hl:l.length<=10000000) {K:TV->St->Prop} (hk:∀v st' bs,B4 st' 1 v l.length (AZ l) bs->At st st'->(∀x,x∈bs->st.nb<=x)->bs.Nodup->K v st'):
  CallT PR A9 [u] [.one .tv] st K:=by
 have hb1:(AZ l).length=l.length*1:=by rw[JY];omega
 have hone:List.all (AZ l) Aq=true:=by
  rw[List.all_eq_true];intro x hx
  simp only[AZ,List.mem_map]at hx
  obtain⟨y,_,rfl⟩:=hx;rfl
 refine Df _ st K (Aa h.isSl ?_)
 cases hq:Ce u with
 | true=>
  show K .nilSlice st
  have h0:l=[]:=by
   rcases h with(⟨rfl,h1,_⟩ | ⟨tip,rfl⟩) | ⟨b,off,cap,m,rfl,_⟩
   ·exact List.eq_nil_of_length_eq_zero h1
   ·cases hq
   ·cases hq
  subst h0
  exact hk _ st [] (B4.nil _ _) (At.refl _) (fun x hx=>by cases hx) List.nodup_nil
 | false=>
  show Al (CG st 1 u) _
  refine Ad (h.src hb1) (Aa hone ?_)
  cases hlen:l.length with
  | zero=>
   have h0:l=[]:=List.eq_nil_of_length_eq_zero hlen
   subst h0
   simp only[Hm,Nat.beq_refl]
   exact⟨by omega,hk _ st [] (.inl ⟨rfl,rfl,rfl,.inr rfl⟩) (At.refl _) (fun x hx=>by cases hx) List.nodup_nil⟩
  | succ m=>
   refine HS (.inl ⟨rfl,rfl,rfl,.inr rfl⟩) (by omega) (by rw[hb1,hlen]) (by omega) fun u' st' bs' ho e hbs=>?_
   rw[Nat.zero_add,List.nil_append,<-hlen]at ho
   rcases hbs with⟨_,h0⟩ | rfl
   ·exact absurd rfl h0
   ·exact hk _ st' _ ho (StX.ext (At.refl st) e (fun i hi=>by cases hi)) (fun x hx=>by rw[List.mem_singleton.1 hx];exact Nat.le_refl _) (by simp)
end
section
mutual
theorem VlO.lt {st:St}:∀{v:Vl} {cs:List TV} {fp:List Nat},VlO st v cs fp->∀x,x∈fp->x<st.nb
 | .mk s l f,cs,fp,h=>by
  unfold VlO at h
  obtain⟨ub,ul,uf,xl,xf,bb,bl,bf,fl,ff,h0,h1,h2,h3,h4,h5,rfl⟩:=h
  intro x hx
  simp only[List.mem_append]at hx
  rcases hx with hx | hx | hx | hx | hx
  ·exact h1.lt x hx
  ·exact h2.lt x hx
  ·exact VsO.lt h3 x hx
  ·exact h4.lt x hx
  ·exact FsO.lt h5 x hx
theorem VsO.lt {st:St}:∀{l:List Vl} {cs:List TV} {fp:List Nat},VsO st l cs fp->∀x,x∈fp->x<st.nb
 | [],cs,fp,h=>by unfold VsO at h;rw[h.2];intro x hx;cases hx
 | v::r,cs,fp,h=>by
  unfold VsO at h
  obtain⟨a,b,p,q,_,rfl,h1,h2⟩:=h
  intro x hx
  rcases List.mem_append.1 hx with hx | hx
  ·exact VlO.lt h1 x hx
  ·exact VsO.lt h2 x hx
theorem FdO.lt {st:St}:∀{d:Fd} {cs:List TV} {fp:List Nat},FdO st d cs fp->∀x,x∈fp->x<st.nb
 | .mk key v,cs,fp,h=>by
  unfold FdO at h
  obtain⟨c,_,h1⟩:=h
  exact VlO.lt h1
theorem FsO.lt {st:St}:∀{l:List Fd} {cs:List TV} {fp:List Nat},FsO st l cs fp->∀x,x∈fp->x<st.nb
 | [],cs,fp,h=>by unfold FsO at h;rw[h.2];intro x hx;cases hx
 | d::r,cs,fp,h=>by
  unfold FsO at h
  obtain⟨a,b,p,q,_,rfl,h1,h2⟩:=h
  intro x hx
  rcases List.mem_append.1 hx with hx | hx
  ·exact FdO.lt h1 x hx
  ·exact FsO.lt h2 x hx
end
theorem Vl.cnt_pos (v:Vl):1<=v.cnt:=by cases v;unfold Vl.cnt;omega
theorem J9:∀{l:List Vl} {i:Nat} {v:Vl},l[i]? =some v->v.cnt<=Av l
 | [],i,v,h=>by simp at h
 | w::r,0,v,h=>by simp at h;subst h;unfold Av;omega
 | w::r,i+1,v,h=>by have:=J9 (by simpa using h:r[i]? =some v);unfold Av;omega
theorem Kz:∀{l:List Fd} {i:Nat} {d:Fd},l[i]? =some d->d.cnt<=AA l
 | [],i,v,h=>by simp at h
 | w::r,0,v,h=>by simp at h;subst h;unfold AA;omega
 | w::r,i+1,v,h=>by have:=Kz (by simpa using h:r[i]? =some v);unfold AA;omega
theorem EI {A B:List Nat} (ha:A.Nodup) (hb:B.Nodup) (h:∀x,x∈A->x∉B):(A++B).Nodup:=
 List.nodup_append.2 ⟨ha,hb,fun x hx y hy e=>h x hx (e▸hy)⟩
structure LG (b0:Nat) (st:St) (bl fl:List Nat):Prop where
 nd:(bl++fl).Nodup
 lo:∀x,x∈bl++fl->b0<=x
theorem LG.nil (b0:Nat) (st:St):LG b0 st [] []:=⟨List.nodup_nil,fun x hx=>by cases hx⟩
theorem LG.snoc {b0 m k:Nat} {st st':St} {bl fl bs' fp:List Nat} (h:LG b0 st bl fl) (hm:∀x,x∈bl++fl->x<m) (h0:b0<=m) (hk:∀x,x∈fp->m<=x/\x<k) (nd:fp.Nodup) (hmk:m<=k) (hb:(bs'=bl/\bl≠ [])∨bs'=[k]):LG b0 st' bs' (fl++fp):=by
 have ndf:=(List.nodup_append.1 h.nd)
 have hfl:∀x,x∈fl->x<m:=fun x hx=>hm x (List.mem_append_right _ hx)
 have nfp:(fl++fp).Nodup:=EI ndf.2.1 nd fun x hx hx'=>by have:=hfl x hx;have:=(hk x hx').1;omega
 rcases hb with⟨rfl,_⟩ | rfl
 ·refine⟨EI ndf.1 nfp fun x hx hx'=>?_,fun x hx=>?_⟩
  ·rcases List.mem_append.1 hx' with hx' | hx'
   ·exact ndf.2.2 x hx x hx' rfl
   ·have:=hm x (List.mem_append_left _ hx);have:=(hk x hx').1;omega
  ·rcases List.mem_append.1 hx with hx | hx
   ·exact h.lo x (List.mem_append_left _ hx)
   ·rcases List.mem_append.1 hx with hx | hx
    ·exact h.lo x (List.mem_append_right _ hx)
    ·have:=(hk x hx).1;omega
 ·refine⟨EI (by simp) nfp fun x hx hx'=>?_,fun x hx=>?_⟩
  ·rcases List.mem_singleton.1 hx with rfl
   rcases List.mem_append.1 hx' with hx' | hx'
   ·have:=hfl x hx';omega
   ·have:=(hk x hx').2;omega
  ·rcases List.mem_append.1 hx with hx | hx
   ·rcases List.mem_singleton.1 hx with rfl;omega
   ·rcases List.mem_append.1 hx with hx | hx
    ·exact h.lo x (List.mem_append_right _ hx)
    ·have:=(hk x hx).1;omega
theorem PF {k:B8} {n1:Int} {b1 b2:Bool} {s2:B8} {n2 n3 n4 n5 n6:Int} {s3:B8} {u1 u2 u3:TV} (h1:Aq u1=true) (h2:Aq u2=true) (h3:Aq u3=true):
  List.all [.str k,.int .i64 n1,.bool b1,.bool b2,.str s2,.int .i64 n2,.int .i64 n3,.int .i64 n4,.int .i64 n5,.int .i64 n6,.str s3,u1,u2,u3] Aq=true:=by
 simp only[List.all_cons,List.all_nil,h1,h2,h3,Bool.and_true];rfl
def AC (s:Sc) (ub ul uf:TV):List TV:=[.int .i64 s.kind,.bool s.b,.bool s.neg,.str s.dg,.int .i64 s.ex,.int .i64 s.tk,.int .i64 s.td,.int .i64 s.tn,.int .i64 s.tz,.str s.text,ub,ul,uf]
theorem Pa:∀(N:Nat) (v:Vl),v.sz<=N->N<=2000000->∀{st:St} {cs:List TV} {L:Int} {K:Int->Bool->Bool->B8->Int->Int->Int->Int->Int->B8->TV->TV->TV->St->Prop},VlR st v cs->(v.cnt:Int)<=L->L<=100000000->
  (∀ub ul uf st' fp,VlO st' v (AC v.sc ub ul uf) fp->Aq ub=true->Aq ul=true->Aq uf=true->fp.Nodup->(∀x,x∈fp->st.nb<=x)->At st st'->K v.sc.kind v.sc.b v.sc.neg v.sc.dg v.sc.ex v.sc.tk v.sc.td v.sc.tn v.sc.tz v.sc.text ub ul uf st')->
  CallT PR BF [.agg cs,.int .i64 L] [.agg [.int .i64,.bool,.bool,.str,.int .i64,.int .i64,.int .i64,.int .i64,.int .i64,.str,.tv,.tv,.tv]] st K:=by
 intro N
 induction N with
 | zero=>intro v h;have:=v.sz_pos;omega
 | succ N ih=>
 intro v hN hN2 st cs L K h hL hL2 hk
 cases v with
 | mk s l f=>
 have hsz:(Vl.mk s l f).sz=1+s.bytes.length+s.text.length+s.dg.length+Br l+Bt f:=by unfold Vl.sz;rfl
 have hct:(Vl.mk s l f).cnt=1+Av l+AA f:=by unfold Vl.cnt;rfl
 have hll:=FA l
 have hfl:=EN f
 unfold VlR at h
 obtain⟨ub,ul,uf,xl,xf,rfl,h1,h2,h3,h4,h5⟩:=h
 have hxl:=h3.len
 have hxf:=h5.len
 refine Ie _ _ _ _ _ _ _ _ _ _ _ _ _ L st K (Pd h1 (by omega) fun v1 st1 bb ho e1 lo1 nd1=>Aa (by rw[List.all_cons,ho.rd.one];rfl) (Ab (fun g=>absurd g (by omega)) fun _=>Aa h2.isSl ?_))
 refine⟨fun l1 n1 left u n2 a1 a2 a3 a4 a5 a6 a7 a8 a9 a10 a11 a12 a13 _ _ _ _ _ _ _ _ _ _ _ _ _ st'=>L=left/\ul=u/\(l.length:Int)=n2/\s.kind=a1/\s.b=a2/\s.neg=a3/\s.dg=a4/\s.ex=a5/\s.tk=a6/\s.td=a7/\s.tn=a8/\s.tz=a9/\s.text=a10/\v1=a11/\uf=a13/\
   ∃(k:Nat) (ys:List TV) (bl fp:List Nat),n1=(k:Int)/\k<=l.length/\B4 st' 13 l1 k ys bl/\VsO st' (l.take k) ys fp/\LG st1.nb st' bl fp/\At st1 st',
  fun _ n1 _ _ _ _ _ _ _ _ _ _ _ _ _ _ _ _ _ _ _ _ _ _ _ _ _ _ _ _ _ _=>(l.length-n1).toNat,⟨rfl,rfl,by rw[h2.lenS],rfl,rfl,rfl,rfl,rfl,rfl,rfl,rfl,rfl,rfl,rfl,rfl,0,[],[],[],rfl,Nat.zero_le _,B4.nil _ _,by simp only[List.take_zero];unfold VsO;exact⟨rfl,rfl⟩,LG.nil _ _,At.refl _⟩,?_⟩
 rintro l1 _ _ _ _ _ _ _ _ _ _ _ _ _ _ _ v3 _ _ _ _ _ _ _ _ _ _ _ _ _ _ st2 ⟨rfl,rfl,rfl,rfl,rfl,rfl,rfl,rfl,rfl,rfl,rfl,rfl,rfl,rfl,rfl,k,ys,bl,fp,rfl,hkl,hol,hvs,hgr,e2⟩
 have e12:=e1.trans e2
 refine Ab (fun g=>?_) fun g=>?_
 ·have hkl2:k<l.length:=by omega
  have h2':=h2.keep e12.keeps
  have h3':=h3.keep e12.keeps
  have gw:l[k]? =some l[k]:=List.getElem?_eq_getElem hkl2
  obtain⟨cw,hw,hcw,hcl⟩:=h3'.get gw
  have hwsz:=EC gw
  have hwct:=J9 gw
  have hwc1:=(l[k]).cnt_pos
  generalize l[k]=w at*
  have hld:(Am st2 [] (.t (ixT 13 ul (Int.toNat (k:Int)))) 0 13).map TV.agg=some (.agg cw):=by
   rw[Int.toNat_natCast,h2'.ldc hxl hkl2,hcw];rfl
  rw[h2'.lenZ]
  have hw0:=hw
  cases w with
  | mk s' l' f'=>
  unfold VlR at hw0
  obtain⟨ub',ul',uf',xl',xf',rfl,w1,w2,w3,w4,w5⟩:=hw0
  refine⟨⟨by omega,by omega⟩,Ad hld (Jw (Aa (C5 w1.one w2.one w4.one) ?_))⟩
  rw[Ap _ (by omega) (by omega)]
  refine ih _ (by omega) (by omega) hw (by omega) (by omega) fun ub2 ul2 uf2 st3 fp2 ho2 o1 o2 o3 nd2 lo2 e3=>Aa (C5 o1 o2 o3) ?_
  have hol3:=hol.frame (StX.of (S:=fun _=>False) e3) (fun _ _ h=>h)
  have hvs3:=hvs.frame (StX.of (S:=fun _=>False) e3) (fun _ _ h=>h)
  refine HS hol3 (by omega) rfl (by omega) fun u' st4 bs' ho4 e4 hbs=>?_
  have hm:∀x,x∈bl++fp->x<st2.nb:=fun x hx=>(List.mem_append.1 hx).elim (hol.lt x) (hvs.lt x)
  have hlt2:=ho2.lt
  have hnd:=List.nodup_append.1 hgr.nd
  have e14:At st1 st4:=StX.ext (e2.trans e3) e4 fun i hi=>hgr.lo i (List.mem_append_left _ hi)
  have hvs4:VsO st4 (l.take (k+1)) (ys++AC s' ub2 ul2 uf2) (fp++fp2):=by
   have t1:l.take (k+1)=l.take k++[.mk s' l' f']:=by
    have:=(List.getElem?_eq_some_iff.1 gw)
    obtain⟨q1,q2⟩:=this
    rw[List.take_succ_eq_append_getElem q1,q2]
   rw[t1]
   exact VsO.snoc (hvs3.frame e4 fun x hx hx'=>hnd.2.2 x hx' x hx rfl) (ho2.frame e4 fun x hx hx'=>by have:=lo2 x hx;have:=hol.lt x hx';omega)
  exact⟨⟨rfl,rfl,rfl,rfl,rfl,rfl,rfl,rfl,rfl,rfl,rfl,rfl,rfl,rfl,rfl,k+1,_,bs',fp++fp2,by rw[Ap _ (by omega) (by omega)];omega,by omega,ho4,hvs4,hgr.snoc hm e2.nb (fun x hx=>⟨lo2 x hx,hlt2 x hx⟩) nd2 e3.nb hbs,e14⟩,by dsimp only;rw[Ap _ (by omega) (by omega)];omega⟩
 ·have hk:k=l.length:=by omega
  subst hk
  rw[List.take_length]at hvs
  have hm:∀x,x∈bl++fp->x<st2.nb:=fun x hx=>(List.mem_append.1 hx).elim (hol.lt x) (hvs.lt x)
  refine Aa h4.isSl ?_
  refine⟨fun f1 n1 left l2 u n2 a1 a2 a3 a4 a5 a6 a7 a8 a9 a10 a11 a12 a13 _ _ _ _ _ _ _ _ _ _ _ _ _ st'=>L=left/\l1=l2/\uf=u/\(f.length:Int)=n2/\s.kind=a1/\s.b=a2/\s.neg=a3/\s.dg=a4/\s.ex=a5/\s.tk=a6/\s.td=a7/\s.tn=a8/\s.tz=a9/\s.text=a10/\v1=a11/\
    ∃(k:Nat) (zs:List TV) (bf ff:List Nat),n1=(k:Int)/\k<=f.length/\B4 st' 14 f1 k zs bf/\FsO st' (f.take k) zs ff/\LG st2.nb st' bf ff/\At st2 st',
   fun _ n1 _ _ _ _ _ _ _ _ _ _ _ _ _ _ _ _ _ _ _ _ _ _ _ _ _ _ _ _ _ _ _=>(f.length-n1).toNat,⟨rfl,rfl,rfl,by rw[h4.lenS],rfl,rfl,rfl,rfl,rfl,rfl,rfl,rfl,rfl,rfl,rfl,0,[],[],[],rfl,Nat.zero_le _,B4.nil _ _,by simp only[List.take_zero];unfold FsO;exact⟨rfl,rfl⟩,LG.nil _ _,At.refl _⟩,?_⟩
  rintro f1 _ _ _ _ _ _ _ _ _ _ _ _ _ _ _ _ _ _ _ _ _ _ _ _ _ _ _ _ _ _ _ st5 ⟨rfl,rfl,rfl,rfl,rfl,rfl,rfl,rfl,rfl,rfl,rfl,rfl,rfl,rfl,rfl,k,zs,bf,ff,rfl,hkf,hof,hfs,hgf,e5⟩
  have e15:=e12.trans e5
  refine Ab (fun g=>?_) fun g=>?_
  ·have hkf2:k<f.length:=by omega
   have h4':=h4.keep e15.keeps
   have h5':=h5.keep e15.keeps
   have gw:f[k]? =some f[k]:=List.getElem?_eq_getElem hkf2
   obtain⟨cw,hw,hcw,hcl⟩:=h5'.get gw
   have hwsz:=EO gw
   have hwct:=Kz gw
   generalize f[k]=w at*
   have hld:(Am st5 [] (.t (ixT 14 uf (Int.toNat (k:Int)))) 0 14).map TV.agg=some (.agg cw):=by
    rw[Int.toNat_natCast,h4'.ldc hxf hkf2,hcw];rfl
   rw[h4'.lenZ]
   cases w with
   | mk key w=>
   unfold FdR at hw
   obtain⟨cw2,rfl,hw⟩:=hw
   have hwk:(Fd.mk key w).sz=key.length+w.sz:=by unfold Fd.sz;rfl
   have hwk2:(Fd.mk key w).cnt=w.cnt:=by unfold Fd.cnt;rfl
   have hwc1:=w.cnt_pos
   have hw0:=hw
   cases w with
   | mk s' l' f'=>
   unfold VlR at hw0
   obtain⟨ub',ul',uf',xl',xf',rfl,w1,w2,w3,w4,w5⟩:=hw0
   refine⟨⟨by omega,by omega⟩,Ad hld (Qp (Aa (PF w1.one w2.one w4.one) ?_))⟩
   rw[Ap _ (by omega) (by omega)]
   refine ih _ (by omega) (by omega) hw (by omega) (by omega) fun ub2 ul2 uf2 st6 fp2 ho2 o1 o2 o3 nd2 lo2 e6=>Aa (PF o1 o2 o3) ?_
   have hof6:=hof.frame (StX.of (S:=fun _=>False) e6) (fun _ _ h=>h)
   have hfs6:=hfs.frame (StX.of (S:=fun _=>False) e6) (fun _ _ h=>h)
   refine HS hof6 (by omega) rfl (by omega) fun u' st7 bs' ho7 e7 hbs=>?_
   have hm5:∀x,x∈bf++ff->x<st5.nb:=fun x hx=>(List.mem_append.1 hx).elim (hof.lt x) (hfs.lt x)
   have hlt2:=ho2.lt
   have hnd:=List.nodup_append.1 hgf.nd
   have e27:At st2 st7:=StX.ext (e5.trans e6) e7 fun i hi=>hgf.lo i (List.mem_append_left _ hi)
   have hd7:FdO st7 (.mk key (.mk s' l' f')) (.str key::AC s' ub2 ul2 uf2) fp2:=by
    unfold FdO
    exact⟨_,rfl,ho2.frame e7 fun x hx hx'=>by have:=lo2 x hx;have:=hof.lt x hx';omega⟩
   have hfs7:FsO st7 (f.take (k+1)) (zs++ .str key::AC s' ub2 ul2 uf2) (ff++fp2):=by
    have t1:f.take (k+1)=f.take k++[.mk key (.mk s' l' f')]:=by
     obtain⟨q1,q2⟩:=List.getElem?_eq_some_iff.1 gw
     rw[List.take_succ_eq_append_getElem q1,q2]
    rw[t1]
    exact FsO.snoc (hfs6.frame e7 fun x hx hx'=>hnd.2.2 x hx' x hx rfl) hd7
   exact⟨⟨rfl,rfl,rfl,rfl,rfl,rfl,rfl,rfl,rfl,rfl,rfl,rfl,rfl,rfl,rfl,k+1,_,bs',ff++fp2,by rw[Ap _ (by omega) (by omega)];omega,by omega,ho7,hfs7,hgf.snoc hm5 e5.nb (fun x hx=>⟨lo2 x hx,hlt2 x hx⟩) nd2 e6.nb hbs,e27⟩,by dsimp only;rw[Ap _ (by omega) (by omega)];omega⟩
  ·have hk2:k=f.length:=by omega
   subst hk2
   rw[List.take_length]at hfs
   have ho5:=ho.frame (StX.of (S:=fun _=>False) (e2.trans e5)) (fun _ _ h=>h)
   have hol5:=hol.frame (StX.of (S:=fun _=>False) e5) (fun _ _ h=>h)
   have hvs5:=hvs.frame (StX.of (S:=fun _=>False) e5) (fun _ _ h=>h)
   have hb1:=ho.lt
   have e1n:=e1.nb
   have e2n:=e2.nb
   refine Aa (by rw[List.all_cons,hol.rd.one];rfl) (Aa (by rw[List.all_cons,hof.rd.one];rfl) (Aa (C5 ho.rd.one hol.rd.one hof.rd.one) ?_))
   refine hk v1 l1 f1 st5 (bb++(bl++(fp++(bf++ff)))) (by unfold VlO;exact⟨v1,l1,f1,ys,zs,bb,bl,bf,fp,ff,rfl,ho5,hol5,hvs5,hof,hfs,rfl⟩) ho.rd.one hol.rd.one hof.rd.one ?_ ?_ e15
   ·have e:bl++(fp++(bf++ff))=(bl++fp)++(bf++ff):=by simp
    rw[e]
    refine EI nd1 (EI hgr.nd hgf.nd fun x hx hx'=>?_) fun x hx hx'=>?_
    ·have:=hm x hx;have:=hgf.lo x hx';omega
    ·have:=hb1 x hx
     rcases List.mem_append.1 hx' with hx' | hx'
     ·have:=hgr.lo x hx';omega
     ·have:=hgf.lo x hx';omega
   ·intro x hx
    have e:bb++(bl++(fp++(bf++ff)))=bb++((bl++fp)++(bf++ff)):=by simp
    rw[e]at hx
    rcases List.mem_append.1 hx with hx | hx
    ·exact lo1 x hx
    ·rcases List.mem_append.1 hx with hx | hx
     ·have:=hgr.lo x hx;omega
     ·have:=hgf.lo x hx;omega
end
def JI (f:List Fd):Prop:=(f.map Fd.key).Nodup
theorem M7.snoc {α β:Type} {R:α->β->Prop} {a:α} {b:β} {l:List α} {m:List β} (h:M7 R l m) (r:R a b):M7 R (l++[a]) (m++[b]):=by
 induction h with
 | nil=>exact .cons r .nil
 | cons r' _ ih=>exact .cons r' ih
theorem Po {l:List Vl} {v:Vl} (h:v∈l):v.sz<=Br l:=by
 obtain⟨i,hi⟩:=List.getElem?_of_mem h
 exact EC hi
theorem MA {l:List Fd} {v:Fd} (h:v∈l):v.sz<=Bt l:=by
 obtain⟨i,hi⟩:=List.getElem?_of_mem h
 exact EO hi
theorem copy_ok {v:Vl} (hN:v.sz<=2000000) (hC:v.cnt<=65536) {st:St} {cs:List TV} {K:Int->Bool->Bool->B8->Int->Int->Int->Int->Int->B8->TV->TV->TV->St->Prop} (h:VlR st v cs)
  (hk:∀ub ul uf st' fp,VlO st' v (AC v.sc ub ul uf) fp->Aq ub=true->Aq ul=true->Aq uf=true->fp.Nodup->(∀x,x∈fp->st.nb<=x)->At st st'->K v.sc.kind v.sc.b v.sc.neg v.sc.dg v.sc.ex v.sc.tk v.sc.td v.sc.tn v.sc.tz v.sc.text ub ul uf st'):
  CallT PR CZ [.agg cs] [.agg [.int .i64,.bool,.bool,.str,.int .i64,.int .i64,.int .i64,.int .i64,.int .i64,.str,.tv,.tv,.tv]] st K:=by
 have h0:=h
 cases v with
 | mk s l f=>
 unfold VlR at h0
 obtain⟨ub,ul,uf,xl,xf,rfl,_⟩:=h0
 exact JO _ _ _ _ _ _ _ _ _ _ _ _ _ st K (Pa 2000000 _ hN (by omega) h (by omega) (by omega) fun ub ul uf st' fp g o1 o2 o3 nd lo e=>Aa (C5 o1 o2 o3) (hk ub ul uf st' fp g o1 o2 o3 nd lo e))
theorem Of (n:Nat) (h:n<256):n.toUInt8.toNat=n:=by simp;omega
end Go.TVF
