/- What the laws below rest on: a framework for Go programs, and contracts of the functions that they reach. -/
import Derived.Test.YtbbjecpcjdmfgaaGreatDoorSdB
import Derived.Deep.Slices
import Derived.WideShapes
import Derived.ChangeArms
import Derived.OpenShut
import Derived.Test.YtbbjecpcjdmfgaaGreatDoorProg
import Derived.KernelRfl
set_option maxRecDepth 20000
set_option linter.unusedVariables false
set_option linter.unusedSimpArgs false
section
namespace Go.TVF
open Go.IntKind(i64 u8)
open Go.RowKit (Below)
section
variable {P:Program} {g:Ghost} {st:St} {w:World}
theorem Lq {s:Nat} {f:Nat->TV}:∀{ps:List (Nat×CTy)} {rest:List TV} {v:TV},Qw s ps (ps.map (fun p=>f p.1)++rest)=some v->v=f s
 | [],rest,v,h=>by cases rest<;>simp[Qw]at h
 | p::ps,rest,v,h=>by
  simp only[List.map_cons,List.cons_append,Qw]at h
  split at h
  ·rename_i hb;simp only[Option.some.injEq]at h;rw[<-h,Nat.eq_of_beq_eq_true hb]
  ·exact Lq h
theorem Ki {i o:Nat} {f:Nat->Nat->TV}:∀{ps:List (Nat×Nat×CTy)} {v:TV},MX i o ps (ps.map fun p=>f p.1 p.2.1)=some v->v=f i o
 | [],v,h=>by simp[MX]at h
 | p::ps,v,h=>by
  simp only[List.map_cons,MX]at h
  split at h
  ·rename_i hb
   simp only[Bool.and_eq_true]at hb
   simp only[Option.some.injEq]at h;rw[<-h,Nat.eq_of_beq_eq_true hb.1,Nat.eq_of_beq_eq_true hb.2]
  ·exact Ki h
theorem MU {s:Nat}:∀{ps:List (Nat×Nat×Nat)} {q:Nat×Nat},Pg s ps=some q->(s,q)∈ps
 | [],q,h=>by simp[Pg]at h
 | p::ps,q,h=>by
  simp only[Pg]at h
  split at h
  ·rename_i hb;simp only[Option.some.injEq]at h;subst h;rw[<-Nat.eq_of_beq_eq_true hb];simp
  ·exact List.mem_cons_of_mem _ (MU h)
theorem MW {s:Nat}:∀{ps:List (Nat×Nat)} {q:Nat},Kh s ps=some q->(s,q)∈ps
 | [],q,h=>by simp[Kh]at h
 | p::ps,q,h=>by
  simp only[Kh]at h
  split at h
  ·rename_i hb;simp only[Option.some.injEq]at h;subst h;rw[<-Nat.eq_of_beq_eq_true hb];simp
  ·exact List.mem_cons_of_mem _ (MW h)
theorem Hp (k:Ef) (vals:List TV) (i:Nat):∀n o,(EB k vals i n o).length=n
 | 0,o=>rfl
 | n+1,o=>by simp[EB,Hp k vals i n]
theorem Kf (k:Ef) (vals:List TV) (i:Nat):∀n o j,j<n->(EB k vals i n o)[j]? =some (QV k vals i (o+j))
 | 0,o,j,h=>absurd h (Nat.not_lt_zero _)
 | n+1,o,0,h=>by simp[EB]
 | n+1,o,j+1,h=>by
  simp only[EB,List.getElem?_cons_succ]
  rw[Kf k vals i n (o+1) j (by omega),show o+1+j=o+(j+1)from by omega]
theorem MQ (k:Ef) (vals:List TV):∀n s i x,(H7 k vals n s)[i]? =some (some x)->∃m,Kh (s+i) k.locs=some m/\x=EB k vals (s+i) m 0
 | 0,s,i,x,h=>by simp[H7]at h
 | n+1,s,0,x,h=>by
  simp only[H7,List.getElem?_cons_zero,Option.some.injEq]at h
  split at h
  ·rename_i m hm;simp only[Option.some.injEq]at h;exact⟨m,by simpa using hm,by simpa using h.symm⟩
  ·cases h
 | n+1,s,i+1,x,h=>by
  simp only[H7,List.getElem?_cons_succ]at h
  obtain⟨m,h1,h2⟩:=MQ k vals n (s+1) i x h
  rw[show s+1+i=s+(i+1)from by omega]at h1 h2
  exact⟨m,h1,h2⟩
theorem Lm (k:Ef) (vals:List TV):∀n s i m,i<n->Kh (s+i) k.locs=some m->(H7 k vals n s)[i]? =some (some (EB k vals (s+i) m 0))
 | 0,s,i,m,h,_=>absurd h (Nat.not_lt_zero _)
 | n+1,s,0,m,h,hm=>by simp only[H7,List.getElem?_cons_zero,Nat.add_zero]at hm⊢;rw[hm]
 | n+1,s,i+1,m,h,hm=>by
  simp only[H7,List.getElem?_cons_succ]
  have:=Lm k vals n (s+1) i m (by omega) (by rw[show s+1+i=s+(i+1)from by omega];exact hm)
  rw[show s+1+i=s+(i+1)from by omega]at this
  exact this
theorem Sim.weakLoc {loc loc':List (Option (List TV))} (s:Sim g st loc w) (h:∀(j:Nat) (x':List TV),loc'[j]? =some (some x')->∃x,loc[j]? =some (some x)/\x'.length=x.length/\∀i (hi:i<x'.length),x'[i]? =x[i]?∨x'[i]? =some .junk):Sim g st loc' w:=by
 have hd:∀k,Dom st loc' k->Dom st loc k:=by
  intro k d
  cases k with
  | box i=>exact d
  | loc i=>obtain⟨x',hx'⟩:=d;obtain⟨x,hx,_⟩:=h i x' hx';exact⟨x,hx⟩
 refine⟨s.nb,s.nt,s.below,s.fits,fun k d=>?_,fun k k' d d'=>s.inj k k' (hd k d) (hd k' d'),fun k d=>s.lo k (hd k d),s.own,?_,s.spApart,s.spLt,?_,?_,s.spTop,s.spTy,s.bTy,s.glob⟩
 ·cases k with
  | box i=>exact s.obj (.box i) d
  | loc i=>
   obtain⟨x',hx'⟩:=d
   obtain⟨x,hx,hlen,hel⟩:=h i x' hx'
   have:=s.obj (.loc i) ⟨x,hx⟩
   simp only[A3,hx]at this
   simp only[A3,hx']
   obtain⟨cs,hc,hr⟩:=this
   refine⟨cs,hc,hlen.trans hr.1,fun j hj=>?_⟩
   rcases hel j hj with e | e
   ·have hj':j<x.length:=hlen▸hj
    rw[List.getElem?_eq_getElem hj,List.getElem?_eq_getElem hj']at e
    simp only[Option.some.injEq]at e
    rw[e];exact hr.2 j hj'
   ·rw[List.getElem?_eq_getElem hj]at e
    simp only[Option.some.injEq]at e
    rw[e];exact .junk _
 ·intro id b l h' hsp
  obtain⟨c1,c2,c3,c4,c5⟩:=s.spCell id b l h' hsp
  exact⟨c1,c2,c3,fun k d=>c4 k (hd k d),c5⟩
 ·intro a ha
  obtain⟨c1,c2,c3,c4⟩:=s.sCell a ha
  exact⟨c1,c2,fun k d=>c3 k (hd k d),c4⟩
 ·intro b hb
  obtain⟨c1,c2,c3⟩:=s.protOk b hb
  exact⟨c1,fun k d=>c2 k (hd k d),c3⟩
theorem Ef.weak {k:Ef} {fr:Fr} {tmps:Array Value} {ns nl:Nat} (hk:k.ok nl fr=true) (s:Sim g st fr.loc w) (hf:Fk g w fr tmps) (hn:tmps.size=ns):
  Sim g st (k.frame ns nl (k.vals fr)).loc w/\Fk g w (k.frame ns nl (k.vals fr)) tmps:=by
 simp only[Ef.ok,Bool.and_eq_true,List.all_eq_true]at hk
 obtain⟨hp,hl⟩:=hk
 have hvals:(k.vals fr).drop k.slots.length=k.cells.map fun p=>J6 fr p.1 p.2.1:=by
  unfold Ef.vals
  rw[List.drop_append_of_le_length (by simp)]
  simp
 have hloc:∀(j:Nat) (x':List TV),(H7 k (k.vals fr) nl 0)[j]? =some (some x')->∃x,fr.loc[j]? =some (some x)/\x'.length=x.length/\∀i (hi:i<x'.length),x'[i]? =x[i]?∨x'[i]? =some .junk:=by
  intro j x' hx'
  obtain⟨m,hm,rfl⟩:=MQ _ _ _ _ _ _ hx'
  rw[Nat.zero_add]at hm
  have hsz:=hl _ (MW hm)
  unfold Ts at hsz
  simp only at hsz
  split at hsz
  ·rename_i x hx
   have hxl:=Nat.eq_of_beq_eq_true hsz
   refine⟨x,hx,by rw[Hp];exact hxl.symm,fun i hi=>?_⟩
   have him:i<m:=by rw[Hp]at hi;exact hi
   rw[Kf _ _ _ _ _ _ him,Nat.zero_add,Nat.zero_add]
   unfold QV
   rw[hvals]
   cases hc:MX j i k.cells (k.cells.map fun p=>J6 fr p.1 p.2.1)with
   | none=>exact .inr rfl
   | some v=>
    have:=Ki (f:=J6 fr) hc
    left
    have hix:i<x.length:=by omega
    simp only[this,J6,hx,List.getD_eq_getElem?_getD,List.getElem?_eq_getElem hix,Option.getD_some]
  ·cases hsz
 refine⟨s.weakLoc hloc,hn.symm,fun i=>?_⟩
 ·have hget:(k.frame ns nl (k.vals fr)).slots.f i=Qe k (k.vals fr) i:=rfl
  rw[hget]
  have hold:=hf.2 i
  unfold Qe
  split
  ·rename_i v hv
   have hv':Qw i k.slots (k.slots.map (fun p=>JF fr p.1)++k.cells.map fun p=>J6 fr p.1 p.2.1)=some v:=hv
   have:=Lq (f:=JF fr) hv'
   rw[this]
   show Rel g w (JF fr i) _
   exact hold.tv
  ·split
   ·rename_i q hq
    obtain⟨hpi,hloc2⟩:=hp _ (MU hq)
    unfold TC at hloc2
    unfold Rr at hpi
    simp only at hpi
    split at hpi
    ·rename_i j p hs
     simp only[Bool.and_eq_true]at hpi
     have e1:=Nat.eq_of_beq_eq_true hpi.1
     have e2:=Nat.eq_of_beq_eq_true hpi.2
     rw[hs]at hold
     obtain⟨⟨x,hx⟩,hv⟩:=hold
     split at hloc2
     ·rename_i m hm
      have hlt:=Nat.le_of_ble_eq_true hloc2
      simp only at hlt hm
      have:=Lm k (k.vals fr) nl 0 q.1 m (by omega) (by rw[Nat.zero_add];exact hm)
      exact⟨⟨_,this⟩,by rw[hv,e1,e2]⟩
     ·cases hloc2
    ·cases hpi
   ·exact Rel.junk _
end
end Go.TVF
end
section
namespace Go.TVF
open Go.IntKind(i64 u8)
open Go.RowKit (Below)
theorem OB {P:Program} {Q:Exit->Act->World->Prop} {a:Act} {w:World} {c:Code} (I:Nat->Act->World->Prop) (h₀:∃m,I m a w)
  (round:∀m a w,I m a w->c.wp P (Exit.then (fun a' w'=>∃m',m'<m/\I m' a' w') Q) a w):(Code.loop c).wp P Q a w:=by
 intro b k cs
 have key:∀m a w,I m a w->∃e a' w',Q e a' w'/\Arrives P (lone (b.at a (.code c:: .inLoop c::k)) cs w) b k cs e a' w':=by
  intro m
  induction m using Nat.strongRecOn with
  | _ m ih=>
   intro a w hI
   obtain⟨e,a₁,w₁,hq,harr⟩:=round m a w hI b (.inLoop c::k) cs
   cases e with
   | normal=>
    obtain⟨m',hlt,hI₁⟩:=hq
    obtain⟨e₂,a₂,w₂,hq₂,harr₂⟩:=ih m' hlt a₁ w₁ hI₁
    exact⟨e₂,a₂,w₂,hq₂,.of_steps (Steps.trans harr (.one step_inLoop)) harr₂⟩
   | exit id=>exact⟨_,a₁,w₁,hq,.pass (x:= .inLoop c) rfl (fun _ _=> .inl (by simp)) harr⟩
   | goto l=>exact⟨_,a₁,w₁,hq,.pass (x:= .inLoop c) rfl (fun _ _=> .inl (by simp)) harr⟩
   | ret=>exact⟨_,a₁,w₁,hq,.pass (x:= .inLoop c) rfl (fun _ _=> .inl (by simp)) harr⟩
   | panic ch=>exact⟨_,a₁,w₁,hq,.pass (x:= .inLoop c) rfl (fun _ _=> .inl (by simp)) harr⟩
   | outgrown=>exact⟨_,a₁,w₁,hq,.pass (x:= .inLoop c) rfl (fun _ _=> .inl (by simp)) harr⟩
 obtain⟨m,hm⟩:=h₀
 obtain⟨e,a',w',hq,harr⟩:=key m a w hm
 exact⟨e,a',w',hq,.of_steps (.one step_loop) harr⟩
theorem L3:∀{cs:List CTy} {vs:List TV} {I:Fun cs (St->Prop)} {M:Fun cs (St->Nat)} {B:List TV->Nat->St->Prop} {st:St},AllC cs I M B->Ie cs vs I (fun p=>p st)->∃m,B vs m st
 | [],[],I,M,B,st,h,hd=>⟨_,h st hd⟩
 | [],_::_,I,M,B,st,h,hd=>hd.elim
 | _::_,[],I,M,B,st,h,hd=>hd.elim
 | c::cs,v::vs,I,M,B,st,h,hd=>by
  obtain⟨y,rfl,hd2⟩:=Dh hd
  exact L3 (B:=fun l=>B (enc c y::l)) (h y) hd2
theorem Nn:∀{cs:List CTy} {vs:List TV} {I:Fun cs (St->Prop)} {M:Fun cs (St->Nat)} {B:List TV->Nat->St->Prop} {st:St} {m:Nat},AllC cs I M B->PE cs vs I M (fun p q=>p st/\q st<m)->∃m',m'<m/\B vs m' st
 | [],[],I,M,B,st,m,h,hd=>⟨_,hd.2,h st hd.1⟩
 | [],_::_,I,M,B,st,m,h,hd=>hd.elim
 | _::_,[],I,M,B,st,m,h,hd=>hd.elim
 | c::cs,v::vs,I,M,B,st,m,h,hd=>by
  obtain⟨y,rfl,hd2⟩:=Dh hd
  exact Nn (B:=fun l=>B (enc c y::l)) (h y) hd2
theorem Ko:∀{cs:List CTy} {vs:List TV} {I:Fun cs (St->Prop)} {B:List TV->St->Prop} {st:St},Uj cs I B->Ie cs vs I (fun p=>p st)->B vs st
 | [],[],I,B,st,h,hd=>h st hd
 | [],_::_,I,B,st,h,hd=>hd.elim
 | _::_,[],I,B,st,h,hd=>hd.elim
 | c::cs,v::vs,I,B,st,h,hd=>by
  obtain⟨y,rfl,hd2⟩:=Dh hd
  exact Ko (B:=fun l=>B (enc c y::l)) (h y) hd2
def QPost (g:Ghost) (w:World) (a0:Act) (Q:Exit->Fr->St->Prop) (e:Exit) (a:Act) (w':World):Prop:=Ig g w a0 (Q e) a w'
section
variable {P:Program} {cfg:Cfg} {ns nl:Nat}
theorem Su (hm:P.follows .mixedOrders=true):∀(c:Code) (h:HC) (Q:Exit->Fr->St->Prop) (fr:Fr) (st:St) (g:Ghost) (w:World) (a:Act),cwp cfg P ns nl c h Q fr st->Sim g st fr.loc w->Fk g w fr a.tmps->a.tmps.size=ns->
  c.wp P (QPost g w a Q) a w:=by
 intro c
 induction c with
 | skip=>intro h Q fr st g w a hc s hf hn;exact wp_skip ⟨fr,st,g,hc,s,hf,Ext.refl _ _,rfl,rfl⟩
 | region id ops draw=>
  intro h Q fr st g w a hc s hf hn
  cases draw with
  | false=>exact wp_region_list (Kd ops.toList fr st g w a hc s hf fun a' w' hp=>hp)
  | true=>exact Od hm hc s hf fun a' w' hp=>hp
 | seq x y ihx ihy=>
  intro h Q fr st g w a hc s hf hn
  have key:∀(hx hy:HC),cwp cfg P ns nl x hx (OK (cwp cfg P ns nl y hy Q) Q) fr st->(Code.seq x y).wp P (QPost g w a Q) a w:=by
   intro hx hy hcx
   refine wp_seq (wp_mono (ihx hx _ fr st g w a hcx s hf hn) fun e a' w' hq=>?_)
   obtain⟨fr',st',g',h1,h2,h3,h4,h5⟩:=hq
   cases e with
   | normal=>
    refine wp_mono (ihy hy Q fr' st' g' w' a' h1 h2 h3 (h5.2.trans hn)) fun e a'' w'' hq2=>?_
    exact hq2.ext h4 h5
   | _=>exact⟨fr',st',g',h1,h2,h3,h4,h5⟩
  cases h with
  | cut k hx hy=>
   obtain⟨R,h1,h2⟩:=hc
   refine wp_seq (wp_mono (ihx hx _ fr st g w a h1 s hf hn) fun e a' w' hq=>?_)
   obtain⟨fr',st',g',q1,q2,q3,q4,q5⟩:=hq
   cases e with
   | normal=>
    have q1':need (k.ok nl fr') (Ie k.tys (k.vals fr') R fun p=>p st'):=q1
    rw[Al]at q1'
    obtain⟨w1,w2⟩:=Ef.weak (ns:=ns) q1'.1 q2 q3 (q5.2.trans hn)
    have hb:=Ko h2 q1'.2
    exact wp_mono (ihy hy Q _ st' g' w' a' hb w1 w2 (q5.2.trans hn)) fun e a'' w'' hq2=>hq2.ext q4 q5
   | _=>exact⟨fr',st',g',q1,q2,q3,q4,q5⟩
  | none=>exact key _ _ hc
  | seq p q=>exact key _ _ hc
  | cond p q=>exact key _ _ hc
  | block p=>exact key _ _ hc
  | loop k p=>exact key _ _ hc
 | cond c x y ihx ihy=>
  intro h Q fr st g w a hc s hf hn
  simp only[cwp]at hc
  split at hc
  ·rename_i b hb
   have hr:=NQ hf c
   rw[hb]at hr
   have hr':Rel g w (.bool b) (a.eval c):=hr
   have hev:a.eval c= .bool b:=by generalize a.eval c=q at hr';cases hr';rfl
   cases b with
   | true=>exact wp_cond_true hev (ihx h.l Q fr st g w a hc s hf hn)
   | false=>exact wp_cond_false hev (ihy h.r Q fr st g w a hc s hf hn)
  ·exact hc.elim
 | block id x ih=>
  intro h Q fr st g w a hc s hf hn
  refine wp_block (wp_mono (ih h.l (QZ id Q) fr st g w a hc s hf hn) fun e a' w' hq=>?_)
  obtain⟨fr',st',g',h1,h2,h3,h4,h5⟩:=hq
  cases e with
  | exit id'=>
   simp only[QZ]at h1
   by_cases hid:id'=id
   ·subst hid
    have hbe:(id'.beq id')=true:=Nat.beq_refl id'
    simp only[hbe]at h1
    simp only[Exit.inBlock,if_true]
    exact⟨fr',st',g',h1,h2,h3,h4,h5⟩
   ·have hbe:(id'.beq id)=false:=by
     cases hq:id'.beq id with
     | false=>rfl
     | true=>exact absurd (Nat.eq_of_beq_eq_true hq) hid
    simp only[hbe]at h1
    simp only[Exit.inBlock,hid,if_false]
    exact⟨fr',st',g',h1,h2,h3,h4,h5⟩
  | _=>exact⟨fr',st',g',h1,h2,h3,h4,h5⟩
 | loop x ih=>
  intro h Q fr st g w a hc s hf hn
  cases h with
  | loop k hx=>
   obtain⟨I,M,h1,h2⟩:=hc
   rw[Al]at h1
   refine OB (fun m a' w'=>∃vals st' g',cwp cfg P ns nl x hx (OK (fun fr st=>need (k.ok nl fr) (PE k.tys (k.vals fr) I M fun p q=>p st/\q st<m)) Q) (k.frame ns nl vals) st'/\
    Sim g' st' (k.frame ns nl vals).loc w'/\Fk g' w' (k.frame ns nl vals) a'.tmps/\Ext g w g' w'/\a'.defers=a.defers/\a'.tmps.size=a.tmps.size) ?_ ?_
   ·obtain⟨m,hm⟩:=L3 h2 h1.2
    obtain⟨w1,w2⟩:=Ef.weak (ns:=ns) h1.1 s hf hn
    exact⟨m,_,st,g,hm,w1,w2,Ext.refl _ _,rfl,rfl⟩
   ·rintro m a' w' ⟨vals,st',g',q1,q2,q3,q4,q5⟩
    refine wp_mono (ih hx _ _ st' g' w' a' q1 q2 q3 (q5.2.trans hn)) fun e a'' w'' hq=>?_
    obtain⟨fr2,st2,g2,r1,r2,r3,r4,r5⟩:=hq
    cases e with
    | normal=>
     have r1':need (k.ok nl fr2) (PE k.tys (k.vals fr2) I M fun p q=>p st2/\q st2<m):=r1
     rw[Al]at r1'
     obtain⟨m',hlt,hB⟩:=Nn h2 r1'.2
     obtain⟨w1,w2⟩:=Ef.weak (ns:=ns) r1'.1 r2 r3 (r5.2.trans (q5.2.trans hn))
     exact⟨m',hlt,_,st2,g2,hB,w1,w2,q4.trans r4,r5.1.trans q5.1,r5.2.trans q5.2⟩
    | _=>exact⟨fr2,st2,g2,r1,r2,r3,q4.trans r4,r5.1.trans q5.1,r5.2.trans q5.2⟩
  | _=>exact hc.elim
 | exit id=>intro h Q fr st g w a hc s hf hn;exact wp_exit ⟨fr,st,g,hc,s,hf,Ext.refl _ _,rfl,rfl⟩
 | ret=>intro h Q fr st g w a hc s hf hn;exact wp_ret ⟨fr,st,g,hc,s,hf,Ext.refl _ _,rfl,rfl⟩
 | _=>intro h Q fr st g w a hc s hf hn;exact hc.elim
def JO (P:Program) (fr:Fr) (st:St):ResultVar->Option TV
 | .tmp t=>some (JF fr t)
 | .cell a t=>match II P t with
  | some true=>match P.cellsOf t with
   | 0=>none
   | n=>(Ai st fr.loc (fr.slots.f a) 0 n).map .agg
  | some false=>Ac st fr.loc (fr.slots.f a) 0
  | none=>none
def Hm (P:Program) (fr:Fr) (st:St):List ResultVar->Option (List TV)
 | []=>some []
 | r::rs=>match JO P fr st r with
  | some v=>(Hm P fr st rs).map (v::·)
  | none=>none
def P6:List TV->TV
 | [v]=>v
 | vs=> .tuple vs
def resT (P:Program) (fn:Func) (fr:Fr) (st:St):Option TV:=(Hm P fr st fn.results.toList).map P6
def NS (P:Program) (fr:Fr) (st:St) (r:ResultVar) (k:TV->Prop):Prop:=
 match r with
 | .tmp t=>k (JF fr t)
 | .cell a t=>match II P t with
  | some true=>match P.cellsOf t with
   | 0=>False
   | n=>Aj ((Ai st fr.loc (fr.slots.f a) 0 n).map .agg) k
  | some false=>Aj (Ac st fr.loc (fr.slots.f a) 0) k
  | none=>False
def I7 (P:Program) (fr:Fr) (st:St):List ResultVar->(List TV->Prop)->Prop
 | [],k=>k []
 | r::rs,k=>NS P fr st r fun v=>I7 P fr st rs fun vs=>k (v::vs)
theorem Mp {P:Program} {fr:Fr} {st:St} {r:ResultVar} {k:TV->Prop} (h:NS P fr st r k):∃v,JO P fr st r=some v/\k v:=by
 cases r with
 | tmp t=>exact⟨_,rfl,h⟩
 | cell a t=>
  unfold NS at h
  unfold JO
  simp only at h⊢
  cases ha:II P t with
  | none=>rw[ha]at h;exact h.elim
  | some b=>
   rw[ha]at h
   cases b with
   | true=>
    simp only at h⊢
    cases hn:P.cellsOf t with
    | zero=>rw[hn]at h;exact h.elim
    | succ n=>
     rw[hn]at h
     exact BQ.1 h
   | false=>exact BQ.1 h
theorem HZ {P:Program} {fr:Fr} {st:St}:∀{rs:List ResultVar} {k:List TV->Prop},I7 P fr st rs k->∃vs,Hm P fr st rs=some vs/\k vs
 | [],k,h=>⟨[],rfl,h⟩
 | r::rs,k,h=>by
  obtain⟨v,h1,h2⟩:=Mp h
  obtain⟨vs,h3,h4⟩:=HZ h2
  exact⟨v::vs,by simp[Hm,h1,h3],h4⟩
def retQ (P:Program) (fn:Func) (R:TV->St->Prop):Exit->Fr->St->Prop
 | .normal,fr,st=>I7 P fr st fn.results.toList fun vs=>R (P6 vs) st
 | .ret,fr,st=>I7 P fr st fn.results.toList fun vs=>R (P6 vs) st
 | _,_,_=>False
def GL (cfg:Cfg) (fn:Func) (args:List TV):Fr:=⟨⟨fn.ntmps,fun i=>match args[i]? with | some v=> .t v | none=> .t .undef⟩,cfg.loc.map fun _=>none⟩
theorem NR {g:Ghost} {st:St} {w:World} {fr:Fr} {tmps:Array Value} (s:Sim g st fr.loc w) (hf:Fk g w fr tmps) {r:ResultVar} {v:TV} (h:JO P fr st r=some v):
  ∃u,(match r with | .tmp t=>pure (tmps.getD t Go.undef) | .cell a t=>do loadVar t (<-asAddr (tmps.getD a Go.undef)):Sem Value).run P w= .ok u w/\Rel g w v u:=by
 cases r with
 | tmp t=>
  simp only[JO,Option.some.injEq]at h
  subst h
  exact⟨_,rfl,(hf.2 t).tv⟩
 | cell a t=>
  simp only[JO]at h
  have hld:∀p,Bm g w fr.loc p (tmps.getD a Go.undef)->(Dr P st fr.loc t p).Is (.t v)->∃u,(do loadVar t (<-asAddr (tmps.getD a Go.undef)):Sem Value).run P w= .ok u w/\Rel g w v u:=by
   intro p hp hl
   have hl':=hl
   obtain⟨u,hu,hr⟩:=Lr (P:=P) s hp hl'
   have hsa:(Instr.loadAt t (tmps.getD a Go.undef)).run P w=(do loadVar t (<-asAddr (tmps.getD a Go.undef)):Sem Value).run P w:=by
    generalize hq:tmps.getD a Go.undef=q at hp hu
    simp only[Instr.loadAt,Sem.run_bind]
    cases q with
    | pointer o=>cases o with
     | none=>simp[Instr.loadAt,Instr.sureAddr]at hu
     | some ad=>simp[Instr.sureAddr,asAddr]
    | _=>simp[Instr.loadAt,Instr.sureAddr]at hu
   exact⟨u,by rw[<-hsa];exact hu,hr⟩
  split at h
  ·rename_i ha
   split at h
   ·cases h
   ·rename_i n hn
    refine hld _ (hf.2 a) ?_
    unfold Dr
    rw[ha]
    exact⟨v,by
     split
     ·rename_i h0;exact absurd h0 hn
     ·exact h,rfl⟩
  ·rename_i ha
   refine hld _ (hf.2 a) ?_
   unfold Dr
   rw[ha]
   exact⟨v,h,rfl⟩
  ·cases h
theorem I6 {g:Ghost} {st:St} {w:World} {fr:Fr} {tmps:Array Value} (s:Sim g st fr.loc w) (hf:Fk g w fr tmps):∀{rs:List ResultVar} {vs:List TV},Hm P fr st rs=some vs->
  ∃us:List Value,(rs.mapM (fun r=>match r with | .tmp t=>pure (tmps.getD t Go.undef) | .cell a t=>do loadVar t (<-asAddr (tmps.getD a Go.undef))):Sem (List Value)).run P w= .ok us w/\AD g w vs us
 | [],vs,h=>by simp only[Hm,Option.some.injEq]at h;subst h;exact⟨[],rfl,.nil _ _⟩
 | r::rs,vs,h=>by
  simp only[Hm]at h
  split at h
  ·rename_i v hv
   obtain⟨vs',hvs',rfl⟩:=Option.map_eq_some_iff.1 h
   obtain⟨u,hu,hr⟩:=NR s hf hv
   obtain⟨us,hus,hrs⟩:=I6 s hf hvs'
   refine⟨u::us,?_,.cons hr hrs⟩
   rw[List.mapM_cons]
   simp only[Sem.run_bind,hu,Result.andThen_ok,hus,Sem.run_pure]
  ·cases h
theorem Qj {g:Ghost} {st:St} {w:World} {fr:Fr} {tmps:Array Value} (s:Sim g st fr.loc w) (hf:Fk g w fr tmps) {fn:Func} {v:TV} (h:resT P fn fr st=some v):∃u,(results fn tmps).run P w= .ok u w/\Rel g w v u:=by
 unfold resT at h
 cases hr:Hm P fr st fn.results.toList with
 | none=>rw[hr]at h;cases h
 | some vs=>
  rw[hr]at h
  obtain⟨us,hus,hrel⟩:=I6 s hf hr
  have hrun:(fn.results.mapM (fun r=>match r with | .tmp t=>pure (tmps.getD t Go.undef) | .cell a t=>do loadVar t (<-asAddr (tmps.getD a Go.undef))):Sem (Array Value)).run P w= .ok us.toArray w:=by
   rw[<-Array.toArray_toList (xs:=fn.results),List.mapM_toArray]
   simp only[Sem.run_map,hus,Result.andThen_ok]
  refine⟨if h:us.toArray.size=1 then us.toArray[0]else .tuple us.toArray,?_,?_⟩
  ·have hres:results fn tmps=(do
     let vs<-(fn.results.mapM (fun r=>match r with | .tmp t=>pure (tmps.getD t Go.undef) | .cell a t=>do loadVar t (<-asAddr (tmps.getD a Go.undef))):Sem (Array Value))
     pure (if h:vs.size=1 then vs[0]else .tuple vs)):=rfl
   rw[hres,Sem.run_bind,hrun]
   rfl
  ·cases vs with
   | nil=>
    simp only[Option.map_some,Option.some.injEq,P6]at h;subst h
    have:us=[]:=List.eq_nil_of_length_eq_zero hrel.1.symm
    subst this
    exact Rel.tuple [] [] rfl (fun i hi=>absurd hi (Nat.not_lt_zero _))
   | cons v1 vs1=>cases vs1 with
    | nil=>
     simp only[Option.map_some,Option.some.injEq,P6]at h;subst h
     cases us with
     | nil=>have:=hrel.1;simp at this
     | cons u1 us1=>
      have:us1=[]:=List.eq_nil_of_length_eq_zero (by have:=hrel.1;simpa using this.symm)
      subst this
      simpa using hrel.2 0 (by simp)
    | cons v2 vs2=>
     simp only[Option.map_some,Option.some.injEq,P6]at h;subst h
     have hl:us.toArray.size≠1:=by have:=hrel.1;simp at this⊢;omega
     rw[dif_neg hl]
     exact Rel.tuple _ us hrel.1 hrel.2
theorem RQ (hm:P.follows .mixedOrders=true) {f:FuncId} {fn:Func} {c:Code} (hcall:∀(vs:Array Value) (w:World),(callFunc f vs).run P w= .ok (.enter f vs) w) (hf:P.funcs[f]? =some fn) (hb:fn.body=some c)
  (cfg:Cfg) (h:HC) {args:List TV} {st:St} {R:TV->St->Prop} (hn:args.length<=fn.ntmps)
  (hc:cwp cfg P fn.ntmps cfg.loc.length c h (retQ P fn R) (GL cfg fn args) st):CX P f args st R:=by
 refine Ex hcall fun g w vargs s hr=>?_
 refine calls_of_wp hf hb ?_
 have hlen:vargs.length=args.length:=hr.1.symm
 have hsize:(vargs.toArray++Array.replicate (fn.ntmps-vargs.toArray.size) Go.undef).size=fn.ntmps:=by simp;omega
 have hsim:Sim g st (GL cfg fn args).loc w:=s.weakLoc fun j x' hx'=>by
  simp only[GL,List.getElem?_map]at hx'
  cases hq:cfg.loc[j]? with
  | none=>rw[hq]at hx';cases hx'
  | some q=>rw[hq]at hx';simp at hx'
 have hfr:Fk g w (GL cfg fn args) (vargs.toArray++Array.replicate (fn.ntmps-vargs.toArray.size) Go.undef):=by
  refine⟨by rw[hsize];rfl,fun i=>?_⟩
  by_cases hia:i<args.length
  ·have h1:(GL cfg fn args).slots.f i= .t args[i]:=by simp[GL,hia]
   have h2:(vargs.toArray++Array.replicate (fn.ntmps-vargs.toArray.size) Go.undef).getD i Go.undef=vargs.getD i Go.undef:=by
    have:i<vargs.length:=by omega
    have hin:i<fn.ntmps:=by omega
    simp[Array.getD,Array.getElem_append,this,hin,List.getD_eq_getElem?_getD]
    omega
   rw[h1,h2]
   exact hr.2 i hia
  ·have h1:(GL cfg fn args).slots.f i= .t .undef:=by simp[GL,hia]
   have h2:(vargs.toArray++Array.replicate (fn.ntmps-vargs.toArray.size) Go.undef).getD i Go.undef=Go.undef:=by
    have:¬i<vargs.length:=by omega
    simp[Array.getD,Array.getElem_append,this]
   rw[h1,h2]
   exact Rel.undef
 refine wp_mono (Su hm c h _ _ st g w {tmps:=vargs.toArray++Array.replicate (fn.ntmps-vargs.toArray.size) Go.undef,defers:=[]} hc hsim hfr hsize) fun e a' w' hq=>?_
 obtain⟨fr',st',g',h1,h2,h3,h4,h5,h6⟩:=hq
 have fin:I7 P fr' st' fn.results.toList (fun vs=>R (P6 vs) st')->a'.defers=[]/\∃v,(results fn a'.tmps).run P w'= .ok v w'/\∃v',Ending.returned v= .returned v'/\∃r st' g',R r st'/\Sim g' st' [] w'/\Rel g' w' r v'/\Ext g w g' w':=by
  intro ho
  obtain⟨vs,hvs,hR⟩:=HZ ho
  obtain⟨u,hu,hrel⟩:=Qj (fn:=fn) h2 h3 (by unfold resT;rw[hvs];rfl)
  exact⟨h5,u,hu,u,rfl,_,st',g',hR,h2.dropLoc (fun j x hx=>by simp at hx),hrel,h4⟩
 cases e with
 | normal=>exact fin h1
 | ret=>exact fin h1
 | _=>exact h1.elim
def St.zero:St:={nb:=0,box:=fun _=> .dead,nt:=0,live:=fun _=>false,ty:=fun _=>none,bt:=fun _=>none}
def Ghost.start (w:World):Ghost:={base:=w.heap.size,w0:=w,nb:=0,bk:=fun _=>0,lam:=fun _=>0,nt:=0,sp:=fun _=>none,S:=fun a=>a.spot=none/\∃v,w.cell? a=some v,prot:=fun _=>False}
theorem Sim.start (w:World) (hG:∀w',Below w.heap.size w w'->Ox w'):Sim (Ghost.start w) St.zero [] w:=by
 have hd:∀k,¬Dom St.zero [] k:=by
  intro k d
  cases k with
  | box i=>exact absurd d (Nat.not_lt_zero _)
  | loc i=>obtain⟨x,hx⟩:=d;simp at hx
 exact⟨rfl,rfl,Below.refl _ _,Nat.le_refl _,fun k d=>absurd d (hd k),fun k k' d=>absurd d (hd k),fun k d=>absurd d (hd k),fun id h=>absurd h (Nat.not_lt_zero _),
  fun id b l h hh=>(by cases hh),fun i j b l h l' h' _ hh=>(by cases hh),fun id _=>rfl,fun a ha=>⟨ha.1,ha.2,fun k d=>absurd d (hd k),fun id l h hh=>(by cases hh)⟩,fun b hb=>hb.elim,fun id b l h hh=>(by cases hh),fun id b l h T hh=>(by cases hh),fun b T hb=>absurd hb (Nat.not_lt_zero _),hG⟩
theorem QW {f:FuncId} {args:List TV} (hcall:∀(vs:Array Value) (w:World),(callFunc f vs).run P w= .ok (.enter f vs) w) (h:CX P f args St.zero fun r _=>r= .bool true) (w:World) (hG:∀w',Below w.heap.size w w'->Ox w') (vargs:List Value) (hr:AD (Ghost.start w) w args vargs):
  Calls P f vargs.toArray w fun e w'=>e= .returned (.bool true)/\Below w.heap.size w w':=by
 have h1:=h.run (Ghost.start w) w vargs (Sim.start w hG) hr
 unfold Co at h1
 rw[hcall]at h1
 refine Calls.mono h1 ?_
 rintro e w' ⟨v,rfl,r,st',g',rfl,s',hrel,e'⟩
 have hb:=s'.below
 rw[e'.base,e'.w0]at hb
 cases hrel
 exact⟨rfl,hb⟩
end
def QY (fn:Func):Code:=match fn.body with | some c=>c | none=> .skip
def Fw (cfg:Cfg) (P:Program) (h:HC) (fn:Func) (args:List TV) (st:St) (R:TV->St->Prop):Prop:=
 cwp cfg P fn.ntmps cfg.loc.length (QY fn) h (retQ P fn R) (GL cfg fn args) st
def fits (fn:Func) (args:List TV):Bool:=(fn.body.isSome).and (args.length.ble fn.ntmps)
theorem Af {P:Program} (hm:P.follows .mixedOrders=true) {f:FuncId} {fn:Func} (hcall:∀(vs:Array Value) (w:World),(callFunc f vs).run P w= .ok (.enter f vs) w) (hf:P.funcs[f]? =some fn)
  {cfg:Cfg} {h:HC} {args:List TV} {st:St} {R:TV->St->Prop} (hn:fits fn args=true) {V:Prop} (he:Fw cfg P h fn args st R=V) (hV:V):CX P f args st R:=by
 simp only[fits,Bool.and_eq_true]at hn
 obtain⟨c,hc⟩:=Option.isSome_iff_exists.1 hn.1
 have hb:fn.body=some (QY fn):=by rw[QY,hc]
 rw[<-he]at hV
 exact RQ hm hcall hf hb cfg h (Nat.le_of_ble_eq_true hn.2) hV
def Bj (cs:List CTy) (v:TV) (f:Fun cs Prop):Prop:=
 match v with
 | .agg l=>decL cs l f
 | _=>False
def stB (st:St) (p:TV) (xs:List TV) (k:St->Prop):Prop:=
 match p with
 | .box b off=>∃l,st.box b= .cells l/\off+xs.length<=l.length/\k (st.put b (.cells (setAll l off xs)))
 | _=>False
theorem Ab {p:Prop} [Decidable p] {x y:Prop} (h1:p->x) (h2:¬p->y):BIf (decide p) x y:=by
 by_cases h:p
 ·simp only[h,decide_true,BIf];exact h1 h
 ·simp only[h,decide_false,BIf];exact h2 h
theorem Aw {b:Bool} {x y:Prop} (h1:b=true->x) (h2:b=false->y):BIf b x y:=by
 cases b
 ·exact h2 rfl
 ·exact h1 rfl
end Go.TVF
end
section
namespace Go.TVF
open Go.IntKind(i64 u8)
structure Am (a b:St):Prop where
 nb:a.nb<=b.nb
 box:∀i,i<a.nb->b.box i=a.box i
 nt:a.nt<=b.nt
 live:∀i,i<a.nt->b.live i=a.live i
 ty:∀i,i<a.nt->b.ty i=a.ty i
 bt:∀i,i<a.nb->b.bt i=a.bt i
theorem Am.refl (a:St):Am a a:=⟨Nat.le_refl _,fun _ _=>rfl,Nat.le_refl _,fun _ _=>rfl,fun _ _=>rfl,fun _ _=>rfl⟩
theorem Am.trans {a b c:St} (h:Am a b) (k:Am b c):Am a c:=
 ⟨Nat.le_trans h.nb k.nb,fun i hi=>(k.box i (Nat.lt_of_lt_of_le hi h.nb)).trans (h.box i hi),Nat.le_trans h.nt k.nt,fun i hi=>(k.live i (Nat.lt_of_lt_of_le hi h.nt)).trans (h.live i hi),fun i hi=>(k.ty i (Nat.lt_of_lt_of_le hi h.nt)).trans (h.ty i hi),fun i hi=>(k.bt i (Nat.lt_of_lt_of_le hi h.nb)).trans (h.bt i hi)⟩
theorem Am.fresh {a b:St} (h:Am a b) (T:Option Nat):Am a (b.fresh T):=
 h.trans ⟨Nat.le_refl _,fun _ _=>rfl,Nat.le_succ _,fun i hi=>by simp only[St.fresh];rw[if_neg (by omega)],fun i hi=>by simp only[St.fresh];rw[if_neg (by omega)],fun _ _=>rfl⟩
theorem Am.push {a b:St} (h:Am a b) (o:HW) (T:Option Nat):Am a (b.push o T):=
 h.trans ⟨Nat.le_succ _,fun i hi=>by simp only[St.push];rw[if_neg (by omega)],Nat.le_refl _,fun _ _=>rfl,fun _ _=>rfl,fun i hi=>by simp only[St.push];rw[if_neg (by omega)]⟩
theorem Am.retire {a b:St} (h:Am a b) {id:Nat} (hid:a.nt<=id):Am a (b.retire id):=
 ⟨h.nb,h.box,h.nt,fun i hi=>by simp only[St.retire];rw[if_neg (by omega)];exact h.live i hi,h.ty,h.bt⟩
theorem Am.put {a b:St} (h:Am a b) {i:Nat} (hi:a.nb<=i) (o:HW):Am a (b.put i o):=
 ⟨h.nb,fun j hj=>by simp only[St.put];rw[if_neg (by omega)];exact h.box j hj,h.nt,h.live,h.ty,h.bt⟩
theorem FL (l:B8):(AS l).length=l.length:=by simp[AS]
theorem HA:∀l:B8,EM (AS l)=some l
 | []=>rfl
 | c::l=>by
  have:=HA l
  simp only[AS]at this
  simp[AS,EM,If,Q3,this]
def Rd (sz:Nat) (v:TV) (n:Nat) (xs:List TV):Prop:=
 (v= .nilSlice/\n=0/\xs=[])∨∃tip,v= .list sz tip n xs
def Own (b sz:Nat) (st:St) (v:TV) (n:Nat) (xs:List TV):Prop:=
 (v= .nilSlice/\n=0/\xs=[])∨∃tip,v= .list sz tip n xs/\(tip= .full∨∃id,tip= .own id/\b<=id/\id<st.nt/\st.live id=true)
theorem Own.rd {b sz:Nat} {st:St} {v:TV} {n:Nat} {xs:List TV} (h:Own b sz st v n xs):Rd sz v n xs:=by
 rcases h with h | ⟨tip,h,_⟩
 ·exact .inl h
 ·exact .inr ⟨tip,h⟩
theorem Own.ext {b sz:Nat} {st st':St} {v:TV} {n:Nat} {xs:List TV} (h:Own b sz st v n xs) (e:Am st st'):Own b sz st' v n xs:=by
 rcases h with h | ⟨tip,h,ht | ⟨id,h1,h2,h3,h4⟩⟩
 ·exact .inl h
 ·exact .inr ⟨tip,h,.inl ht⟩
 ·exact .inr ⟨tip,h,.inr ⟨id,h1,h2,Nat.lt_of_lt_of_le h3 e.nt,(e.live id h3).trans h4⟩⟩
theorem Own.nil (b sz:Nat) (st:St):Own b sz st .nilSlice 0 []:= .inl ⟨rfl,rfl,rfl⟩
theorem Own.full (b sz:Nat) (st:St) (n:Nat) (xs:List TV):Own b sz st (.list sz .full n xs) n xs:= .inr ⟨_,rfl,.inl rfl⟩
theorem Own.fresh {b sz:Nat} {st:St} {T:Option Nat} (n:Nat) (xs:List TV) (hb:b<=st.nt):Own b sz (st.fresh T) (.list sz (.own st.nt) n xs) n xs:=
 .inr ⟨_,rfl,.inr ⟨st.nt,rfl,hb,Nat.lt_succ_self _,by simp[St.fresh]⟩⟩
theorem Rd.isSl {sz:Nat} {v:TV} {n:Nat} {xs:List TV} (h:Rd sz v n xs):TVF.isSl v=true:=by
 rcases h with⟨rfl,_⟩ | ⟨tip,rfl⟩<;>rfl
theorem Rd.lenS {sz:Nat} {v:TV} {n:Nat} {xs:List TV} (h:Rd sz v n xs):TVF.lenS v=n:=by
 rcases h with⟨rfl,rfl,_⟩ | ⟨tip,rfl⟩<;>rfl
theorem Rd.lenZ {sz:Nat} {v:TV} {n:Nat} {xs:List TV} (h:Rd sz v n xs):TVF.lenZ sz v=n:=by
 rcases h with⟨rfl,rfl,_⟩ | ⟨tip,rfl⟩
 ·rfl
 ·simp[TVF.lenZ]
theorem Rd.isLst {sz:Nat} {v:TV} {n:Nat} {xs:List TV} (h:Rd sz v n xs):TVF.isLst sz v=true:=by
 rcases h with⟨rfl,rfl,_⟩ | ⟨tip,rfl⟩
 ·rfl
 ·simp[TVF.isLst]
theorem Rd.one {sz:Nat} {v:TV} {n:Nat} {xs:List TV} (h:Rd sz v n xs):Au v=true:=by
 rcases h with⟨rfl,rfl,_⟩ | ⟨tip,rfl⟩<;>rfl
theorem Rd.ld {sz:Nat} {v:TV} {n:Nat} {xs:List TV} (h:Rd sz v n xs) (st:St) (i j:Nat) (hi:i*sz+j<xs.length):Ac st [] (.t (ixT sz v i)) j=some xs[i*sz+j]:=by
 rcases h with⟨rfl,rfl,rfl⟩ | ⟨tip,rfl⟩
 ·simp at hi
 ·simp[Ac,ixT,hi]
theorem Rd.ldf {sz:Nat} {v:TV} {n:Nat} {xs:List TV} (h:Rd sz v n xs) (st:St) (i f:Nat) (hi:i*sz+f<xs.length):Ac st [] (.t (Az (ixT sz v i) f)) 0=some xs[i*sz+f]:=by
 rcases h with⟨rfl,rfl,rfl⟩ | ⟨tip,rfl⟩
 ·simp at hi
 ·simp[Ac,ixT,Az,hi]
theorem LZ {T b sz bytes:Nat} {st0 st:St} {v:TV} {n k:Nat} {xs ys:List TV} {K:TV->St->Prop} (e:Am st0 st) (hb:b=st0.nt) (h:Own b sz st v n xs) (hby:(n+k)*bytes<=140737488355328) (hys:k=0->ys=[])
  (hK:∀v' st',Am st0 st'->st'.box=st.box->Own b sz st' v' (n+k) (xs++ys)->K v' st'):CV T sz bytes v k ys st K:=by
 subst hb
 rcases h with⟨rfl,rfl,rfl⟩ | ⟨tip,rfl,ht⟩
 ·simp only[CV]
  cases k with
  | zero=>rw[hys rfl]at hK;exact hK _ _ e rfl (.nil _ _ _)
  | succ m=>
   simp only[Al]
   refine⟨by simpa using hby,hK _ _ (e.fresh _) rfl ?_⟩
   simp only[List.nil_append,Nat.zero_add]
   exact Own.fresh _ _ e.nt
 ·simp only[CV,Nat.beq_refl]
  refine⟨hby,?_⟩
  rcases ht with rfl | ⟨id,rfl,h1,h2,h3⟩
  ·cases k with
   | zero=>rw[hys rfl]at hK;simp only[List.append_nil]at hK;exact hK _ _ e rfl (Own.full _ _ _ _ _)
   | succ m=>exact hK _ _ (e.fresh _) rfl (Own.fresh _ _ e.nt)
  ·exact⟨h3,hK _ _ ((e.retire h1).fresh _) rfl (Own.fresh (st:=st.retire id) _ _ e.nt)⟩
theorem Aa {b:Bool} {k:Prop} (h:b=true) (hk:k):need b k:=Al.2 ⟨h,hk⟩
theorem Ad {α:Type} {o:Option α} {x:α} {k:α->Prop} (h:o=some x) (hk:k x):Aj o k:=by rw[h];exact hk
theorem Ah (x:Int) (h1: -9223372036854775808<=x) (h2:x<=9223372036854775807):IntKind.wrap .i64 x=x:=by
 unfold IntKind.wrap
 simp only[IntKind.signed,IntKind.bits]
 simp
 omega
theorem wrapU8 (x:Int) (h1:0<=x) (h2:x<=255):IntKind.wrap .u8 x=x:=by
 unfold IntKind.wrap
 simp only[IntKind.signed,IntKind.bits]
 simp
 omega
end Go.TVF
end
section
namespace Go.TVF
open Go.IntKind(i64 u8)
open Go.RowKit (Below)
theorem T4 {r:TV} {st':St} (h:Ep [.one .bool] r (fun (b:Bool) (_:St)=>b=true) (fun p=>p st')):r= .bool true:=by
 cases r<;>simp only[Ep,Fc,AQ]at h<;>first | exact h.elim | skip
 subst h;rfl
theorem calls_law {P:Program} {f:FuncId} {args:List TV} (hcall:∀(vs:Array Value) (w:World),(callFunc f vs).run P w= .ok (.enter f vs) w) (h:CallT P f args [.one .bool] St.zero (fun r _=>r=true)) (w:World) (hG:∀w',Below w.heap.size w w'->Ox w') (vargs:List Value) (hr:AD (Ghost.start w) w args vargs):
  Calls P f vargs.toArray w fun e w'=>e= .returned (.bool true)/\Below w.heap.size w w':=
 QW hcall (CX.mono h fun r st' hd=>T4 hd) w hG vargs hr
theorem Ld (g:Ghost) (w:World) (s:ByteArray):Rel g w (.str s.data.toList) (.string s):=by
 have:=Rel.str (g:=g) (w:=w) s.data.toList
 simpa using this
def LB:List CTy->List TV->Prop
 | [],xs=>xs=[]
 | .int k::cs,xs=>∃n ys,xs= .int k n::ys/\(Lit.int k n).wf=true/\LB cs ys
 | .str::cs,xs=>∃l ys,xs= .str l::ys/\l.length<=maxLen/\LB cs ys
 | .bool::cs,xs=>∃b ys,xs= .bool b::ys/\LB cs ys
 | .tv::_,_=>False
def Ui (P:Program):CTy->TypeId->Prop
 | .int k,t=>P.underlying t=some (.int k)
 | .bool,t=>P.underlying t=some .bool
 | .str,t=>P.underlying t=some .string
 | .tv,_=>False
section
variable {H:Type} {enc:TypeId×Value->H} {P:Program} {w:World} {base:Nat} {sp:Nat->Bool} {held:Bool}
theorem R8 {c:CTy} {t:TypeId} {fuel:Nat} {cs:List Value} {x:DataW H×List MemPlace} (g:Ghost) (hc:Ui P c t) (h:DataW.trod enc P w base sp held fuel t cs=some x):
  ∃v u,cs=[u]/\Rel g w v u/\LB [c] [v]:=by
 cases c with
 | int k=>
  obtain⟨n,rfl,_,hw⟩:=DataW.trod_int hc h
  exact⟨_,_,rfl,.int k n,n,[],rfl,hw,rfl⟩
 | bool=>
  obtain⟨b,rfl,_⟩:=DataW.trod_bool hc h
  exact⟨_,_,rfl,.bool b,b,[],rfl,rfl⟩
 | str=>
  obtain⟨s,rfl,_,hs⟩:=DataW.trod_string hc h
  exact⟨_,_,rfl,Ld g w s,_,[],rfl,by rw[Array.length_toList];exact hs,rfl⟩
 | tv=>exact hc.elim
theorem Q6 (b off i:Nat):(⟨b,off,none⟩:Addr).add i=⟨b,off+i,none⟩:=by
 unfold Addr.add;split
 ·rename_i h;subst h;rfl
 ·rfl
end
end Go.TVF
end
namespace Go.TVF
open Go.IntKind(i64 u8)
open Go Go.Proofs
theorem mixed:Tryz.prog.follows .mixedOrders=true:=by kernel_rfl
noncomputable def PR:Program:=Tryz.prog
abbrev V13(X:Type):=Int->Bool->Bool->B8->Int->Int->Int->Int->Int->B8->TV->TV->TV->X
abbrev sV:RTy:=.agg [.int .i64,.bool,.bool,.str,.int .i64,.int .i64,.int .i64,.int .i64,.int .i64,.str,.tv,.tv,.tv]
abbrev cV(a:Int)(b c:Bool)(d:B8)(e f g h i:Int)(j:B8)(k l m:TV):List TV:=[.int .i64 a,.bool b,.bool c,.str d,.int .i64 e,.int .i64 f,.int .i64 g,.int .i64 h,.int .i64 i,.str j,k,l,m]
abbrev BId(p:Prop)[Decidable p](a b:Prop):Prop:=BIf (decide p) a b
def fn_datakitlaw25_SectionValues:Nat:=6
def Cn:Nat:=7
def AI:Nat:=8
def CM:Nat:=9
def CL:Nat:=11
def Cl:Nat:=13
def DO:Nat:=19
def BZ:Nat:=21
def FQ:Nat:=22
def AW:Nat:=23
def CD:Nat:=24
def Da:Nat:=25
def Ao:Nat:=26
def Ba:Nat:=28
def Bg:Nat:=29
def AH:Nat:=30
def D2:Nat:=36
def FU:Nat:=37
def A5:Nat:=38
def Cm:Nat:=39
def CF:Nat:=41
def CE:Nat:=42
def DY:Nat:=43
def Dt:Nat:=44
def Cj:Nat:=45
def BM:Nat:=46
def Cd:Nat:=47
def CC:Nat:=50
def Ds:Nat:=60
def GP:Nat:=61
def BJ:Nat:=62
def Bt:Nat:=64
def Cc:Nat:=65
def BP:Nat:=66
def Aq:Nat:=67
def Ar:Nat:=68
def De:Nat:=69
def Ay:Nat:=70
def Cr:Nat:=71
def BX:Nat:=72
def BF:Nat:=73
def BL:Nat:=74
def AO:Nat:=75
def FP:Nat:=76
def E6:Nat:=77
def Ax:Nat:=78
def Bf:Nat:=79
def Bu:Nat:=80
def E5:Nat:=88
def DP:Nat:=89
def Df:Nat:=90
def FO:Nat:=91
def ID:Nat:=96
def E8:Nat:=97
def BG:Nat:=98
def Bq:Nat:=99
def AA:Nat:=100
def Cq:Nat:=101
def E7:Nat:=102
def Ce:Nat:=103
def DX:Nat:=104
def D1:Nat:=105
def Bw:Nat:=106
def Eu:Nat:=107
def Em:Nat:=110
def El:Nat:=111
def GN:Nat:=112
def FS:Nat:=117
def Hw:Nat:=118
def Eo:Nat:=119
def BA:Nat:=120
def AT:Nat:=121
def DZ:Nat:=123
def FT:Nat:=125
def Eb:Nat:=126
def Hv:Nat:=131
def FR:Nat:=132
def GO:Nat:=133
def Bz:Nat:=134
def AF:Nat:=135
def Ae:Nat:=136
def A0:Nat:=138
def BN:Nat:=144
def A8:Nat:=145
def AC:Nat:=149
def Mm:B8:=[97]
def str1:B8:=[98]
def str2:B8:=[120]
def str3:B8:=[121]
def str4:B8:=[122]
def str5:B8:=[49]
def str6:B8:=[48]
theorem D3 (l:TV) (p:TV) (st:St) (K:Bool->St->Prop) (h:CallT PR Cn [l] [.one .bool] st (fun (b1:Bool) d=>BIf (!b1) (CallT PR AI [] [.one .bool] d (fun (b2:Bool) a7=>K b2 a7)) (need (isSl p) (BId ((60:Int)<(lenS p:Int)) (CallT PR AI [] [.one .bool] d (fun (b3:Bool) d3=>K b3 d3)) (CallT PR CM [l] [sV,.one (.int .i64),.one (.int .i64)] d (fun (n1:Int) (b4 b5:Bool) (s1:B8) (n2 n3 n4 n5 n6:Int) (s2:B8) (v1 v2 v3:TV) (n7 n8:Int) a5=>need (List.all (cV n1 b4 b5 s1 n2 n3 n4 n5 n6 s2 v1 v2 v3) Au) (CallT PR DO [l,p] [.one (.int .i64),.one .tv,.one (.int .i64)] a5 (fun (n9:Int) (v4:TV) (e:Int) a=>BId (n8≠0) (BId (n8=0) (CallT PR AI [] [.one .bool] a (fun (b6:Bool) d0=>K b6 d0)) (BId (e=n8) (CallT PR AI [] [.one .bool] a (fun (b7:Bool) a4=>K b7 a4)) (K false a))) (BId (e≠0) (BId (n8=0) (CallT PR AI [] [.one .bool] a (fun (b8:Bool) c7=>K b8 c7)) (BId (e=n8) (CallT PR AI [] [.one .bool] a (fun (b9:Bool) c8=>K b9 c8)) (K false a))) (BId (n9<0) (K false a) (need (isSl l) (BId ((lenS l:Int)<=n9) (K false a) (((0<=n9/\n9<(lenZ 16 l:Int))/\need (isPtr (ixT 16 l n9.toNat)) (Aj (Ac a [] (.t (Az (ixT 16 l n9.toNat) 0)) 0) (fun (x1:TV)=>AQ .bool x1 (fun (c3:Bool)=>BIf c3 (K false a) (CallT PR BZ [(.agg (cV n1 b4 b5 s1 n2 n3 n4 n5 n6 s2 v1 v2 v3)),p] [sV,.one (.int .i64)] a (fun (a0:Int) (y q:Bool) (s3:B8) (u j n s g:Int) (s4:B8) (v5 v6 v7:TV) (c4:Int) f=>need (List.all (cV a0 y q s3 u j n s g s4 v5 v6 v7) Au) (((0<=n9/\n9<(lenZ 16 l:Int))/\need (isPtr (ixT 16 l n9.toNat)) (Aj ((Ai f [] (.t (Az (ixT 16 l n9.toNat) 3)) 0 13).map TV.agg) (fun (x2:TV)=>Bj [.int .i64,.bool,.bool,.str,.int .i64,.int .i64,.int .i64,.int .i64,.int .i64,.str,.tv,.tv,.tv] x2 (fun (c6:Int) (a6 c5:Bool) (s5:B8) (d2 c1 b0 d1 c9:Int) (s6:B8) (v8 v9 c2:TV)=>CallT PR BZ [(.agg (cV c6 a6 c5 s5 d2 c1 b0 d1 c9 s6 v8 v9 c2)),v4] [sV,.one (.int .i64)] f (fun (z:Int) (a1 a2:Bool) (s7:B8) (x v r k o:Int) (s8:B8) (m i w:TV) (a8:Int) b=>need (List.all (cV z a1 a2 s7 x v r k o s8 m i w) Au) (BId (c4=0) (BId (a8=0) (CallT PR FQ [(.agg (cV a0 y q s3 u j n s g s4 v5 v6 v7)),(.agg (cV z a1 a2 s7 x v r k o s8 m i w))] [.one .bool] b (fun (c0:Bool) c=>BIf c0 (CallT PR AI [] [.one .bool] c (fun (a9:Bool) a3=>K a9 a3)) (K false c))) (K false b)) (K false b))))))))))))))))))))))))))):CallT PR fn_datakitlaw25_SectionValues [l,p] [.one .bool] st K:=
 Af (cfg:=⟨[5,11,13],[],[]⟩) (h:= .none) mixed (fun _ _=>Tryz.call6 _ _) Tryz.func6 (by kernel_rfl) (by kernel_rfl) h
theorem G4 (l:TV) (st:St) (K:Bool->St->Prop) (h:∃(I1:Int->TV->St->Prop) (M1:Int->TV->St->Nat),(I1 0 l st)/\∀c f g,I1 c f g->(need (isSl f) (BId (c<(lenS f:Int)) (BId ((30:Int)<=c) (K false g) (((0<=c/\c<(lenZ 16 f:Int))/\need (isPtr (ixT 16 f c.toNat)) (Aj (Ac g [] (.t (Az (ixT 16 f c.toNat) 2)) 0) (fun (v1:TV)=>need (isSl v1) (BId ((60:Int)<(lenS v1:Int)) (K false g) (((0<=c/\c<(lenZ 16 f:Int))/\need (isPtr (ixT 16 f c.toNat)) (Aj ((Ai g [] (.t (Az (ixT 16 f c.toNat) 3)) 0 13).map TV.agg) (fun (x2:TV)=>Bj [.int .i64,.bool,.bool,.str,.int .i64,.int .i64,.int .i64,.int .i64,.int .i64,.str,.tv,.tv,.tv] x2 (fun (n1:Int) (b1 b2:Bool) (s1:B8) (n2 n3 n4 n5 n6:Int) (s2:B8) (v2 v3 v4:TV)=>CallT PR Cl [(.agg (cV n1 b1 b2 s1 n2 n3 n4 n5 n6 s2 v2 v3 v4))] [.one .bool] g (fun (b3:Bool) j=>BIf (!b3) (K false j) (∃(I2:Int->Int->TV->Int->St->Prop) (M2:Int->Int->TV->Int->St->Nat),(I2 0 0 f c j)/\∀i e b a d,I2 i e b a d->(((0<=a/\a<(lenZ 16 b:Int))/\need (isPtr (ixT 16 b a.toNat)) (Aj (Ac d [] (.t (Az (ixT 16 b a.toNat) 2)) 0) (fun (v5:TV)=>need (isSl v5) (BId (e<(lenS v5:Int)) (((0<=a/\a<(lenZ 16 b:Int))/\need (isPtr (ixT 16 b a.toNat)) (Aj (Ac d [] (.t (Az (ixT 16 b a.toNat) 2)) 0) (fun (v6:TV)=>((0<=e/\e<(lenZ 1 v6:Int))/\Aj (Ac d [] (.t (ixT 1 v6 e.toNat)) 0) (fun (x5:TV)=>AQ .str x5 (fun (s3:B8)=>BId ((i64.wrap ((2000:Int)-i))<(s3.length:Int)) (K false d) (((0<=a/\a<(lenZ 16 b:Int))/\need (isPtr (ixT 16 b a.toNat)) (Aj (Ac d [] (.t (Az (ixT 16 b a.toNat) 2)) 0) (fun (v7:TV)=>((0<=e/\e<(lenZ 1 v7:Int))/\Aj (Ac d [] (.t (ixT 1 v7 e.toNat)) 0) (fun (x7:TV)=>AQ .str x7 (fun (s4:B8)=>(I2 ((i64.wrap (i+(s4.length:Int)))) ((i64.wrap (e+(1:Int)))) b a d/\M2 ((i64.wrap (i+(s4.length:Int)))) ((i64.wrap (e+(1:Int)))) b a d<M2 i e b a d))))))))))))))) ((I1 ((i64.wrap (a+(1:Int)))) b d/\M1 ((i64.wrap (a+(1:Int)))) b d<M1 c f g)))))))))))))))))))) (K true g)))):CallT PR Cn [l] [.one .bool] st K:=
 Af (cfg:=⟨[],[],[]⟩) (h:=(.seq .none (.seq (.seq .none (.block (.loop ⟨[(3,.int .i64),(0,.tv)],[],[],[]⟩ (.seq .none (.seq (.block (.seq .none (.seq .none (.seq .none (.block (.loop ⟨[(4,.int .i64),(5,.int .i64),(0,.tv),(3,.int .i64)],[],[],[]⟩ .none)))))) .none))))) .none))) mixed (fun _ _=>Tryz.call7 _ _) Tryz.func7 (by kernel_rfl) (by kernel_rfl) h
theorem G6 (st:St) (K:Bool->St->Prop) (h:CallT PR AW [(.list 1 .full 2 [.str Mm,.str str1])] [.agg [.bool,.bool,.tv,.int .i64,.bool,.bool,.str,.int .i64,.int .i64,.int .i64,.int .i64,.int .i64,.str,.tv,.tv,.tv]] st (fun (b1 b2:Bool) (v1:TV) (n1:Int) (b3 b4:Bool) (s1:B8) (n2 n3 n4 n5 n6:Int) (s2:B8) (v2 v3 v4:TV) f1=>CallT PR AW [(.list 1 .full 1 [.str str4])] [.agg [.bool,.bool,.tv,.int .i64,.bool,.bool,.str,.int .i64,.int .i64,.int .i64,.int .i64,.int .i64,.str,.tv,.tv,.tv]] f1 (fun (b5 b6:Bool) (v5:TV) (n7:Int) (b7 b8:Bool) (s3:B8) (n8 n9 f2 e2 a7:Int) (s4:B8) (v6 v7 v8:TV) p=>CallT PR CM [(.list 16 .full 3 [.bool b1,.bool b2,v1,.int .i64 n1,.bool b3,.bool b4,.str s1,.int .i64 n2,.int .i64 n3,.int .i64 n4,.int .i64 n5,.int .i64 n6,.str s2,v2,v3,v4,.bool true,.bool false,(.list 1 .full 2 [.str str2,.str str3]),.int .i64 0,.bool false,.bool false,(.str []),.int .i64 0,.int .i64 0,.int .i64 0,.int .i64 0,.int .i64 0,(.str []),.nilSlice,.nilSlice,.nilSlice,.bool b5,.bool b6,v5,.int .i64 n7,.bool b7,.bool b8,.str s3,.int .i64 n8,.int .i64 n9,.int .i64 f2,.int .i64 e2,.int .i64 a7,.str s4,v6,v7,v8])] [sV,.one (.int .i64),.one (.int .i64)] p (fun (m:Int) (b9 c8:Bool) (s5:B8) (w a6 g d3 e3:Int) (s6:B8) (v9 c3 a:TV) (f9 c0:Int) f8=>need (List.all (cV m b9 c8 s5 w a6 g d3 e3 s6 v9 c3 a) Au) (CallT PR AW [(.list 1 .full 1 [.str Mm])] [.agg [.bool,.bool,.tv,.int .i64,.bool,.bool,.str,.int .i64,.int .i64,.int .i64,.int .i64,.int .i64,.str,.tv,.tv,.tv]] f8 (fun (d6 a1:Bool) (o:TV) (z:Int) (j d8:Bool) (s7:B8) (f5 e7 d7 d1 a9:Int) (s8:B8) (c1 e4 a4:TV) k=>CallT PR AW [(.list 1 .full 2 [.str Mm,.str str1])] [.agg [.bool,.bool,.tv,.int .i64,.bool,.bool,.str,.int .i64,.int .i64,.int .i64,.int .i64,.int .i64,.str,.tv,.tv,.tv]] k (fun (e5 f3:Bool) (s:TV) (a2:Int) (c2 x:Bool) (s9:B8) (r a0 v c9 e9:Int) (d9:B8) (a8 e8 e0:TV) f4=>CallT PR CL [(.list 16 .full 2 [.bool d6,.bool a1,o,.int .i64 z,.bool j,.bool d8,.str s7,.int .i64 f5,.int .i64 e7,.int .i64 d7,.int .i64 d1,.int .i64 a9,.str s8,c1,e4,a4,.bool e5,.bool f3,s,.int .i64 a2,.bool c2,.bool x,.str s9,.int .i64 r,.int .i64 a0,.int .i64 v,.int .i64 c9,.int .i64 e9,.str d9,a8,e8,e0])] [.one (.int .i64),.one (.int .i64)] f4 (fun (d2 y:Int) f0=>CallT PR AW [(.list 1 .full 1 [.str Mm])] [.agg [.bool,.bool,.tv,.int .i64,.bool,.bool,.str,.int .i64,.int .i64,.int .i64,.int .i64,.int .i64,.str,.tv,.tv,.tv]] f0 (fun (i c5:Bool) (a5:TV) (f:Int) (d5 e6:Bool) (c6:B8) (f6 b0 d0 f7 e1:Int) (l:B8) (u q c7:TV) n=>CallT PR CL [(.list 16 .full 2 [.bool i,.bool c5,a5,.int .i64 f,.bool d5,.bool e6,.str c6,.int .i64 f6,.int .i64 b0,.int .i64 d0,.int .i64 f7,.int .i64 e1,.str l,u,q,c7,.bool true,.bool true,(.list 1 .full 1 [.str Mm]),.int .i64 0,.bool false,.bool false,(.str []),.int .i64 0,.int .i64 0,.int .i64 0,.int .i64 0,.int .i64 0,(.str []),.nilSlice,.nilSlice,.nilSlice])] [.one (.int .i64),.one (.int .i64)] n (fun (c4 d4:Int) b=>BId (c0=0) (need (isSl a) (BId ((lenS a:Int)=(2:Int)) (((0<=(1:Int)/\(1:Int)<(lenZ 14 a:Int))/\need (isPtr (ixT 14 a (Int.toNat (1:Int)))) (Aj (Ac b [] (.t (Az (ixT 14 a (Int.toNat (1:Int))) 0)) 0) (fun (x1:TV)=>AQ .str x1 (fun (a3:B8)=>BId (a3=str2) (((0<=(1:Int)/\(1:Int)<(lenZ 14 a:Int))/\need (isPtr (ixT 14 a (Int.toNat (1:Int)))) (need (isPtr (Az (ixT 14 a (Int.toNat (1:Int))) 1)) (Aj (Ac b [] (.t (Az (Az (ixT 14 a (Int.toNat (1:Int))) 1) 12)) 0) (fun (e:TV)=>need (isSl e) (BId ((lenS e:Int)=(1:Int)) (((0<=(1:Int)/\(1:Int)<(lenZ 14 a:Int))/\need (isPtr (ixT 14 a (Int.toNat (1:Int)))) (need (isPtr (Az (ixT 14 a (Int.toNat (1:Int))) 1)) (Aj (Ac b [] (.t (Az (Az (ixT 14 a (Int.toNat (1:Int))) 1) 12)) 0) (fun (c:TV)=>((0<=(0:Int)/\(0:Int)<(lenZ 14 c:Int))/\need (isPtr (ixT 14 c (Int.toNat (0:Int)))) (need (isPtr (Az (ixT 14 c (Int.toNat (0:Int))) 1)) (Aj (Ac b [] (.t (Az (Az (ixT 14 c (Int.toNat (0:Int))) 1) 12)) 0) (fun (d:TV)=>need (isSl d) (BId ((lenS d:Int)=(1:Int)) (BId (d2=1) (BId (y=8) (BId (c4=1) (K ((decide (d4=6))) b) (K false b)) (K false b)) (K false b)) (K false b))))))))))) (K false b))))))) (K false b)))))) (K false b))) (K false b))))))))))):CallT PR AI [] [.one .bool] st K:=
 Af (cfg:=⟨[1],[],[]⟩) (h:= .none) mixed (fun _ _=>Tryz.call8 _ _) Tryz.func8 (by kernel_rfl) (by kernel_rfl) h
theorem Jy (l:TV) (st:St) (K:V13 (Int->Int->St->Prop)) (h:CallT PR CD [l] [.one .tv,.one (.int .i64),.one (.int .i64)] st (fun (v1:TV) (n1 n2:Int) a=>BId (n2≠0) (K 0 false false [] 0 0 0 0 0 [] .nilSlice .nilSlice .nilSlice n1 n2 a) (need (isPtr v1) (need (isPtr v1) (Aj (Ac a [] (.t (Az v1 0)) 0) (fun (v2:TV)=>CallT PR Ao [v1,v2] [sV] a (fun (n3:Int) (b1 b2:Bool) (s1:B8) (n4 n5 n6 n7 n8:Int) (s2:B8) (v3 v4 v5:TV) g=>CallT PR Da [(.agg (cV n3 b1 b2 s1 n4 n5 n6 n7 n8 s2 v3 v4 v5))] [sV] g (fun (n9:Int) (b3 b4:Bool) (s3:B8) (d e c b f:Int) (s4:B8) (v6 v7 v8:TV) i=>need (List.all (cV n9 b3 b4 s3 d e c b f s4 v6 v7 v8) Au) (K n9 b3 b4 s3 d e c b f s4 v6 v7 v8 0 0 i))))))))):CallT PR CM [l] [sV,.one (.int .i64),.one (.int .i64)] st K:=
 Af (cfg:=⟨[2],[],[]⟩) (h:= .none) mixed (fun _ _=>Tryz.call9 _ _) Tryz.func9 (by kernel_rfl) (by kernel_rfl) h
theorem Jx (l:TV) (st:St) (K:Int->Int->St->Prop) (h:CallT PR CD [l] [.one .tv,.one (.int .i64),.one (.int .i64)] st (fun (v1:TV) (n1 n2:Int) a=>K n1 n2 a)):CallT PR CL [l] [.one (.int .i64),.one (.int .i64)] st K:=
 Af (cfg:=⟨[],[],[]⟩) (h:= .none) mixed (fun _ _=>Tryz.call11 _ _) Tryz.func11 (by kernel_rfl) (by kernel_rfl) h
theorem G1 (v_0:Int) (v_1:Bool) (v_2:Bool) (v_3:B8) (v_4:Int) (v_5:Int) (v_6:Int) (v_7:Int) (v_8:Int) (v_9:B8) (v_10:TV) (v_11:TV) (v_12:TV) (st:St) (K:Bool->St->Prop) (h:CallT PR Ba [(.agg (cV v_0 v_1 v_2 v_3 v_4 v_5 v_6 v_7 v_8 v_9 v_10 v_11 v_12)),.int .i64 60,.int .i64 150,.int .i64 3000] [.one (.int .i64)] st (fun (n1:Int) a=>BId ((0:Int)<=n1) (CallT PR Bg [(.agg (cV v_0 v_1 v_2 v_3 v_4 v_5 v_6 v_7 v_8 v_9 v_10 v_11 v_12))] [.one (.int .i64)] a (fun (n2:Int) b=>K ((decide (n2<=20000))) b)) (K false a))):CallT PR Cl [(.agg (cV v_0 v_1 v_2 v_3 v_4 v_5 v_6 v_7 v_8 v_9 v_10 v_11 v_12))] [.one .bool] st K:=
 Af (cfg:=⟨[1],[],[]⟩) (h:= .none) mixed (fun _ _=>Tryz.call13 _ _) Tryz.func13 (by kernel_rfl) (by kernel_rfl) h
theorem Jw (l:TV) (p:TV) (st:St) (K:Int->TV->Int->St->Prop) (h:CallT PR CD [l] [.one .tv,.one (.int .i64),.one (.int .i64)] st (fun (v1:TV) (n1 n2:Int) s=>BId (n2≠0) (K 0 .nilSlice n2 s) (CallT PR D2 [p] [.one .bool] s (fun (b1:Bool) f=>BIf (!b1) (K 0 .nilSlice 1 f) (need (isPtr v1) (need (isPtr v1) (Aj (Ac f [] (.t (Az v1 0)) 0) (fun (v2:TV)=>CallT PR Ao [v1,v2] [sV] f (fun (n3:Int) (b2 b3:Bool) (s1:B8) (n4 n5 n6 n7 n8:Int) (s2:B8) (v3 v4 v5:TV) a2=>CallT PR FU [(.agg (cV n3 b2 b3 s1 n4 n5 n6 n7 n8 s2 v3 v4 v5)),p] [sV,.one (.int .i64)] a2 (fun (n9:Int) (b4 b5:Bool) (s3:B8) (a1 z x u w:Int) (s4:B8) (v6 v7 v8:TV) (o:Int) e=>need (List.all (cV n9 b4 b5 s3 a1 z x u w s4 v6 v7 v8) Au) (BId (o≠0) (K 0 .nilSlice o e) (need (isPtr v1) (need (isPtr v1) (Aj (Ac e [] (.t (Az v1 0)) 0) (fun (v9:TV)=>∃(I1:TV->Int->TV->St->Prop) (M1:TV->Int->TV->St->Nat),(I1 v9 0 p e)/\∀d b a c,I1 d b a c->(need (isSl a) (BId (b<(lenS a:Int)) (need (isPtr d) (need (isPtr d) (Aj (Ac c [] (.t (Az d 1)) 0) (fun (y:TV)=>((0<=b/\b<(lenZ 3 a:Int))/\need (isPtr (ixT 3 a b.toNat)) (Aj (Ac c [] (.t (Az (ixT 3 a b.toNat) 1)) 0) (fun (x4:TV)=>AQ .str x4 (fun (s5:B8)=>Aj (D6 c y) (fun (es1:List (B8×TV))=>need (isPtr (As .nilPtr (Av s5 es1))) (need (isPtr (As .nilPtr (Av s5 es1))) (Aj (Ac c [] (.t (Az (As .nilPtr (Av s5 es1)) 0)) 0) (fun (m:TV)=>need (E4 m) (BIf (!BE m) (need (isPtr (As .nilPtr (Av s5 es1))) (need (isPtr (As .nilPtr (Av s5 es1))) (Aj (Ac c [] (.t (Az (As .nilPtr (Av s5 es1)) 0)) 0) (fun (j:TV)=>(I1 j ((i64.wrap (b+(1:Int)))) a c/\M1 j ((i64.wrap (b+(1:Int)))) a c<M1 d b a c))))) (need (isPtr (As .nilPtr (Av s5 es1))) (need (isPtr (As .nilPtr (Av s5 es1))) (Aj (Ac c [] (.t (Az (As .nilPtr (Av s5 es1)) 1)) 0) (fun (q:TV)=>need (isSl q) (BId ((lenS q:Int)=(0:Int)) (need (isPtr (As .nilPtr (Av s5 es1))) (need (isPtr (As .nilPtr (Av s5 es1))) (Aj (Ac c [] (.t (Az (As .nilPtr (Av s5 es1)) 15)) 0) (fun (x8:TV)=>AQ (.int .i64) x8 (fun (i:Int)=>((isLst 3 a=true/\0<=(i64.wrap (b+(1:Int)))/\(i64.wrap (b+(1:Int)))<=(lenS a:Int))/\CallT PR A5 [(slT 3 .non a (Int.toNat (i64.wrap (b+(1:Int)))) (lenS a))] [.one .tv] c (fun (a0:TV) r=>(Ac r [] (.t (Az (As .nilPtr (Av s5 es1)) 15)) 0=some (.int .i64 i)/\K i a0 0 r)))))))) (need (isSl a) (BId ((i64.wrap (b+(1:Int)))<(lenS a:Int)) (need (isPtr (As .nilPtr (Av s5 es1))) (need (isPtr (As .nilPtr (Av s5 es1))) (Aj (Ac c [] (.t (Az (As .nilPtr (Av s5 es1)) 1)) 0) (fun (n:TV)=>((0<=(i64.wrap (b+(1:Int)))/\(i64.wrap (b+(1:Int)))<(lenZ 3 a:Int))/\need (isPtr (ixT 3 a (Int.toNat (i64.wrap (b+(1:Int)))))) (Aj (Ac c [] (.t (Az (ixT 3 a (Int.toNat (i64.wrap (b+(1:Int))))) 2)) 0) (fun (v:TV)=>AQ (.int .i64) v (fun (g:Int)=>((0<=g/\g<(lenZ 1 n:Int))/\Aj (Ac c [] (.t (ixT 1 n g.toNat)) 0) (fun (k:TV)=>(I1 k ((i64.wrap ((i64.wrap (b+(1:Int)))+(1:Int)))) a c/\M1 k ((i64.wrap ((i64.wrap (b+(1:Int)))+(1:Int)))) a c<M1 d b a c))))))))))) ((I1 d ((i64.wrap (b+(1:Int)))) a c/\M1 d ((i64.wrap (b+(1:Int)))) a c<M1 d b a c)))))))))))))))))))))) (K 0 .nilSlice 26 c)))))))))))))))))):CallT PR DO [l,p] [.one (.int .i64),.one .tv,.one (.int .i64)] st K:=
 Af (cfg:=⟨[10],[],[81]⟩) (h:=(.seq .none (.seq .none (.seq .none (.seq .none (.seq .none (.seq .none (.seq (.seq .none (.block (.loop ⟨[(12,.tv),(13,.int .i64),(1,.tv)],[],[],[]⟩ .none))) .none)))))))) mixed (fun _ _=>Tryz.call19 _ _) Tryz.func19 (by kernel_rfl) (by kernel_rfl) h
theorem HU (v_0:Int) (v_1:Bool) (v_2:Bool) (v_3:B8) (v_4:Int) (v_5:Int) (v_6:Int) (v_7:Int) (v_8:Int) (v_9:B8) (v_10:TV) (v_11:TV) (v_12:TV) (p:TV) (st:St) (K:V13 (Int->St->Prop)) (h:CallT PR Cm [p] [.one .bool] st (fun (b1:Bool) q=>BIf (!b1) (K 0 false false [] 0 0 0 0 0 [] .nilSlice .nilSlice .nilSlice 1 q) (∃(I1:Int->TV->V13 (V13 (St->Prop))) (M1:Int->TV->V13 (V13 (St->Nat))),(I1 0 p v_0 v_1 v_2 v_3 v_4 v_5 v_6 v_7 v_8 v_9 v_10 v_11 v_12 0 false false [] 0 0 0 0 0 [] .nilSlice .nilSlice .nilSlice q)/\∀b a n1 b2 b3 s1 n2 n3 n4 n5 n6 s2 v1 v2 v3 n7 b4 b5 s3 n8 n9 e f d s4 v4 v5 v6 c,I1 b a n1 b2 b3 s1 n2 n3 n4 n5 n6 s2 v1 v2 v3 n7 b4 b5 s3 n8 n9 e f d s4 v4 v5 v6 c->(need (isSl a) (BId (b<(lenS a:Int)) (((0<=b/\b<(lenZ 3 a:Int))/\Aj ((Ai c [] (.t (ixT 3 a b.toNat)) 0 3).map TV.agg) (fun (x1:TV)=>Bj [.bool,.str,.int .i64] x1 (fun (b6:Bool) (s5:B8) (s:Int)=>CallT PR CF [(.agg (cV n1 b2 b3 s1 n2 n3 n4 n5 n6 s2 v1 v2 v3)),(.agg [.bool b6,.str s5,.int .i64 s])] [.one (.int .i64),.one (.int .i64)] c (fun (u o:Int) r=>BId (o≠0) (K 0 false false [] 0 0 0 0 0 [] .nilSlice .nilSlice .nilSlice o r) (CallT PR CE [(.agg (cV n1 b2 b3 s1 n2 n3 n4 n5 n6 s2 v1 v2 v3)),.int .i64 u] [sV] r (fun (g:Int) (b7 b8:Bool) (s6:B8) (j m k l i:Int) (s7:B8) (v7 v8 v9:TV) n=>need (List.all (cV g b7 b8 s6 j m k l i s7 v7 v8 v9) Au) ((I1 ((i64.wrap (b+(1:Int)))) a g b7 b8 s6 j m k l i s7 v7 v8 v9 n7 b4 b5 s3 n8 n9 e f d s4 v4 v5 v6 n/\M1 ((i64.wrap (b+(1:Int)))) a g b7 b8 s6 j m k l i s7 v7 v8 v9 n7 b4 b5 s3 n8 n9 e f d s4 v4 v5 v6 n<M1 b a n1 b2 b3 s1 n2 n3 n4 n5 n6 s2 v1 v2 v3 n7 b4 b5 s3 n8 n9 e f d s4 v4 v5 v6 c))))))))) (need (List.all (cV n1 b2 b3 s1 n2 n3 n4 n5 n6 s2 v1 v2 v3) Au) (K n1 b2 b3 s1 n2 n3 n4 n5 n6 s2 v1 v2 v3 0 c))))))):CallT PR BZ [(.agg (cV v_0 v_1 v_2 v_3 v_4 v_5 v_6 v_7 v_8 v_9 v_10 v_11 v_12)),p] [sV,.one (.int .i64)] st K:=
 Af (cfg:=⟨[2,4],[],[24]⟩) (h:=(.seq .none (.seq .none (.seq (.seq .none (.block (.loop ⟨[(6,.int .i64),(1,.tv)],[(2,0,0),(4,1,0)],[(0,13),(1,13)],[(0,0,.int .i64),(0,1,.bool),(0,2,.bool),(0,3,.str),(0,4,.int .i64),(0,5,.int .i64),(0,6,.int .i64),(0,7,.int .i64),(0,8,.int .i64),(0,9,.str),(0,10,.tv),(0,11,.tv),(0,12,.tv),(1,0,.int .i64),(1,1,.bool),(1,2,.bool),(1,3,.str),(1,4,.int .i64),(1,5,.int .i64),(1,6,.int .i64),(1,7,.int .i64),(1,8,.int .i64),(1,9,.str),(1,10,.tv),(1,11,.tv),(1,12,.tv)]⟩ .none))) .none)))) mixed (fun _ _=>Tryz.call21 _ _) Tryz.func21 (by kernel_rfl) (by kernel_rfl) h
theorem Md (a_0:Int) (a_1:Bool) (a_2:Bool) (a_3:B8) (a_4:Int) (a_5:Int) (a_6:Int) (a_7:Int) (a_8:Int) (a_9:B8) (a_10:TV) (a_11:TV) (a_12:TV) (b_0:Int) (b_1:Bool) (b_2:Bool) (b_3:B8) (b_4:Int) (b_5:Int) (b_6:Int) (b_7:Int) (b_8:Int) (b_9:B8) (b_10:TV) (b_11:TV) (b_12:TV) (st:St) (K:Bool->St->Prop) (h:CallT PR DY [(.agg (cV a_0 a_1 a_2 a_3 a_4 a_5 a_6 a_7 a_8 a_9 a_10 a_11 a_12)),(.agg (cV b_0 b_1 b_2 b_3 b_4 b_5 b_6 b_7 b_8 b_9 b_10 b_11 b_12)),.bool true,.int .i64 65536] [.one .bool] st (fun (b1:Bool) a=>K b1 a)):CallT PR FQ [(.agg (cV a_0 a_1 a_2 a_3 a_4 a_5 a_6 a_7 a_8 a_9 a_10 a_11 a_12)),(.agg (cV b_0 b_1 b_2 b_3 b_4 b_5 b_6 b_7 b_8 b_9 b_10 b_11 b_12))] [.one .bool] st K:=
 Af (cfg:=⟨[2,3],[],[]⟩) (h:= .none) mixed (fun _ _=>Tryz.call22 _ _) Tryz.func22 (by kernel_rfl) (by kernel_rfl) h
theorem G5 (keys:TV) (st:St) (K:Bool->Bool->TV->V13 (St->Prop)) (h:CallT PR Dt [] [sV] st (fun (n1:Int) (b1 b2:Bool) (s1:B8) (n2 n3 n4 n5 n6:Int) (s2:B8) (v1 v2 v3:TV) a=>need (List.all [keys] Au) (need (List.all [.bool false,.bool false,keys,.int .i64 n1,.bool b1,.bool b2,.str s1,.int .i64 n2,.int .i64 n3,.int .i64 n4,.int .i64 n5,.int .i64 n6,.str s2,v1,v2,v3] Au) (K false false keys n1 b1 b2 s1 n2 n3 n4 n5 n6 s2 v1 v2 v3 a)))):CallT PR AW [keys] [.agg [.bool,.bool,.tv,.int .i64,.bool,.bool,.str,.int .i64,.int .i64,.int .i64,.int .i64,.int .i64,.str,.tv,.tv,.tv]] st K:=
 Af (cfg:=⟨[2],[],[]⟩) (h:= .none) mixed (fun _ _=>Tryz.call23 _ _) Tryz.func23 (by kernel_rfl) (by kernel_rfl) h
theorem KU (l:TV) (st:St) (K:TV->Int->Int->St->Prop) (h:CallT PR Cj [] [.one .tv] st (fun (v1:TV) g=>need (isSl l) (∃(I1:Int->TV->TV->Int->St->Prop) (M1:Int->TV->TV->Int->St->Nat),(I1 0 v1 l ((lenS l:Int)) g)/\∀a b c e d,I1 a b c e d->(BId (a<e) (((0<=a/\a<(lenZ 16 c:Int))/\Aj ((Ai d [] (.t (ixT 16 c a.toNat)) 0 16).map TV.agg) (fun (x1:TV)=>Bj [.bool,.bool,.tv,.int .i64,.bool,.bool,.str,.int .i64,.int .i64,.int .i64,.int .i64,.int .i64,.str,.tv,.tv,.tv] x1 (fun (b1 b2:Bool) (v2:TV) (n1:Int) (b3 b4:Bool) (s1:B8) (n2 n3 n4 n5 n6:Int) (s2:B8) (v3 v4 v5:TV)=>need (List.all [.bool b1,.bool b2,v2,.int .i64 n1,.bool b3,.bool b4,.str s1,.int .i64 n2,.int .i64 n3,.int .i64 n4,.int .i64 n5,.int .i64 n6,.str s2,v3,v4,v5] Au) (CallT PR BM [b,(.agg [.bool b1,.bool b2,v2,.int .i64 n1,.bool b3,.bool b4,.str s1,.int .i64 n2,.int .i64 n3,.int .i64 n4,.int .i64 n5,.int .i64 n6,.str s2,v3,v4,v5]),.int .i64 a] [.one (.int .i64)] d (fun (n7:Int) f=>BId (n7≠0) (K .nilPtr a n7 f) ((I1 ((i64.wrap (a+(1:Int)))) b c e f/\M1 ((i64.wrap (a+(1:Int)))) b c e f<M1 a b c e d)))))))) (K b 0 0 d))))):CallT PR CD [l] [.one .tv,.one (.int .i64),.one (.int .i64)] st K:=
 Af (cfg:=⟨[7],[],[]⟩) (h:=(.seq .none (.seq .none (.seq (.seq .none (.block (.loop ⟨[(12,.int .i64),(5,.tv),(10,.tv),(11,.int .i64)],[],[],[]⟩ .none))) .none)))) mixed (fun _ _=>Tryz.call24 _ _) Tryz.func24 (by kernel_rfl) (by kernel_rfl) h
theorem Me (v_0:Int) (v_1:Bool) (v_2:Bool) (v_3:B8) (v_4:Int) (v_5:Int) (v_6:Int) (v_7:Int) (v_8:Int) (v_9:B8) (v_10:TV) (v_11:TV) (v_12:TV) (st:St) (K:V13 (St->Prop)) (h:CallT PR Cd [(.agg (cV v_0 v_1 v_2 v_3 v_4 v_5 v_6 v_7 v_8 v_9 v_10 v_11 v_12)),.int .i64 65536] [sV] st (fun (n1:Int) (b1 b2:Bool) (s1:B8) (n2 n3 n4 n5 n6:Int) (s2:B8) (v1 v2 v3:TV) a=>need (List.all (cV n1 b1 b2 s1 n2 n3 n4 n5 n6 s2 v1 v2 v3) Au) (K n1 b1 b2 s1 n2 n3 n4 n5 n6 s2 v1 v2 v3 a))):CallT PR Da [(.agg (cV v_0 v_1 v_2 v_3 v_4 v_5 v_6 v_7 v_8 v_9 v_10 v_11 v_12))] [sV] st K:=
 Af (cfg:=⟨[1,2],[],[]⟩) (h:= .none) mixed (fun _ _=>Tryz.call25 _ _) Tryz.func25 (by kernel_rfl) (by kernel_rfl) h
theorem FE (b:Nat) (t:Nat) (st:St) (K:V13 (St->Prop)) (h:Aj (Ac st [] (.t (.box t 0)) 0) (fun (v1:TV)=>need (isSl v1) (∃(I1:Int->TV->TV->TV->Int->V13 (V13 (St->Prop))) (M1:Int->TV->TV->TV->Int->V13 (V13 (St->Nat))),(I1 0 ((.box b 0)) ((.box t 0)) v1 ((lenS v1:Int)) 0 false false [] 0 0 0 0 0 [] .nilSlice .nilSlice .nilSlice 7 false false [] 0 0 0 0 0 [] .nilSlice .nilSlice .nilSlice st)/\∀c k d i j n1 b1 b2 s1 n2 n3 n4 n5 n6 s2 v2 v3 v4 n7 b3 b4 s3 n8 n9 e g f s4 v5 v6 v7 a,I1 c k d i j n1 b1 b2 s1 n2 n3 n4 n5 n6 s2 v2 v3 v4 n7 b3 b4 s3 n8 n9 e g f s4 v5 v6 v7 a->(BId (c<j) (((0<=c/\c<(lenZ 1 i:Int))/\Aj (Ac a [] (.t (ixT 1 i c.toNat)) 0) (fun (x2:TV)=>AQ .str x2 (fun (s5:B8)=>need (isPtr d) (need (isPtr d) (Aj (Ac a [] (.t (Az d 1)) 0) (fun (v8:TV)=>Aj (D6 a v8) (fun (es1:List (B8×TV))=>need (isPtr (As .nilPtr (Av s5 es1))) (need (isPtr (As .nilPtr (Av s5 es1))) (Aj ((Ai a [] (.t (Az (As .nilPtr (Av s5 es1)) 2)) 0 13).map TV.agg) (fun (x4:TV)=>Bj [.int .i64,.bool,.bool,.str,.int .i64,.int .i64,.int .i64,.int .i64,.int .i64,.str,.tv,.tv,.tv] x4 (fun (e3:Int) (b5 b6:Bool) (s6:B8) (g0 f7 f6 e6 g3:Int) (s7:B8) (v9 g1 e9:TV)=>need (List.all (cV e3 b5 b6 s6 g0 f7 f6 e6 g3 s7 v9 g1 e9) Au) (need (isPtr (As .nilPtr (Av s5 es1))) (need (isPtr (As .nilPtr (Av s5 es1))) (Aj (Ac a [] (.t (Az (As .nilPtr (Av s5 es1)) 0)) 0) (fun (h2:TV)=>need (E4 h2) (BIf (!BE h2) (need (isPtr (As .nilPtr (Av s5 es1))) (need (isPtr (As .nilPtr (Av s5 es1))) (Aj (Ac a [] (.t (Az (As .nilPtr (Av s5 es1)) 0)) 0) (fun (i4:TV)=>CallT PR Ao [k,i4] [sV] a (fun (f5:Int) (b7 b8:Bool) (s8:B8) (f2 e5 f8 e8 f3:Int) (s9:B8) (g4 f0 e4:TV) i6=>need (List.all (cV f5 b7 b8 s8 f2 e5 f8 e8 f3 s9 g4 f0 e4) Au) (need (List.all [.str s5,.int .i64 f5,.bool b7,.bool b8,.str s8,.int .i64 f2,.int .i64 e5,.int .i64 f8,.int .i64 e8,.int .i64 f3,.str s9,g4,f0,e4] Au) (CV 65 14 184 v7 1 [.str s5,.int .i64 f5,.bool b7,.bool b8,.str s8,.int .i64 f2,.int .i64 e5,.int .i64 f8,.int .i64 e8,.int .i64 f3,.str s9,g4,f0,e4] i6 (fun (f1:TV) i0=>need (List.all [f1] Au) ((I1 ((i64.wrap (c+(1:Int)))) k d i j n1 b1 b2 s1 n2 n3 n4 n5 n6 s2 v2 v3 v4 n7 b3 b4 s3 n8 n9 e g f s4 v5 v6 f1 i0/\M1 ((i64.wrap (c+(1:Int)))) k d i j n1 b1 b2 s1 n2 n3 n4 n5 n6 s2 v2 v3 v4 n7 b3 b4 s3 n8 n9 e g f s4 v5 v6 f1 i0<M1 c k d i j n1 b1 b2 s1 n2 n3 n4 n5 n6 s2 v2 v3 v4 n7 b3 b4 s3 n8 n9 e g f s4 v5 v6 v7 a)))))))))) (need (isPtr (As .nilPtr (Av s5 es1))) (need (isPtr (As .nilPtr (Av s5 es1))) (Aj (Ac a [] (.t (Az (As .nilPtr (Av s5 es1)) 1)) 0) (fun (h0:TV)=>need (isSl h0) (BId ((0:Int)<(lenS h0:Int)) (need (isPtr (As .nilPtr (Av s5 es1))) (need (isPtr (As .nilPtr (Av s5 es1))) (Aj (Ac a [] (.t (Az (As .nilPtr (Av s5 es1)) 1)) 0) (fun (f4:TV)=>need (isSl f4) (∃(I2:Int->TV->TV->B8->TV->Int->Int->TV->Int->V13 (V13 (V13 (St->Prop)))) (M2:Int->TV->TV->B8->TV->Int->Int->TV->Int->V13 (V13 (V13 (St->Nat)))),(I2 0 k d s5 i j c f4 ((lenS f4:Int)) n1 b1 b2 s1 n2 n3 n4 n5 n6 s2 v2 v3 v4 n7 b3 b4 s3 n8 n9 e g f s4 v5 v6 v7 6 false false [] 0 0 0 0 0 [] .nilSlice .nilSlice .nilSlice a)/\∀l m z a8 c8 a7 d4 u e2 d6 b9 a4 d7 c1 a1 b0 d5 d3 c2 a2 p d1 c4 a6 c0 y c9 a5 d0 n v q c3 s d9 a3 x c7 d2 c5 w d8 r c6 a9 a0 e1 o e0,I2 l m z a8 c8 a7 d4 u e2 d6 b9 a4 d7 c1 a1 b0 d5 d3 c2 a2 p d1 c4 a6 c0 y c9 a5 d0 n v q c3 s d9 a3 x c7 d2 c5 w d8 r c6 a9 a0 e1 o e0->(BId (l<e2) (((0<=l/\l<(lenZ 1 u:Int))/\Aj (Ac e0 [] (.t (ixT 1 u l.toNat)) 0) (fun (i7:TV)=>CallT PR Ao [m,i7] [sV] e0 (fun (h6:Int) (i2 i3:Bool) (g8:B8) (h7 h5 h4 h9 g6:Int) (h1:B8) (i1 g5 g7:TV) i5=>need (List.all (cV h6 i2 i3 g8 h7 h5 h4 h9 g6 h1 i1 g5 g7) Au) (CV 33 13 168 e1 1 (cV h6 i2 i3 g8 h7 h5 h4 h9 g6 h1 i1 g5 g7) i5 (fun (e7:TV) h8=>need (List.all [e7] Au) ((I2 ((i64.wrap (l+(1:Int)))) m z a8 c8 a7 d4 u e2 d6 b9 a4 d7 c1 a1 b0 d5 d3 c2 a2 p d1 c4 a6 c0 y c9 a5 d0 n v q c3 s d9 a3 x c7 d2 c5 w d8 r c6 a9 a0 e7 o h8/\M2 ((i64.wrap (l+(1:Int)))) m z a8 c8 a7 d4 u e2 d6 b9 a4 d7 c1 a1 b0 d5 d3 c2 a2 p d1 c4 a6 c0 y c9 a5 d0 n v q c3 s d9 a3 x c7 d2 c5 w d8 r c6 a9 a0 e7 o h8<M2 l m z a8 c8 a7 d4 u e2 d6 b9 a4 d7 c1 a1 b0 d5 d3 c2 a2 p d1 c4 a6 c0 y c9 a5 d0 n v q c3 s d9 a3 x c7 d2 c5 w d8 r c6 a9 a0 e1 o e0)))))))) (need (List.all [.str a8,.int .i64 a3,.bool x,.bool c7,.str d2,.int .i64 c5,.int .i64 w,.int .i64 d8,.int .i64 r,.int .i64 c6,.str a9,a0,e1,o] Au) (CV 65 14 184 d9 1 [.str a8,.int .i64 a3,.bool x,.bool c7,.str d2,.int .i64 c5,.int .i64 w,.int .i64 d8,.int .i64 r,.int .i64 c6,.str a9,a0,e1,o] e0 (fun (f9:TV) h3=>need (List.all [f9] Au) ((I1 ((i64.wrap (d4+(1:Int)))) m z c8 a7 d6 b9 a4 d7 c1 a1 b0 d5 d3 c2 a2 p d1 c4 a6 c0 y c9 a5 d0 n v q c3 s f9 h3/\M1 ((i64.wrap (d4+(1:Int)))) m z c8 a7 d6 b9 a4 d7 c1 a1 b0 d5 d3 c2 a2 p d1 c4 a6 c0 y c9 a5 d0 n v q c3 s f9 h3<M1 c k d i j n1 b1 b2 s1 n2 n3 n4 n5 n6 s2 v2 v3 v4 n7 b3 b4 s3 n8 n9 e g f s4 v5 v6 v7 a))))))))))) (need (List.all [.str s5,.int .i64 e3,.bool b5,.bool b6,.str s6,.int .i64 g0,.int .i64 f7,.int .i64 f6,.int .i64 e6,.int .i64 g3,.str s7,v9,g1,e9] Au) (CV 65 14 184 v7 1 [.str s5,.int .i64 e3,.bool b5,.bool b6,.str s6,.int .i64 g0,.int .i64 f7,.int .i64 f6,.int .i64 e6,.int .i64 g3,.str s7,v9,g1,e9] a (fun (g2:TV) g9=>need (List.all [g2] Au) ((I1 ((i64.wrap (c+(1:Int)))) k d i j n1 b1 b2 s1 n2 n3 n4 n5 n6 s2 v2 v3 v4 n7 b3 b4 s3 n8 n9 e g f s4 v5 v6 g2 g9/\M1 ((i64.wrap (c+(1:Int)))) k d i j n1 b1 b2 s1 n2 n3 n4 n5 n6 s2 v2 v3 v4 n7 b3 b4 s3 n8 n9 e g f s4 v5 v6 g2 g9<M1 c k d i j n1 b1 b2 s1 n2 n3 n4 n5 n6 s2 v2 v3 v4 n7 b3 b4 s3 n8 n9 e g f s4 v5 v6 v7 a))))))))))))))))))))))))))) (need (List.all (cV n7 b3 b4 s3 n8 n9 e g f s4 v5 v6 v7) Au) (K n7 b3 b4 s3 n8 n9 e g f s4 v5 v6 v7 a)))))):CallT PR Ao [(.box b 0),(.box t 0)] [sV] st K:=
 Af (cfg:=⟨[4,5,9],[],[]⟩) (h:=(.seq .none (.seq .none (.seq (.seq .none (.block (.loop ⟨[(18,.int .i64),(0,.tv),(1,.tv),(16,.tv),(17,.int .i64)],[(4,0,0),(5,1,0)],[(0,13),(1,13)],[(0,0,.int .i64),(0,1,.bool),(0,2,.bool),(0,3,.str),(0,4,.int .i64),(0,5,.int .i64),(0,6,.int .i64),(0,7,.int .i64),(0,8,.int .i64),(0,9,.str),(0,10,.tv),(0,11,.tv),(0,12,.tv),(1,0,.int .i64),(1,1,.bool),(1,2,.bool),(1,3,.str),(1,4,.int .i64),(1,5,.int .i64),(1,6,.int .i64),(1,7,.int .i64),(1,8,.int .i64),(1,9,.str),(1,10,.tv),(1,11,.tv),(1,12,.tv)]⟩ (.seq .none (.seq .none (.seq (.block (.seq .none (.seq .none (.seq .none (.seq (.seq .none (.cond .none (.seq .none (.cond (.seq .none (.seq .none (.block (.loop ⟨[(55,.int .i64),(0,.tv),(1,.tv),(7,.str),(16,.tv),(17,.int .i64),(18,.int .i64),(53,.tv),(54,.int .i64)],[(4,0,0),(5,1,0),(9,2,0)],[(0,13),(1,13),(2,13)],[(0,0,.int .i64),(0,1,.bool),(0,2,.bool),(0,3,.str),(0,4,.int .i64),(0,5,.int .i64),(0,6,.int .i64),(0,7,.int .i64),(0,8,.int .i64),(0,9,.str),(0,10,.tv),(0,11,.tv),(0,12,.tv),(1,0,.int .i64),(1,1,.bool),(1,2,.bool),(1,3,.str),(1,4,.int .i64),(1,5,.int .i64),(1,6,.int .i64),(1,7,.int .i64),(1,8,.int .i64),(1,9,.str),(1,10,.tv),(1,11,.tv),(1,12,.tv),(2,0,.int .i64),(2,1,.bool),(2,2,.bool),(2,3,.str),(2,4,.int .i64),(2,5,.int .i64),(2,6,.int .i64),(2,7,.int .i64),(2,8,.int .i64),(2,9,.str),(2,10,.tv),(2,11,.tv),(2,12,.tv)]⟩ .none)))) .none)))) .none))))) .none)))))) .none)))) mixed (fun _ _=>Tryz.call26 _ _) Tryz.func26 (by kernel_rfl) (by kernel_rfl) h
theorem Hb (v_0:Int) (v_1:Bool) (v_2:Bool) (v_3:B8) (v_4:Int) (v_5:Int) (v_6:Int) (v_7:Int) (v_8:Int) (v_9:B8) (v_10:TV) (v_11:TV) (v_12:TV) (depth:Int) (n:Int) (bytes:Int) (st:St) (K:Int->St->Prop) (h:BId (depth<1) (K (-1) st) (BId (n<1) (K (-1) st) (BId (bytes<(v_9.length:Int)) (K (-1) st) (need (isSl v_10) (BId (bytes<(lenS v_10:Int)) (K (-1) st) (BId (bytes<(v_3.length:Int)) (K (-1) st) (need (isSl v_11) (BId (n<(lenS v_11:Int)) (K (-1) st) (need (isSl v_12) (BId (n<(lenS v_12:Int)) (K (-1) st) (∃(I1:Int->Int->Int->Int->V13 (St->Prop)) (M1:Int->Int->Int->Int->V13 (St->Nat)),(I1 ((i64.wrap (n-(1:Int)))) 0 depth bytes v_0 v_1 v_2 v_3 v_4 v_5 v_6 v_7 v_8 v_9 v_10 v_11 v_12 st)/\∀p k b a n1 b1 b2 s1 n2 n3 n4 n5 n6 s2 v1 v2 v3 r,I1 p k b a n1 b1 b2 s1 n2 n3 n4 n5 n6 s2 v1 v2 v3 r->(need (isSl v2) (BId (k<(lenS v2:Int)) (BId ((0:Int)<=p) (((0<=k/\k<(lenZ 13 v2:Int))/\Aj ((Ai r [] (.t (ixT 13 v2 k.toNat)) 0 13).map TV.agg) (fun (x1:TV)=>Bj [.int .i64,.bool,.bool,.str,.int .i64,.int .i64,.int .i64,.int .i64,.int .i64,.str,.tv,.tv,.tv] x1 (fun (n7:Int) (b3 b4:Bool) (s3:B8) (n8 n9 e8 e5 d5:Int) (s4:B8) (v4 v5 v6:TV)=>CallT PR Ba [(.agg (cV n7 b3 b4 s3 n8 n9 e8 e5 d5 s4 v4 v5 v6)),(.int .i64 (i64.wrap (b-(1:Int)))),.int .i64 p,.int .i64 a] [.one (.int .i64)] r (fun (c0:Int) c1=>(I1 c0 ((i64.wrap (k+(1:Int)))) b a n1 b1 b2 s1 n2 n3 n4 n5 n6 s2 v1 v2 v3 c1/\M1 c0 ((i64.wrap (k+(1:Int)))) b a n1 b1 b2 s1 n2 n3 n4 n5 n6 s2 v1 v2 v3 c1<M1 p k b a n1 b1 b2 s1 n2 n3 n4 n5 n6 s2 v1 v2 v3 r)))))) (∃(I2:Int->Int->Int->Int->V13 (St->Prop)) (M2:Int->Int->Int->Int->V13 (St->Nat)),(I2 p 0 b a n1 b1 b2 s1 n2 n3 n4 n5 n6 s2 v1 v2 v3 r)/\∀q i e c w b5 b6 s5 z s a4 a6 a9 s6 v7 v8 v9 m,I2 q i e c w b5 b6 s5 z s a4 a6 a9 s6 v7 v8 v9 m->(need (isSl v9) (BId (i<(lenS v9:Int)) (BId ((0:Int)<=q) (((0<=i/\i<(lenZ 14 v9:Int))/\need (isPtr (ixT 14 v9 i.toNat)) (Aj (Ac m [] (.t (Az (ixT 14 v9 i.toNat) 0)) 0) (fun (x2:TV)=>AQ .str x2 (fun (s7:B8)=>BId (c<(s7.length:Int)) (K (-1) m) (((0<=i/\i<(lenZ 14 v9:Int))/\need (isPtr (ixT 14 v9 i.toNat)) (Aj ((Ai m [] (.t (Az (ixT 14 v9 i.toNat) 1)) 0 13).map TV.agg) (fun (x3:TV)=>Bj [.int .i64,.bool,.bool,.str,.int .i64,.int .i64,.int .i64,.int .i64,.int .i64,.str,.tv,.tv,.tv] x3 (fun (d8:Int) (b7 b8:Bool) (s8:B8) (d2 e9 e6 e4 e1:Int) (s9:B8) (d9 d0 c7:TV)=>CallT PR Ba [(.agg (cV d8 b7 b8 s8 d2 e9 e6 e4 e1 s9 d9 d0 c7)),(.int .i64 (i64.wrap (e-(1:Int)))),.int .i64 q,.int .i64 c] [.one (.int .i64)] m (fun (c2:Int) b0=>(I2 c2 ((i64.wrap (i+(1:Int)))) e c w b5 b6 s5 z s a4 a6 a9 s6 v7 v8 v9 b0/\M2 c2 ((i64.wrap (i+(1:Int)))) e c w b5 b6 s5 z s a4 a6 a9 s6 v7 v8 v9 b0<M2 q i e c w b5 b6 s5 z s a4 a6 a9 s6 v7 v8 v9 m)))))))))))) (K q m)) (K q m))))) (∃(I3:Int->Int->Int->Int->V13 (St->Prop)) (M3:Int->Int->Int->Int->V13 (St->Nat)),(I3 p 0 b a n1 b1 b2 s1 n2 n3 n4 n5 n6 s2 v1 v2 v3 r)/\∀o f g d y b9 a2 a5 u x v a3 a8 a1 a0 a7 j l,I3 o f g d y b9 a2 a5 u x v a3 a8 a1 a0 a7 j l->(need (isSl j) (BId (f<(lenS j:Int)) (BId ((0:Int)<=o) (((0<=f/\f<(lenZ 14 j:Int))/\need (isPtr (ixT 14 j f.toNat)) (Aj (Ac l [] (.t (Az (ixT 14 j f.toNat) 0)) 0) (fun (x4:TV)=>AQ .str x4 (fun (c6:B8)=>BId (d<(c6.length:Int)) (K (-1) l) (((0<=f/\f<(lenZ 14 j:Int))/\need (isPtr (ixT 14 j f.toNat)) (Aj ((Ai l [] (.t (Az (ixT 14 j f.toNat) 1)) 0 13).map TV.agg) (fun (x5:TV)=>Bj [.int .i64,.bool,.bool,.str,.int .i64,.int .i64,.int .i64,.int .i64,.int .i64,.str,.tv,.tv,.tv] x5 (fun (e2:Int) (e3 d3:Bool) (d4:B8) (d1 c5 f0 d7 e0:Int) (c8:B8) (c9 d6 e7:TV)=>CallT PR Ba [(.agg (cV e2 e3 d3 d4 d1 c5 f0 d7 e0 c8 c9 d6 e7)),(.int .i64 (i64.wrap (g-(1:Int)))),.int .i64 o,.int .i64 d] [.one (.int .i64)] l (fun (c4:Int) c3=>(I3 c4 ((i64.wrap (f+(1:Int)))) g d y b9 a2 a5 u x v a3 a8 a1 a0 a7 j c3/\M3 c4 ((i64.wrap (f+(1:Int)))) g d y b9 a2 a5 u x v a3 a8 a1 a0 a7 j c3<M3 o f g d y b9 a2 a5 u x v a3 a8 a1 a0 a7 j l)))))))))))) (K o l)) (K o l))))))))))))))))):CallT PR Ba [(.agg (cV v_0 v_1 v_2 v_3 v_4 v_5 v_6 v_7 v_8 v_9 v_10 v_11 v_12)),.int .i64 depth,.int .i64 n,.int .i64 bytes] [.one (.int .i64)] st K:=
 Af (cfg:=⟨[4],[],[]⟩) (h:=(.seq .none (.seq .none (.seq .none (.seq (.seq .none (.block (.loop ⟨[(2,.int .i64),(9,.int .i64),(1,.int .i64),(3,.int .i64)],[(4,0,0)],[(0,13)],[(0,0,.int .i64),(0,1,.bool),(0,2,.bool),(0,3,.str),(0,4,.int .i64),(0,5,.int .i64),(0,6,.int .i64),(0,7,.int .i64),(0,8,.int .i64),(0,9,.str),(0,10,.tv),(0,11,.tv),(0,12,.tv)]⟩ .none))) (.seq (.seq .none (.block (.loop ⟨[(2,.int .i64),(10,.int .i64),(1,.int .i64),(3,.int .i64)],[(4,0,0)],[(0,13)],[(0,0,.int .i64),(0,1,.bool),(0,2,.bool),(0,3,.str),(0,4,.int .i64),(0,5,.int .i64),(0,6,.int .i64),(0,7,.int .i64),(0,8,.int .i64),(0,9,.str),(0,10,.tv),(0,11,.tv),(0,12,.tv)]⟩ .none))) .none)))))) mixed (fun _ _=>Tryz.call28 _ _) Tryz.func28 (by kernel_rfl) (by kernel_rfl) h
theorem Gv (v_0:Int) (v_1:Bool) (v_2:Bool) (v_3:B8) (v_4:Int) (v_5:Int) (v_6:Int) (v_7:Int) (v_8:Int) (v_9:B8) (v_10:TV) (v_11:TV) (v_12:TV) (st:St) (K:Int->St->Prop) (h:need (isSl v_10) (∃(I1:Int->Int->V13 (St->Prop)) (M1:Int->Int->V13 (St->Nat)),(I1 ((i64.wrap ((i64.wrap ((v_9.length:Int)+(lenS v_10:Int)))+(v_3.length:Int)))) 0 v_0 v_1 v_2 v_3 v_4 v_5 v_6 v_7 v_8 v_9 v_10 v_11 v_12 st)/\∀d b n1 b1 b2 s1 n2 n3 n4 n5 n6 s2 v1 v2 v3 f,I1 d b n1 b1 b2 s1 n2 n3 n4 n5 n6 s2 v1 v2 v3 f->(need (isSl v2) (BId (b<(lenS v2:Int)) (((0<=b/\b<(lenZ 13 v2:Int))/\Aj ((Ai f [] (.t (ixT 13 v2 b.toNat)) 0 13).map TV.agg) (fun (x1:TV)=>Bj [.int .i64,.bool,.bool,.str,.int .i64,.int .i64,.int .i64,.int .i64,.int .i64,.str,.tv,.tv,.tv] x1 (fun (n7:Int) (b3 b4:Bool) (s3:B8) (n8 n9 a2 a0 v:Int) (s4:B8) (v4 v5 v6:TV)=>CallT PR Bg [(.agg (cV n7 b3 b4 s3 n8 n9 a2 a0 v s4 v4 v5 v6))] [.one (.int .i64)] f (fun (p:Int) o=>(I1 ((i64.wrap (d+p))) ((i64.wrap (b+(1:Int)))) n1 b1 b2 s1 n2 n3 n4 n5 n6 s2 v1 v2 v3 o/\M1 ((i64.wrap (d+p))) ((i64.wrap (b+(1:Int)))) n1 b1 b2 s1 n2 n3 n4 n5 n6 s2 v1 v2 v3 o<M1 d b n1 b1 b2 s1 n2 n3 n4 n5 n6 s2 v1 v2 v3 f)))))) (∃(I2:Int->Int->V13 (St->Prop)) (M2:Int->Int->V13 (St->Nat)),(I2 d 0 n1 b1 b2 s1 n2 n3 n4 n5 n6 s2 v1 v2 v3 f)/\∀e a i b5 b6 s5 j g k l m s6 v7 v8 v9 c,I2 e a i b5 b6 s5 j g k l m s6 v7 v8 v9 c->(need (isSl v9) (BId (a<(lenS v9:Int)) (((0<=a/\a<(lenZ 14 v9:Int))/\need (isPtr (ixT 14 v9 a.toNat)) (Aj (Ac c [] (.t (Az (ixT 14 v9 a.toNat) 0)) 0) (fun (x2:TV)=>AQ .str x2 (fun (s7:B8)=>((0<=a/\a<(lenZ 14 v9:Int))/\need (isPtr (ixT 14 v9 a.toNat)) (Aj ((Ai c [] (.t (Az (ixT 14 v9 a.toNat) 1)) 0 13).map TV.agg) (fun (x3:TV)=>Bj [.int .i64,.bool,.bool,.str,.int .i64,.int .i64,.int .i64,.int .i64,.int .i64,.str,.tv,.tv,.tv] x3 (fun (w:Int) (b7 b8:Bool) (s8:B8) (u a3 a1 z y:Int) (s9:B8) (x s r:TV)=>CallT PR Bg [(.agg (cV w b7 b8 s8 u a3 a1 z y s9 x s r))] [.one (.int .i64)] c (fun (q:Int) n=>(Ac n [] (.t (Az (ixT 14 v9 a.toNat) 0)) 0=some (.str s7)/\(I2 ((i64.wrap ((i64.wrap (e+(s7.length:Int)))+q))) ((i64.wrap (a+(1:Int)))) i b5 b6 s5 j g k l m s6 v7 v8 v9 n/\M2 ((i64.wrap ((i64.wrap (e+(s7.length:Int)))+q))) ((i64.wrap (a+(1:Int)))) i b5 b6 s5 j g k l m s6 v7 v8 v9 n<M2 e a i b5 b6 s5 j g k l m s6 v7 v8 v9 c)))))))))))) (K e c)))))))):CallT PR Bg [(.agg (cV v_0 v_1 v_2 v_3 v_4 v_5 v_6 v_7 v_8 v_9 v_10 v_11 v_12))] [.one (.int .i64)] st K:=
 Af (cfg:=⟨[1],[],[46,54]⟩) (h:=(.seq .none (.seq .none (.seq (.seq .none (.block (.loop ⟨[(3,.int .i64),(4,.int .i64)],[(1,0,0)],[(0,13)],[(0,0,.int .i64),(0,1,.bool),(0,2,.bool),(0,3,.str),(0,4,.int .i64),(0,5,.int .i64),(0,6,.int .i64),(0,7,.int .i64),(0,8,.int .i64),(0,9,.str),(0,10,.tv),(0,11,.tv),(0,12,.tv)]⟩ .none))) (.seq (.seq .none (.block (.loop ⟨[(3,.int .i64),(5,.int .i64)],[(1,0,0)],[(0,13)],[(0,0,.int .i64),(0,1,.bool),(0,2,.bool),(0,3,.str),(0,4,.int .i64),(0,5,.int .i64),(0,6,.int .i64),(0,7,.int .i64),(0,8,.int .i64),(0,9,.str),(0,10,.tv),(0,11,.tv),(0,12,.tv)]⟩ .none))) .none))))) mixed (fun _ _=>Tryz.call29 _ _) Tryz.func29 (by kernel_rfl) (by kernel_rfl) h
theorem KS (v_0:Int) (v_1:Bool) (v_2:Bool) (v_3:B8) (v_4:Int) (v_5:Int) (v_6:Int) (v_7:Int) (v_8:Int) (v_9:B8) (v_10:TV) (v_11:TV) (v_12:TV) (st:St) (K:Int->St->Prop) (h:stB (st.push (.cells [.int .i64 0]) (some 3)) (.box st.nb 0) [.int .i64 0] (fun a=>CallT PR CC [(.agg (cV v_0 v_1 v_2 v_3 v_4 v_5 v_6 v_7 v_8 v_9 v_10 v_11 v_12)),.int .i64 1,(.box st.nb 0)] [.one (.int .i64)] a (fun (n1:Int) b=>K n1 b))):CallT PR AH [(.agg (cV v_0 v_1 v_2 v_3 v_4 v_5 v_6 v_7 v_8 v_9 v_10 v_11 v_12))] [.one (.int .i64)] st K:=
 Af (cfg:=⟨[1],[],[]⟩) (h:= .none) mixed (fun _ _=>Tryz.call30 _ _) Tryz.func30 (by kernel_rfl) (by kernel_rfl) h
theorem Mh (p:TV) (st:St) (K:Bool->St->Prop) (h:need (isSl p) (BId ((48:Int)<(lenS p:Int)) (K false st) (need (isSl p) (∃(I1:Int->TV->Int->St->Prop) (M1:Int->TV->Int->St->Nat),(I1 0 p ((lenS p:Int)) st)/\∀b c d a,I1 b c d a->(BId (b<d) (((0<=b/\b<(lenZ 3 c:Int))/\Aj ((Ai a [] (.t (ixT 3 c b.toNat)) 0 3).map TV.agg) (fun (x1:TV)=>Bj [.bool,.str,.int .i64] x1 (fun (b1:Bool) (s1:B8) (n1:Int)=>BIf b1 (BId (s1≠([]:B8)) (K false a) (BId (n1<0) (K false a) (BId ((65536:Int)<n1) (K false a) ((I1 ((i64.wrap (b+(1:Int)))) c d a/\M1 ((i64.wrap (b+(1:Int)))) c d a<M1 b c d a))))) (BId (n1≠0) (K false a) (BId ((1024:Int)<(s1.length:Int)) (K false a) (CallT PR Ds [.str s1] [.one .bool] a (fun (b2:Bool) e=>BIf (!b2) (K false e) ((I1 ((i64.wrap (b+(1:Int)))) c d e/\M1 ((i64.wrap (b+(1:Int)))) c d e<M1 b c d a)))))))))) (K true a)))))):CallT PR D2 [p] [.one .bool] st K:=
 Af (cfg:=⟨[4],[],[]⟩) (h:=(.seq .none (.seq .none (.seq (.seq .none (.block (.loop ⟨[(10,.int .i64),(8,.tv),(9,.int .i64)],[],[],[]⟩ .none))) .none)))) mixed (fun _ _=>Tryz.call36 _ _) Tryz.func36 (by kernel_rfl) (by kernel_rfl) h
theorem Mj (v_0:Int) (v_1:Bool) (v_2:Bool) (v_3:B8) (v_4:Int) (v_5:Int) (v_6:Int) (v_7:Int) (v_8:Int) (v_9:B8) (v_10:TV) (v_11:TV) (v_12:TV) (p:TV) (st:St) (K:V13 (Int->St->Prop)) (h:CallT PR D2 [p] [.one .bool] st (fun (b1:Bool) c=>BIf (!b1) (K 0 false false [] 0 0 0 0 0 [] .nilSlice .nilSlice .nilSlice 1 c) (CallT PR GP [(.agg (cV v_0 v_1 v_2 v_3 v_4 v_5 v_6 v_7 v_8 v_9 v_10 v_11 v_12)),p] [sV,.one (.int .i64)] c (fun (n1:Int) (b2 b3:Bool) (s1:B8) (n2 n3 n4 n5 n6:Int) (s2:B8) (v1 v2 v3:TV) (n7:Int) a=>need (List.all (cV n1 b2 b3 s1 n2 n3 n4 n5 n6 s2 v1 v2 v3) Au) (BId (n7≠0) (K 0 false false [] 0 0 0 0 0 [] .nilSlice .nilSlice .nilSlice n7 a) (CallT PR Da [(.agg (cV n1 b2 b3 s1 n2 n3 n4 n5 n6 s2 v1 v2 v3))] [sV] a (fun (n8:Int) (b4 b5:Bool) (s3:B8) (n9 e f d b:Int) (s4:B8) (v4 v5 v6:TV) g=>need (List.all (cV n8 b4 b5 s3 n9 e f d b s4 v4 v5 v6) Au) (K n8 b4 b5 s3 n9 e f d b s4 v4 v5 v6 0 g)))))))):CallT PR FU [(.agg (cV v_0 v_1 v_2 v_3 v_4 v_5 v_6 v_7 v_8 v_9 v_10 v_11 v_12)),p] [sV,.one (.int .i64)] st K:=
 Af (cfg:=⟨[2,4,6],[],[]⟩) (h:= .none) mixed (fun _ _=>Tryz.call37 _ _) Tryz.func37 (by kernel_rfl) (by kernel_rfl) h
theorem CT (s:TV) (st:St) (K:TV->St->Prop) (h:need (isSl s) (BIf (BE s) (K .nilSlice st) (Aj (DA st 3 s) (fun (q1:Nat×List TV)=>need (List.all q1.2 Au) (CV 56 3 32 (.list 3 .full 0 []) q1.1 q1.2 st (fun (v1:TV) a=>K v1 a)))))):CallT PR A5 [s] [.one .tv] st K:=
 Af (cfg:=⟨[],[],[]⟩) (h:= .none) mixed (fun _ _=>Tryz.call38 _ _) Tryz.func38 (by kernel_rfl) (by kernel_rfl) h
theorem G2 (p:TV) (st:St) (K:Bool->St->Prop) (h:need (isSl p) (BId ((48:Int)<(lenS p:Int)) (K false st) (∃(I1:Int->TV->St->Prop) (M1:Int->TV->St->Nat),(I1 0 p st)/\∀a b c,I1 a b c->(need (isSl b) (BId (a<(lenS b:Int)) (((0<=a/\a<(lenZ 3 b:Int))/\need (isPtr (ixT 3 b a.toNat)) (Aj (Ac c [] (.t (Az (ixT 3 b a.toNat) 0)) 0) (fun (x1:TV)=>AQ .bool x1 (fun (b1:Bool)=>BIf b1 (((0<=a/\a<(lenZ 3 b:Int))/\need (isPtr (ixT 3 b a.toNat)) (Aj (Ac c [] (.t (Az (ixT 3 b a.toNat) 1)) 0) (fun (x2:TV)=>AQ .str x2 (fun (s1:B8)=>BId (s1≠([]:B8)) (K false c) (((0<=a/\a<(lenZ 3 b:Int))/\need (isPtr (ixT 3 b a.toNat)) (Aj (Ac c [] (.t (Az (ixT 3 b a.toNat) 2)) 0) (fun (x3:TV)=>AQ (.int .i64) x3 (fun (n1:Int)=>BId (n1<0) (K false c) (((0<=a/\a<(lenZ 3 b:Int))/\need (isPtr (ixT 3 b a.toNat)) (Aj (Ac c [] (.t (Az (ixT 3 b a.toNat) 2)) 0) (fun (x4:TV)=>AQ (.int .i64) x4 (fun (n2:Int)=>BId ((65536:Int)<n2) (K false c) (((0<=a/\a<(lenZ 3 b:Int))/\need (isPtr (ixT 3 b a.toNat)) (Aj (Ac c [] (.t (Az (ixT 3 b a.toNat) 0)) 0) (fun (x5:TV)=>AQ .bool x5 (fun (b2:Bool)=>BIf (!b2) (((0<=a/\a<(lenZ 3 b:Int))/\need (isPtr (ixT 3 b a.toNat)) (Aj (Ac c [] (.t (Az (ixT 3 b a.toNat) 2)) 0) (fun (x6:TV)=>AQ (.int .i64) x6 (fun (n3:Int)=>BId (n3≠0) (K false c) (((0<=a/\a<(lenZ 3 b:Int))/\need (isPtr (ixT 3 b a.toNat)) (Aj (Ac c [] (.t (Az (ixT 3 b a.toNat) 1)) 0) (fun (x7:TV)=>AQ .str x7 (fun (s2:B8)=>BId ((1024:Int)<(s2.length:Int)) (K false c) (((0<=a/\a<(lenZ 3 b:Int))/\need (isPtr (ixT 3 b a.toNat)) (Aj (Ac c [] (.t (Az (ixT 3 b a.toNat) 1)) 0) (fun (x8:TV)=>AQ .str x8 (fun (s3:B8)=>CallT PR BJ [.str s3] [.one .bool] c (fun (b3:Bool) d=>BIf (!b3) (K false d) ((I1 ((i64.wrap (a+(1:Int)))) b d/\M1 ((i64.wrap (a+(1:Int)))) b d<M1 a b c)))))))))))))))))) ((I1 ((i64.wrap (a+(1:Int)))) b c/\M1 ((i64.wrap (a+(1:Int)))) b c<M1 a b c)))))))))))))))))))))) (((0<=a/\a<(lenZ 3 b:Int))/\need (isPtr (ixT 3 b a.toNat)) (Aj (Ac c [] (.t (Az (ixT 3 b a.toNat) 0)) 0) (fun (x9:TV)=>AQ .bool x9 (fun (b4:Bool)=>BIf (!b4) (((0<=a/\a<(lenZ 3 b:Int))/\need (isPtr (ixT 3 b a.toNat)) (Aj (Ac c [] (.t (Az (ixT 3 b a.toNat) 2)) 0) (fun (i:TV)=>AQ (.int .i64) i (fun (n4:Int)=>BId (n4≠0) (K false c) (((0<=a/\a<(lenZ 3 b:Int))/\need (isPtr (ixT 3 b a.toNat)) (Aj (Ac c [] (.t (Az (ixT 3 b a.toNat) 1)) 0) (fun (f:TV)=>AQ .str f (fun (s4:B8)=>BId ((1024:Int)<(s4.length:Int)) (K false c) (((0<=a/\a<(lenZ 3 b:Int))/\need (isPtr (ixT 3 b a.toNat)) (Aj (Ac c [] (.t (Az (ixT 3 b a.toNat) 1)) 0) (fun (g:TV)=>AQ .str g (fun (s5:B8)=>CallT PR BJ [.str s5] [.one .bool] c (fun (b5:Bool) e=>BIf (!b5) (K false e) ((I1 ((i64.wrap (a+(1:Int)))) b e/\M1 ((i64.wrap (a+(1:Int)))) b e<M1 a b c)))))))))))))))))) ((I1 ((i64.wrap (a+(1:Int)))) b c/\M1 ((i64.wrap (a+(1:Int)))) b c<M1 a b c)))))))))))) (K true c)))))):CallT PR Cm [p] [.one .bool] st K:=
 Af (cfg:=⟨[],[],[]⟩) (h:=(.seq .none (.seq .none (.seq (.seq .none (.block (.loop ⟨[(3,.int .i64),(0,.tv)],[],[],[]⟩ .none))) .none)))) mixed (fun _ _=>Tryz.call39 _ _) Tryz.func39 (by kernel_rfl) (by kernel_rfl) h
theorem Hd (v_0:Int) (v_1:Bool) (v_2:Bool) (v_3:B8) (v_4:Int) (v_5:Int) (v_6:Int) (v_7:Int) (v_8:Int) (v_9:B8) (v_10:TV) (v_11:TV) (v_12:TV) (s_0:Bool) (s_1:B8) (s_2:Int) (st:St) (K:Int->Int->St->Prop) (h:BIf s_0 (BId (v_0≠6) (K 0 6 st) (BId (s_2<0) (K 0 7 st) (need (isSl v_11) (BId ((lenS v_11:Int)<=s_2) (K 0 7 st) (K s_2 0 st))))) (BId (v_0≠7) (K 0 6 st) (∃(I1:Int->V13 (Bool->B8->Int->St->Prop)) (M1:Int->V13 (Bool->B8->Int->St->Nat)),(I1 0 v_0 v_1 v_2 v_3 v_4 v_5 v_6 v_7 v_8 v_9 v_10 v_11 v_12 s_0 s_1 s_2 st)/\∀a n1 b1 b2 s1 n2 n3 n4 n5 n6 s2 v1 v2 v3 b3 s3 n7 b,I1 a n1 b1 b2 s1 n2 n3 n4 n5 n6 s2 v1 v2 v3 b3 s3 n7 b->(need (isSl v3) (BId (a<(lenS v3:Int)) (((0<=a/\a<(lenZ 14 v3:Int))/\need (isPtr (ixT 14 v3 a.toNat)) (Aj (Ac b [] (.t (Az (ixT 14 v3 a.toNat) 0)) 0) (fun (x1:TV)=>AQ .str x1 (fun (s4:B8)=>BId (s4=s3) (K a 0 b) ((I1 ((i64.wrap (a+(1:Int)))) n1 b1 b2 s1 n2 n3 n4 n5 n6 s2 v1 v2 v3 b3 s3 n7 b/\M1 ((i64.wrap (a+(1:Int)))) n1 b1 b2 s1 n2 n3 n4 n5 n6 s2 v1 v2 v3 b3 s3 n7 b<M1 a n1 b1 b2 s1 n2 n3 n4 n5 n6 s2 v1 v2 v3 b3 s3 n7 b))))))) (K 0 7 b)))))):CallT PR CF [(.agg (cV v_0 v_1 v_2 v_3 v_4 v_5 v_6 v_7 v_8 v_9 v_10 v_11 v_12)),(.agg [.bool s_0,.str s_1,.int .i64 s_2])] [.one (.int .i64),.one (.int .i64)] st K:=
 Af (cfg:=⟨[2,3],[],[]⟩) (h:=(.seq .none (.seq .none (.seq .none (.seq (.seq .none (.block (.loop ⟨[(6,.int .i64)],[(2,0,0),(3,1,0)],[(0,13),(1,3)],[(0,0,.int .i64),(0,1,.bool),(0,2,.bool),(0,3,.str),(0,4,.int .i64),(0,5,.int .i64),(0,6,.int .i64),(0,7,.int .i64),(0,8,.int .i64),(0,9,.str),(0,10,.tv),(0,11,.tv),(0,12,.tv),(1,0,.bool),(1,1,.str),(1,2,.int .i64)]⟩ .none))) .none))))) mixed (fun _ _=>Tryz.call41 _ _) Tryz.func41 (by kernel_rfl) (by kernel_rfl) h
theorem Hc (v_0:Int) (v_1:Bool) (v_2:Bool) (v_3:B8) (v_4:Int) (v_5:Int) (v_6:Int) (v_7:Int) (v_8:Int) (v_9:B8) (v_10:TV) (v_11:TV) (v_12:TV) (i:Int) (st:St) (K:V13 (St->Prop)) (h:BId (v_0=6) (((0<=i/\i<(lenZ 13 v_11:Int))/\Aj ((Ai st [] (.t (ixT 13 v_11 i.toNat)) 0 13).map TV.agg) (fun (x1:TV)=>Bj [.int .i64,.bool,.bool,.str,.int .i64,.int .i64,.int .i64,.int .i64,.int .i64,.str,.tv,.tv,.tv] x1 (fun (n1:Int) (b1 b2:Bool) (s1:B8) (n2 n3 n4 n5 n6:Int) (s2:B8) (v1 v2 v3:TV)=>need (List.all (cV n1 b1 b2 s1 n2 n3 n4 n5 n6 s2 v1 v2 v3) Au) (K n1 b1 b2 s1 n2 n3 n4 n5 n6 s2 v1 v2 v3 st))))) (((0<=i/\i<(lenZ 14 v_12:Int))/\need (isPtr (ixT 14 v_12 i.toNat)) (Aj ((Ai st [] (.t (Az (ixT 14 v_12 i.toNat) 1)) 0 13).map TV.agg) (fun (x2:TV)=>Bj [.int .i64,.bool,.bool,.str,.int .i64,.int .i64,.int .i64,.int .i64,.int .i64,.str,.tv,.tv,.tv] x2 (fun (n7:Int) (b3 b4:Bool) (s3:B8) (n8 n9 c b a:Int) (s4:B8) (v4 v5 v6:TV)=>need (List.all (cV n7 b3 b4 s3 n8 n9 c b a s4 v4 v5 v6) Au) (K n7 b3 b4 s3 n8 n9 c b a s4 v4 v5 v6 st))))))):CallT PR CE [(.agg (cV v_0 v_1 v_2 v_3 v_4 v_5 v_6 v_7 v_8 v_9 v_10 v_11 v_12)),.int .i64 i] [sV] st K:=
 Af (cfg:=⟨[2,4],[],[]⟩) (h:= .none) mixed (fun _ _=>Tryz.call42 _ _) Tryz.func42 (by kernel_rfl) (by kernel_rfl) h
theorem L8 (a_0:Int) (a_1:Bool) (a_2:Bool) (a_3:B8) (a_4:Int) (a_5:Int) (a_6:Int) (a_7:Int) (a_8:Int) (a_9:B8) (a_10:TV) (a_11:TV) (a_12:TV) (b_0:Int) (b_1:Bool) (b_2:Bool) (b_3:B8) (b_4:Int) (b_5:Int) (b_6:Int) (b_7:Int) (b_8:Int) (b_9:B8) (b_10:TV) (b_11:TV) (b_12:TV) (exact:Bool) (left:Int) (st:St) (K:Bool->St->Prop) (h:BId (a_0≠b_0) (K false ((st.push (.cells [.bool exact]) (some 4)).push (.cells [.int .i64 left]) (some 3))) (BIf (!(a_1==b_1)) (K false ((st.push (.cells [.bool exact]) (some 4)).push (.cells [.int .i64 left]) (some 3))) (BIf (!((a_2==b_2)&&(decide (a_3=b_3)&&(decide (a_4=b_4)&&true)))) (K false ((st.push (.cells [.bool exact]) (some 4)).push (.cells [.int .i64 left]) (some 3))) (BIf (!(decide (a_5=b_5)&&(decide (a_6=b_6)&&(decide (a_7=b_7)&&(decide (a_8=b_8)&&true))))) (K false ((st.push (.cells [.bool exact]) (some 4)).push (.cells [.int .i64 left]) (some 3))) (BId (a_9≠b_9) (K false ((st.push (.cells [.bool exact]) (some 4)).push (.cells [.int .i64 left]) (some 3))) (CallT PR Bt [a_10,b_10] [.one .bool] ((st.push (.cells [.bool exact]) (some 4)).push (.cells [.int .i64 left]) (some 3)) (fun (b1:Bool) a=>BIf (!b1) (K false a) (Aj (Ac a [] (.t (.box (st.push (.cells [.bool exact]) (some 4)).nb 0)) 0) (fun (x1:TV)=>AQ (.int .i64) x1 (fun (n1:Int)=>BId (n1<1) (K false a) (Aj (Ac a [] (.t (.box st.nb 0)) 0) (fun (x2:TV)=>AQ .bool x2 (fun (b2:Bool)=>BIf (!b2) (CallT PR Cc [(.agg (cV a_0 a_1 a_2 a_3 a_4 a_5 a_6 a_7 a_8 a_9 a_10 a_11 a_12))] [.one .tv] a (fun (v1:TV) g=>CallT PR Cc [(.agg (cV b_0 b_1 b_2 b_3 b_4 b_5 b_6 b_7 b_8 b_9 b_10 b_11 b_12))] [.one .tv] g (fun (v2:TV) b=>stB (b.push (.cells [.nilFunc]) (some 41)) (.box b.nb 0) [(.func BP [(.box st.nb 0),(.box (st.push (.cells [.bool exact]) (some 4)).nb 0)])] (fun d=>Aj (Ac d [] (.t (.box b.nb 0)) 0) (fun (v3:TV)=>CallT PR Aq [a_11,b_11,v3] [.one .bool] d (fun (b3:Bool) e=>BIf b3 (CallT PR Ar [v1,v2,(.func De [(.box b.nb 0)])] [.one .bool] e (fun (b4:Bool) j=>K b4 j)) (K false e))))))) (stB (a.push (.cells [.nilFunc]) (some 41)) (.box a.nb 0) [(.func BP [(.box st.nb 0),(.box (st.push (.cells [.bool exact]) (some 4)).nb 0)])] (fun c=>Aj (Ac c [] (.t (.box a.nb 0)) 0) (fun (v4:TV)=>CallT PR Aq [a_11,b_11,v4] [.one .bool] c (fun (b5:Bool) f=>BIf b5 (CallT PR Ar [a_12,b_12,(.func De [(.box a.nb 0)])] [.one .bool] f (fun (b6:Bool) i=>K b6 i)) (K false f)))))))))))))))))):CallT PR DY [(.agg (cV a_0 a_1 a_2 a_3 a_4 a_5 a_6 a_7 a_8 a_9 a_10 a_11 a_12)),(.agg (cV b_0 b_1 b_2 b_3 b_4 b_5 b_6 b_7 b_8 b_9 b_10 b_11 b_12)),.bool exact,.int .i64 left] [.one .bool] st K:=
 Af (cfg:=⟨[4,5],[],[]⟩) (h:= .none) mixed (fun _ _=>Tryz.call43 _ _) Tryz.func43 (by kernel_rfl) (by kernel_rfl) h
theorem Gy (st:St) (K:V13 (St->Prop)) (h:K 2 false false str5 0 0 0 0 0 [] .nilSlice .nilSlice .nilSlice st):CallT PR Dt [] [sV] st K:=
 Af (cfg:=⟨[0],[],[]⟩) (h:= .none) mixed (fun _ _=>Tryz.call44 _ _) Tryz.func44 (by kernel_rfl) (by kernel_rfl) h
theorem G0 (st:St) (K:TV->St->Prop) (h:need (List.all [(.map st.nb)] Au) (CallT PR Ay [(.box (st.push (.pmap []) none).nb 0),.int .i64 1] [.one .tv] ((st.push (.pmap []) none).push (.cells [.nilPtr,.nilPtr,(.map st.nb),.int .i64 0]) (some 74)) (fun (v1:TV) b=>need (List.all [v1] Au) (stB b (.box (st.push (.pmap []) none).nb 0) [v1] (fun a=>Aj (Ac a [] (.t (.box (st.push (.pmap []) none).nb 0)) 0) (fun (v2:TV)=>need (List.all [v2] Au) (stB a (.box (st.push (.pmap []) none).nb 1) [v2] (fun c=>K ((.box (st.push (.pmap []) none).nb 0)) c)))))))):CallT PR Cj [] [.one .tv] st K:=
 Af (cfg:=⟨[],[],[]⟩) (h:= .none) mixed (fun _ _=>Tryz.call45 _ _) Tryz.func45 (by kernel_rfl) (by kernel_rfl) h
theorem Fm (b:Nat) (a_0:Bool) (a_1:Bool) (a_2:TV) (a_3:Int) (a_4:Bool) (a_5:Bool) (a_6:B8) (a_7:Int) (a_8:Int) (a_9:Int) (a_10:Int) (a_11:Int) (a_12:B8) (a_13:TV) (a_14:TV) (a_15:TV) (atx:Int) (st:St) (K:Int->St->Prop) (h:CallT PR Cr [(.agg [.bool a_0,.bool a_1,a_2,.int .i64 a_3,.bool a_4,.bool a_5,.str a_6,.int .i64 a_7,.int .i64 a_8,.int .i64 a_9,.int .i64 a_10,.int .i64 a_11,.str a_12,a_13,a_14,a_15])] [.one .bool] st (fun (b1:Bool) j=>BIf (!b1) (K 1 j) (Aj (Ac j [] (.t (.box b 1)) 0) (fun (v1:TV)=>∃(C1:TV->TV->Int->Bool->Bool->TV->V13 (St->Prop)),(BIf a_0 (Aj (Ac j [] (.t (.box b 0)) 0) (fun (v2:TV)=>C1 v2 ((.box b 0)) atx a_0 a_1 a_2 a_3 a_4 a_5 a_6 a_7 a_8 a_9 a_10 a_11 a_12 a_13 a_14 a_15 j)) (C1 v1 ((.box b 0)) atx a_0 a_1 a_2 a_3 a_4 a_5 a_6 a_7 a_8 a_9 a_10 a_11 a_12 a_13 a_14 a_15 j))/\∀i a o b2 b3 v3 n1 b4 b5 s1 n2 n3 n4 n5 n6 s2 v4 v5 v6 u,C1 i a o b2 b3 v3 n1 b4 b5 s1 n2 n3 n4 n5 n6 s2 v4 v5 v6 u->(CallT PR BX [a,i,(.agg [.bool b2,.bool b3,v3,.int .i64 n1,.bool b4,.bool b5,.str s1,.int .i64 n2,.int .i64 n3,.int .i64 n4,.int .i64 n5,.int .i64 n6,.str s2,v4,v5,v6])] [.one .tv,.one .bool] u (fun (v7:TV) (b6:Bool) c=>BIf (!b6) (K 8 c) (need (isSl v3) (((0<=(i64.wrap ((lenS v3:Int)-(1:Int)))/\(i64.wrap ((lenS v3:Int)-(1:Int)))<(lenZ 1 v3:Int))/\Aj (Ac c [] (.t (ixT 1 v3 (Int.toNat (i64.wrap ((lenS v3:Int)-(1:Int)))))) 0) (fun (x3:TV)=>AQ .str x3 (fun (s3:B8)=>need (isPtr v7) (need (isPtr v7) (Aj (Ac c [] (.t (Az v7 2)) 0) (fun (x4:TV)=>AQ (.int .i64) x4 (fun (n7:Int)=>BIf b3 (CallT PR BF [a,v7,.str s3] [.one (.int .i64)] c (fun (n8:Int) f=>BId (n8≠0) (K n8 f) (BId ((48:Int)<(i64.wrap (n7+(2:Int)))) (need (isPtr a) (need (isPtr a) (Aj (Ac f [] (.t (Az a 0)) 0) (fun (v8:TV)=>CallT PR Ao [a,v8] [sV] f (fun (n9:Int) (b7 b8:Bool) (s4:B8) (o8 r4 q4 c5 p9:Int) (s5:B8) (v9 q6 h5:TV) k0=>CallT PR AH [(.agg (cV n9 b7 b8 s4 o8 r4 q4 c5 p9 s5 v9 q6 h5))] [.one (.int .i64)] k0 (fun (l6:Int) o6=>K l6 o6)))))) (need (isPtr a) (need (isPtr a) (Aj (Ac f [] (.t (Az a 3)) 0) (fun (x6:TV)=>AQ (.int .i64) x6 (fun (k4:Int)=>BId ((65536:Int)<k4) (need (isPtr a) (need (isPtr a) (Aj (Ac f [] (.t (Az a 0)) 0) (fun (k6:TV)=>CallT PR Ao [a,k6] [sV] f (fun (f5:Int) (b9 i8:Bool) (s6:B8) (r6 k3 i4 d9 o9:Int) (s7:B8) (i5 r7 i0:TV) k5=>CallT PR AH [(.agg (cV f5 b9 i8 s6 r6 k3 i4 d9 o9 s7 i5 r7 i0))] [.one (.int .i64)] k5 (fun (g1:Int) f8=>K g1 f8)))))) (CallT PR Ax [v3,(.func Bf [])] [.one .bool] f (fun (j2:Bool) p=>BIf j2 (need (isPtr a) (need (isPtr a) (Aj (Ac p [] (.t (Az a 0)) 0) (fun (c9:TV)=>CallT PR Ao [a,c9] [sV] p (fun (j4:Int) (l4 h0:Bool) (s8:B8) (r0 l7 h9 l0 q0:Int) (s9:B8) (i2 g4 j6:TV) z=>CallT PR AH [(.agg (cV j4 l4 h0 s8 r0 l7 h9 l0 q0 s9 i2 g4 j6))] [.one (.int .i64)] z (fun (p8:Int) a5=>K p8 a5)))))) (K 0 p))))))))))) (BIf b2 (CallT PR BL [a,v7,.str s3] [.one (.int .i64)] c (fun (s:Int) d=>BId (s≠0) (K s d) (BId ((48:Int)<(i64.wrap (n7+(2:Int)))) (need (isPtr a) (need (isPtr a) (Aj (Ac d [] (.t (Az a 0)) 0) (fun (i1:TV)=>CallT PR Ao [a,i1] [sV] d (fun (o7:Int) (m4 r8:Bool) (r1:B8) (j0 p0 c1 g8 i3:Int) (l9:B8) (d0 p2 m0:TV) a3=>CallT PR AH [(.agg (cV o7 m4 r8 r1 j0 p0 c1 g8 i3 l9 d0 p2 m0))] [.one (.int .i64)] a3 (fun (m2:Int) a2=>K m2 a2)))))) (need (isPtr a) (need (isPtr a) (Aj (Ac d [] (.t (Az a 3)) 0) (fun (l2:TV)=>AQ (.int .i64) l2 (fun (g9:Int)=>BId ((65536:Int)<g9) (need (isPtr a) (need (isPtr a) (Aj (Ac d [] (.t (Az a 0)) 0) (fun (f1:TV)=>CallT PR Ao [a,f1] [sV] d (fun (r2:Int) (t3 i6:Bool) (h1:B8) (e9 m3 m7 o1 l8:Int) (e2:B8) (c7 h6 k7:TV) a0=>CallT PR AH [(.agg (cV r2 t3 i6 h1 e9 m3 m7 o1 l8 e2 c7 h6 k7))] [.one (.int .i64)] a0 (fun (l1:Int) w=>K l1 w)))))) (CallT PR Ax [v3,(.func Bf [])] [.one .bool] d (fun (d8:Bool) k=>BIf d8 (need (isPtr a) (need (isPtr a) (Aj (Ac k [] (.t (Az a 0)) 0) (fun (c8:TV)=>CallT PR Ao [a,c8] [sV] k (fun (p1:Int) (c2 f0:Bool) (p3:B8) (e8 h2 t2 g2 e4:Int) (k2:B8) (q3 p7 c4:TV) a7=>CallT PR AH [(.agg (cV p1 c2 f0 p3 e8 h2 t2 g2 e4 k2 q3 p7 c4))] [.one (.int .i64)] a7 (fun (m9:Int) x=>K m9 x)))))) (K 0 k))))))))))) (need (isPtr v7) (need (isPtr v7) (Aj (Ac c [] (.t (Az v7 1)) 0) (fun (f2:TV)=>Aj (D6 c f2) (fun (es1:List (B8×TV))=>need (E4 (As .nilPtr (Av s3 es1))) (BIf (!BE (As .nilPtr (Av s3 es1))) (K 8 c) (CallT PR AO [v7,.str s3,(.box c.nb 0)] [] (c.push (.cells [.nilPtr,.nilSlice,.int .i64 n1,.bool b4,.bool b5,.str s1,.int .i64 n2,.int .i64 n3,.int .i64 n4,.int .i64 n5,.int .i64 n6,.str s2,v4,v5,v6,.int .i64 o]) (some 92)) (fun (y:St)=>CallT PR AH [(.agg (cV n1 b4 b5 s1 n2 n3 n4 n5 n6 s2 v4 v5 v6))] [.one (.int .i64)] y (fun (l5:Int) g=>BId (l5≠0) (need (isPtr a) (need (isPtr a) (Aj (Ac g [] (.t (Az a 0)) 0) (fun (g0:TV)=>CallT PR Ao [a,g0] [sV] g (fun (m1:Int) (f6 o2:Bool) (f4:B8) (g3 r9 i7 d6 g5:Int) (h8:B8) (p5 r5 q1:TV) a4=>CallT PR AH [(.agg (cV m1 f6 o2 f4 g3 r9 i7 d6 g5 h8 p5 r5 q1))] [.one (.int .i64)] a4 (fun (e5:Int) a1=>K e5 a1)))))) (need (isPtr a) (need (isPtr a) (Aj (Ac g [] (.t (Az a 3)) 0) (fun (i9:TV)=>AQ (.int .i64) i9 (fun (q:Int)=>CallT PR FP [(.agg (cV n1 b4 b5 s1 n2 n3 n4 n5 n6 s2 v4 v5 v6))] [.one (.int .i64)] g (fun (h3:Int) m=>(Ac m [] (.t (Az a 3)) 0=some (.int .i64 q)/\need (isPtr a) (need (isPtr a) (stB m (Az a 3) [(.int .i64 (i64.wrap (q+h3)))] (fun n=>need (isPtr v7) (need (isPtr v7) (Aj (Ac n [] (.t (Az v7 2)) 0) (fun (f7:TV)=>AQ (.int .i64) f7 (fun (r:Int)=>CallT PR E6 [(.agg (cV n1 b4 b5 s1 n2 n3 n4 n5 n6 s2 v4 v5 v6))] [.one (.int .i64)] n (fun (d3:Int) e=>(Ac e [] (.t (Az v7 2)) 0=some (.int .i64 r)/\BId ((48:Int)<(i64.wrap (r+d3))) (need (isPtr a) (need (isPtr a) (Aj (Ac e [] (.t (Az a 0)) 0) (fun (c3:TV)=>CallT PR Ao [a,c3] [sV] e (fun (s0:Int) (e1 e3:Bool) (j8:B8) (l3 p6 f9 o4 m5:Int) (o5:B8) (k8 m8 d1:TV) a8=>CallT PR AH [(.agg (cV s0 e1 e3 j8 l3 p6 f9 o4 m5 o5 k8 m8 d1))] [.one (.int .i64)] a8 (fun (j3:Int) v=>K j3 v)))))) (need (isPtr a) (need (isPtr a) (Aj (Ac e [] (.t (Az a 3)) 0) (fun (d5:TV)=>AQ (.int .i64) d5 (fun (q7:Int)=>BId ((65536:Int)<q7) (need (isPtr a) (need (isPtr a) (Aj (Ac e [] (.t (Az a 0)) 0) (fun (o3:TV)=>CallT PR Ao [a,o3] [sV] e (fun (q2:Int) (j9 q9:Bool) (k9:B8) (n0 d7 q8 t0 h4:Int) (e7:B8) (g6 t4 d2:TV) a9=>CallT PR AH [(.agg (cV q2 j9 q9 k9 n0 d7 q8 t0 h4 e7 g6 t4 d2))] [.one (.int .i64)] a9 (fun (r3:Int) c0=>K r3 c0)))))) (CallT PR Ax [v3,(.func Bf [])] [.one .bool] e (fun (o0:Bool) l=>BIf o0 (need (isPtr a) (need (isPtr a) (Aj (Ac l [] (.t (Az a 0)) 0) (fun (g7:TV)=>CallT PR Ao [a,g7] [sV] l (fun (m6:Int) (d4 q5:Bool) (e0:B8) (t1 f3 k1 j5 j7:Int) (p4:B8) (h7 e6 c6:TV) a6=>CallT PR AH [(.agg (cV m6 d4 q5 e0 t1 f3 k1 j5 j7 p4 h7 e6 c6))] [.one (.int .i64)] a6 (fun (j1:Int) b0=>K j1 b0)))))) (K 0 l))))))))))))))))))))))))))))))))))))))))))))))))):CallT PR BM [(.box b 0),(.agg [.bool a_0,.bool a_1,a_2,.int .i64 a_3,.bool a_4,.bool a_5,.str a_6,.int .i64 a_7,.int .i64 a_8,.int .i64 a_9,.int .i64 a_10,.int .i64 a_11,.str a_12,a_13,a_14,a_15]),.int .i64 atx] [.one (.int .i64)] st K:=
 Af (cfg:=⟨[4],[],[71,81]⟩) (h:=(.seq .none (.seq .none (.seq .none (.cut ⟨[(7,.tv),(0,.tv),(2,.int .i64)],[(4,0,0)],[(0,16)],[(0,0,.bool),(0,1,.bool),(0,2,.tv),(0,3,.int .i64),(0,4,.bool),(0,5,.bool),(0,6,.str),(0,7,.int .i64),(0,8,.int .i64),(0,9,.int .i64),(0,10,.int .i64),(0,11,.int .i64),(0,12,.str),(0,13,.tv),(0,14,.tv),(0,15,.tv)]⟩ .none .none))))) mixed (fun _ _=>Tryz.call46 _ _) Tryz.func46 (by kernel_rfl) (by kernel_rfl) h
theorem Kt (v_0:Int) (d:Bool) (c:Bool) (v_3:B8) (v_4:Int) (v_5:Int) (v_6:Int) (v_7:Int) (v_8:Int) (v_9:B8) (v_10:TV) (v_11:TV) (v_12:TV) (left:Int) (st:St) (K:V13 (St->Prop)) (h:CallT PR Bu [v_10] [.one .tv] st (fun (v1:TV) e6=>need (List.all [v1] Au) (BId (left<1) (need (List.all (cV v_0 d c v_3 v_4 v_5 v_6 v_7 v_8 v_9 v1 .nilSlice .nilSlice) Au) (K v_0 d c v_3 v_4 v_5 v_6 v_7 v_8 v_9 v1 .nilSlice .nilSlice e6)) (need (isSl v_11) (∃(I1:TV->Int->Int->TV->Int->V13 (V13 (St->Prop))) (M1:TV->Int->Int->TV->Int->V13 (V13 (St->Nat))),(I1 .nilSlice 0 left v_11 ((lenS v_11:Int)) v_0 d c v_3 v_4 v_5 v_6 v_7 v_8 v_9 v1 v_11 v_12 0 false false [] 0 0 0 0 0 [] .nilSlice .nilSlice .nilSlice e6)/\∀b0 f a d x n1 b1 b2 s1 n2 n3 n4 n5 n6 s2 v2 v3 v4 n7 b3 b4 s3 n8 n9 v z y s4 v5 v6 v7 w,I1 b0 f a d x n1 b1 b2 s1 n2 n3 n4 n5 n6 s2 v2 v3 v4 n7 b3 b4 s3 n8 n9 v z y s4 v5 v6 v7 w->(BId (f<x) (((0<=f/\f<(lenZ 13 d:Int))/\Aj ((Ai w [] (.t (ixT 13 d f.toNat)) 0 13).map TV.agg) (fun (x1:TV)=>Bj [.int .i64,.bool,.bool,.str,.int .i64,.int .i64,.int .i64,.int .i64,.int .i64,.str,.tv,.tv,.tv] x1 (fun (c6:Int) (b5 b6:Bool) (s5:B8) (g6 f4 e9 d4 g9:Int) (s6:B8) (v8 v9 g7:TV)=>need (List.all (cV c6 b5 b6 s5 g6 f4 e9 d4 g9 s6 v8 v9 g7) Au) (CallT PR Cd [(.agg (cV c6 b5 b6 s5 g6 f4 e9 d4 g9 s6 v8 v9 g7)),(.int .i64 (i64.wrap (a-(1:Int))))] [sV] w (fun (e8:Int) (b7 b8:Bool) (s7:B8) (e3 c9 g2 d5 e5:Int) (s8:B8) (d9 f0 e4:TV) h4=>need (List.all (cV e8 b7 b8 s7 e3 c9 g2 d5 e5 s8 d9 f0 e4) Au) (HV 33 13 168 b0 1 (cV e8 b7 b8 s7 e3 c9 g2 d5 e5 s8 d9 f0 e4) h4 (fun (h0:TV) d7=>(I1 h0 ((i64.wrap (f+(1:Int)))) a d x n1 b1 b2 s1 n2 n3 n4 n5 n6 s2 v2 v3 v4 n7 b3 b4 s3 n8 n9 v z y s4 v5 v6 v7 d7/\M1 h0 ((i64.wrap (f+(1:Int)))) a d x n1 b1 b2 s1 n2 n3 n4 n5 n6 s2 v2 v3 v4 n7 b3 b4 s3 n8 n9 v z y s4 v5 v6 v7 d7<M1 b0 f a d x n1 b1 b2 s1 n2 n3 n4 n5 n6 s2 v2 v3 v4 n7 b3 b4 s3 n8 n9 v z y s4 v5 v6 v7 w))))))))) (need (isSl v4) (∃(I2:TV->Int->Int->TV->TV->Int->V13 (V13 (St->Prop))) (M2:TV->Int->Int->TV->TV->Int->V13 (V13 (St->Nat))),(I2 .nilSlice 0 a b0 v4 ((lenS v4:Int)) n1 b1 b2 s1 n2 n3 n4 n5 n6 s2 v2 v3 v4 n7 b3 b4 s3 n8 n9 v z y s4 v5 v6 v7 w)/\∀i e b g c s q b9 l s9 n j m p o r k a1 a6 c2 a8 c0 c1 c3 a7 c4 a0 a3 a4 a2 a9 a5 u,I2 i e b g c s q b9 l s9 n j m p o r k a1 a6 c2 a8 c0 c1 c3 a7 c4 a0 a3 a4 a2 a9 a5 u->(BId (e<s) (((0<=e/\e<(lenZ 14 c:Int))/\Aj ((Ai u [] (.t (ixT 14 c e.toNat)) 0 14).map TV.agg) (fun (x2:TV)=>Bj [.str,.int .i64,.bool,.bool,.str,.int .i64,.int .i64,.int .i64,.int .i64,.int .i64,.str,.tv,.tv,.tv] x2 (fun (c5:B8) (e2:Int) (d8 f9:Bool) (g5:B8) (f7 d6 g8 d1 f8:Int) (e7:B8) (c8 g4 f6:TV)=>need (List.all [.str c5,.int .i64 e2,.bool d8,.bool f9,.str g5,.int .i64 f7,.int .i64 d6,.int .i64 g8,.int .i64 d1,.int .i64 f8,.str e7,c8,g4,f6] Au) (CallT PR Cd [(.agg (cV e2 d8 f9 g5 f7 d6 g8 d1 f8 e7 c8 g4 f6)),(.int .i64 (i64.wrap (b-(1:Int))))] [sV] u (fun (g0:Int) (h1 h2:Bool) (d3:B8) (g1 f5 f3 g3 d0:Int) (e1:B8) (d2 c7 e0:TV) h3=>need (List.all [.str c5,.int .i64 g0,.bool h1,.bool h2,.str d3,.int .i64 g1,.int .i64 f5,.int .i64 f3,.int .i64 g3,.int .i64 d0,.str e1,d2,c7,e0] Au) (HV 65 14 184 i 1 [.str c5,.int .i64 g0,.bool h1,.bool h2,.str d3,.int .i64 g1,.int .i64 f5,.int .i64 f3,.int .i64 g3,.int .i64 d0,.str e1,d2,c7,e0] h3 (fun (f1:TV) f2=>(I2 f1 ((i64.wrap (e+(1:Int)))) b g c s q b9 l s9 n j m p o r k a1 a6 c2 a8 c0 c1 c3 a7 c4 a0 a3 a4 a2 a9 a5 f2/\M2 f1 ((i64.wrap (e+(1:Int)))) b g c s q b9 l s9 n j m p o r k a1 a6 c2 a8 c0 c1 c3 a7 c4 a0 a3 a4 a2 a9 a5 f2<M2 i e b g c s q b9 l s9 n j m p o r k a1 a6 c2 a8 c0 c1 c3 a7 c4 a0 a3 a4 a2 a9 a5 u))))))))) (need (List.all [g] Au) (need (List.all [i] Au) (need (List.all (cV q b9 l s9 n j m p o r k g i) Au) (K q b9 l s9 n j m p o r k g i u))))))))))))):CallT PR Cd [(.agg (cV v_0 d c v_3 v_4 v_5 v_6 v_7 v_8 v_9 v_10 v_11 v_12)),.int .i64 left] [sV] st K:=
 Af (cfg:=⟨[2,4,7,10],[33,52],[]⟩) (h:=(.seq .none (.seq .none (.seq .none (.seq .none (.seq (.seq .none (.block (.loop ⟨[(5,.tv),(23,.int .i64),(1,.int .i64),(21,.tv),(22,.int .i64)],[(2,0,0),(4,1,0)],[(0,13),(1,13)],[(0,0,.int .i64),(0,1,.bool),(0,2,.bool),(0,3,.str),(0,4,.int .i64),(0,5,.int .i64),(0,6,.int .i64),(0,7,.int .i64),(0,8,.int .i64),(0,9,.str),(0,10,.tv),(0,11,.tv),(0,12,.tv),(1,0,.int .i64),(1,1,.bool),(1,2,.bool),(1,3,.str),(1,4,.int .i64),(1,5,.int .i64),(1,6,.int .i64),(1,7,.int .i64),(1,8,.int .i64),(1,9,.str),(1,10,.tv),(1,11,.tv),(1,12,.tv)]⟩ .none))) (.seq .none (.seq (.seq .none (.block (.loop ⟨[(8,.tv),(38,.int .i64),(1,.int .i64),(5,.tv),(36,.tv),(37,.int .i64)],[(2,0,0),(4,1,0)],[(0,13),(1,13)],[(0,0,.int .i64),(0,1,.bool),(0,2,.bool),(0,3,.str),(0,4,.int .i64),(0,5,.int .i64),(0,6,.int .i64),(0,7,.int .i64),(0,8,.int .i64),(0,9,.str),(0,10,.tv),(0,11,.tv),(0,12,.tv),(1,0,.int .i64),(1,1,.bool),(1,2,.bool),(1,3,.str),(1,4,.int .i64),(1,5,.int .i64),(1,6,.int .i64),(1,7,.int .i64),(1,8,.int .i64),(1,9,.str),(1,10,.tv),(1,11,.tv),(1,12,.tv)]⟩ .none))) .none)))))))) mixed (fun _ _=>Tryz.call47 _ _) Tryz.func47 (by kernel_rfl) (by kernel_rfl) h
theorem KQ (v_0:Int) (e:Bool) (d:Bool) (v_3:B8) (v_4:Int) (v_5:Int) (v_6:Int) (v_7:Int) (v_8:Int) (v_9:B8) (v_10:TV) (v_11:TV) (v_12:TV) (depth:Int) (n:Nat) (st:St) (K:Int->St->Prop) (h:Aj (Ac st [] (.t (.box n 0)) 0) (fun (x1:TV)=>AQ (.int .i64) x1 (fun (n1:Int)=>stB st (.box n 0) [(.int .i64 (i64.wrap (n1+(1:Int))))] (fun m=>∃(C1:Int->TV->V13 (St->Prop)),(BId ((48:Int)<depth) (K 9 m) (Aj (Ac m [] (.t (.box n 0)) 0) (fun (x2:TV)=>AQ (.int .i64) x2 (fun (n2:Int)=>BId ((65536:Int)<n2) (K 10 m) (∃(C2:Bool->Int->TV->V13 (St->Prop)),(BId (v_0<0) (C2 true depth ((.box n 0)) v_0 e d v_3 v_4 v_5 v_6 v_7 v_8 v_9 v_10 v_11 v_12 m) (BId ((8:Int)<=v_0) (C2 true depth ((.box n 0)) v_0 e d v_3 v_4 v_5 v_6 v_7 v_8 v_9 v_10 v_11 v_12 m) (CallT PR E5 [(.agg (cV v_0 e d v_3 v_4 v_5 v_6 v_7 v_8 v_9 v_10 v_11 v_12))] [.one .bool] m (fun (b1:Bool) h0=>C2 b1 depth ((.box n 0)) v_0 e d v_3 v_4 v_5 v_6 v_7 v_8 v_9 v_10 v_11 v_12 h0))))/\∀g5 b p n3 b2 b3 s1 n4 n5 n6 n7 n8 s2 v1 v2 v3 w,C2 g5 b p n3 b2 b3 s1 n4 n5 n6 n7 n8 s2 v1 v2 v3 w->(BIf g5 (K 6 w) (∃(C3:Bool->Int->TV->V13 (St->Prop)),(BId (n3=2) (CallT PR DP [(.agg [.bool b3,.str s1,.int .i64 n4])] [.one .bool] w (fun (b4:Bool) c0=>BIf (!b4) (C3 true b p n3 b2 b3 s1 n4 n5 n6 n7 n8 s2 v1 v2 v3 c0) (BId (n3=3) (CallT PR Df [(.agg [.int .i64 n5,.int .i64 n6,.int .i64 n7,.int .i64 n8])] [.one .bool] c0 (fun (b5:Bool) g7=>C3 ((!b5)) b p n3 b2 b3 s1 n4 n5 n6 n7 n8 s2 v1 v2 v3 g7)) (C3 false b p n3 b2 b3 s1 n4 n5 n6 n7 n8 s2 v1 v2 v3 c0)))) (BId (n3=3) (CallT PR Df [(.agg [.int .i64 n5,.int .i64 n6,.int .i64 n7,.int .i64 n8])] [.one .bool] w (fun (b6:Bool) g9=>C3 ((!b6)) b p n3 b2 b3 s1 n4 n5 n6 n7 n8 s2 v1 v2 v3 g9)) (C3 false b p n3 b2 b3 s1 n4 n5 n6 n7 n8 s2 v1 v2 v3 w)))/\∀f8 f c4 n9 b7 b8 s3 c2 c6 c5 b0 c3 s4 v4 v5 v6 o,C3 f8 f c4 n9 b7 b8 s3 c2 c6 c5 b0 c3 s4 v4 v5 v6 o->(BIf f8 (K 2 o) (BId (n9=4) (CallT PR Ds [.str s4] [.one .bool] o (fun (b9:Bool) z=>BIf (!b9) (K 5 z) (BId ((65536:Int)<(s4.length:Int)) (K 10 z) (need (isSl v4) (BId ((65536:Int)<(lenS v4:Int)) (K 10 z) (C1 f c4 n9 b7 b8 s3 c2 c6 c5 b0 c3 s4 v4 v5 v6 z)))))) (BId ((65536:Int)<(s4.length:Int)) (K 10 o) (need (isSl v4) (BId ((65536:Int)<(lenS v4:Int)) (K 10 o) (C1 f c4 n9 b7 b8 s3 c2 c6 c5 b0 c3 s4 v4 v5 v6 o)))))))))))))/\∀r e7 f0 e3 e5 s5 e8 d2 g1 e6 e0 s6 v7 v8 v9 g4,C1 r e7 f0 e3 e5 s5 e8 d2 g1 e6 e0 s6 v7 v8 v9 g4->(CallT PR FO [v9] [.one (.int .i64)] g4 (fun (c9:Int) c1=>BId (c9≠0) (K c9 c1) (need (isSl v8) (∃(I1:Int->Int->TV->TV->Int->V13 (St->Prop)) (M1:Int->Int->TV->TV->Int->V13 (St->Nat)),(I1 0 r e7 v8 ((lenS v8:Int)) f0 e3 e5 s5 e8 d2 g1 e6 e0 s6 v7 v8 v9 c1)/\∀g a q e v a7 a5 a1 s7 a0 a4 a9 a6 a3 s8 a8 a2 j l,I1 g a q e v a7 a5 a1 s7 a0 a4 a9 a6 a3 s8 a8 a2 j l->(BId (g<v) (((0<=g/\g<(lenZ 13 e:Int))/\Aj ((Ai l [] (.t (ixT 13 e g.toNat)) 0 13).map TV.agg) (fun (x3:TV)=>Bj [.int .i64,.bool,.bool,.str,.int .i64,.int .i64,.int .i64,.int .i64,.int .i64,.str,.tv,.tv,.tv] x3 (fun (e9:Int) (f3 g3:Bool) (s9:B8) (f7 f6 f1 f4 e4:Int) (f9:B8) (e1 g2 d7:TV)=>need (List.all (cV e9 f3 g3 s9 f7 f6 f1 f4 e4 f9 e1 g2 d7) Au) (CallT PR CC [(.agg (cV e9 f3 g3 s9 f7 f6 f1 f4 e4 f9 e1 g2 d7)),(.int .i64 (i64.wrap (a+(1:Int)))),q] [.one (.int .i64)] l (fun (f5:Int) x=>BId (f5≠0) (K f5 x) ((I1 ((i64.wrap (g+(1:Int)))) a q e v a7 a5 a1 s7 a0 a4 a9 a6 a3 s8 a8 a2 j x/\M1 ((i64.wrap (g+(1:Int)))) a q e v a7 a5 a1 s7 a0 a4 a9 a6 a3 s8 a8 a2 j x<M1 g a q e v a7 a5 a1 s7 a0 a4 a9 a6 a3 s8 a8 a2 j l)))))))) (need (isSl j) (∃(I2:Int->Int->TV->TV->Int->St->Prop) (M2:Int->Int->TV->TV->Int->St->Nat),(I2 0 a q j ((lenS j:Int)) l)/\∀i c u d s k,I2 i c u d s k->(BId (i<s) (((0<=i/\i<(lenZ 14 d:Int))/\Aj ((Ai k [] (.t (ixT 14 d i.toNat)) 0 14).map TV.agg) (fun (x4:TV)=>Bj [.str,.int .i64,.bool,.bool,.str,.int .i64,.int .i64,.int .i64,.int .i64,.int .i64,.str,.tv,.tv,.tv] x4 (fun (g8:B8) (c7:Int) (g6 e2:Bool) (d6:B8) (d4 d9 f2 d5 g0:Int) (d0:B8) (c8 d8 d3:TV)=>need (List.all [.str g8,.int .i64 c7,.bool g6,.bool e2,.str d6,.int .i64 d4,.int .i64 d9,.int .i64 f2,.int .i64 d5,.int .i64 g0,.str d0,c8,d8,d3] Au) (CallT PR CC [(.agg (cV c7 g6 e2 d6 d4 d9 f2 d5 g0 d0 c8 d8 d3)),(.int .i64 (i64.wrap (c+(1:Int)))),u] [.one (.int .i64)] k (fun (d1:Int) y=>BId (d1≠0) (K d1 y) ((I2 ((i64.wrap (i+(1:Int)))) c u d s y/\M2 ((i64.wrap (i+(1:Int)))) c u d s y<M2 i c u d s k)))))))) (K 0 k))))))))))))):CallT PR CC [(.agg (cV v_0 e d v_3 v_4 v_5 v_6 v_7 v_8 v_9 v_10 v_11 v_12)),.int .i64 depth,(.box n 0)] [.one (.int .i64)] st K:=
 Af (cfg:=⟨[3,9,12],[],[]⟩) (h:=(.seq .none (.seq .none (.cut ⟨[(1,.int .i64),(2,.tv)],[(3,0,0)],[(0,13)],[(0,0,.int .i64),(0,1,.bool),(0,2,.bool),(0,3,.str),(0,4,.int .i64),(0,5,.int .i64),(0,6,.int .i64),(0,7,.int .i64),(0,8,.int .i64),(0,9,.str),(0,10,.tv),(0,11,.tv),(0,12,.tv)]⟩ (.block (.seq .none (.cond .none (.seq .none (.cond .none (.cut ⟨[(27,.bool),(1,.int .i64),(2,.tv)],[(3,0,0)],[(0,13)],[(0,0,.int .i64),(0,1,.bool),(0,2,.bool),(0,3,.str),(0,4,.int .i64),(0,5,.int .i64),(0,6,.int .i64),(0,7,.int .i64),(0,8,.int .i64),(0,9,.str),(0,10,.tv),(0,11,.tv),(0,12,.tv)]⟩ .none (.cond .none (.cut ⟨[(40,.bool),(1,.int .i64),(2,.tv)],[(3,0,0)],[(0,13)],[(0,0,.int .i64),(0,1,.bool),(0,2,.bool),(0,3,.str),(0,4,.int .i64),(0,5,.int .i64),(0,6,.int .i64),(0,7,.int .i64),(0,8,.int .i64),(0,9,.str),(0,10,.tv),(0,11,.tv),(0,12,.tv)]⟩ .none .none)))))))) (.seq .none (.seq (.seq .none (.block (.loop ⟨[(91,.int .i64),(1,.int .i64),(2,.tv),(89,.tv),(90,.int .i64)],[(3,0,0)],[(0,13)],[(0,0,.int .i64),(0,1,.bool),(0,2,.bool),(0,3,.str),(0,4,.int .i64),(0,5,.int .i64),(0,6,.int .i64),(0,7,.int .i64),(0,8,.int .i64),(0,9,.str),(0,10,.tv),(0,11,.tv),(0,12,.tv)]⟩ .none))) (.seq (.seq .none (.block (.loop ⟨[(107,.int .i64),(1,.int .i64),(2,.tv),(105,.tv),(106,.int .i64)],[],[],[]⟩ .none))) .none))))))) mixed (fun _ _=>Tryz.call50 _ _) Tryz.func50 (by kernel_rfl) (by kernel_rfl) h
theorem Ny (s:B8) (st:St) (K:Bool->St->Prop) (h:CallT PR ID [.str s] [.one (.int .i64),.one (.int .i64)] st (fun (n1 n2:Int) a=>K ((decide (n2=0))) a)):CallT PR Ds [.str s] [.one .bool] st K:=
 Af (cfg:=⟨[],[],[]⟩) (h:= .none) mixed (fun _ _=>Tryz.call60 _ _) Tryz.func60 (by kernel_rfl) (by kernel_rfl) h
theorem Nz (v_0:Int) (a:Bool) (v_2:Bool) (v_3:B8) (v_4:Int) (v_5:Int) (v_6:Int) (v_7:Int) (v_8:Int) (v_9:B8) (v_10:TV) (v_11:TV) (v_12:TV) (p:TV) (st:St) (K:V13 (Int->St->Prop)) (h:need (isSl p) (∃(I1:Int->TV->Int->V13 (V13 (St->Prop))) (M1:Int->TV->Int->V13 (V13 (St->Nat))),(I1 0 p ((lenS p:Int)) v_0 a v_2 v_3 v_4 v_5 v_6 v_7 v_8 v_9 v_10 v_11 v_12 0 false false [] 0 0 0 0 0 [] .nilSlice .nilSlice .nilSlice st)/\∀b a c n1 b1 b2 s1 n2 n3 n4 n5 n6 s2 v1 v2 v3 n7 b3 b4 s3 n8 n9 i g f s4 v4 v5 v6 j,I1 b a c n1 b1 b2 s1 n2 n3 n4 n5 n6 s2 v1 v2 v3 n7 b3 b4 s3 n8 n9 i g f s4 v4 v5 v6 j->(BId (b<c) (((0<=b/\b<(lenZ 3 a:Int))/\Aj ((Ai j [] (.t (ixT 3 a b.toNat)) 0 3).map TV.agg) (fun (x1:TV)=>Bj [.bool,.str,.int .i64] x1 (fun (b5:Bool) (s5:B8) (a2:Int)=>CallT PR E8 [(.agg (cV n1 b1 b2 s1 n2 n3 n4 n5 n6 s2 v1 v2 v3)),(.agg [.bool b5,.str s5,.int .i64 a2])] [.one (.int .i64),.one (.int .i64)] j (fun (e a1:Int) d=>BId (a1≠0) (K 0 false false [] 0 0 0 0 0 [] .nilSlice .nilSlice .nilSlice a1 d) (BIf b5 (((0<=e/\e<(lenZ 13 v2:Int))/\Aj ((Ai d [] (.t (ixT 13 v2 e.toNat)) 0 13).map TV.agg) (fun (x2:TV)=>Bj [.int .i64,.bool,.bool,.str,.int .i64,.int .i64,.int .i64,.int .i64,.int .i64,.str,.tv,.tv,.tv] x2 (fun (k:Int) (b6 b7:Bool) (s6:B8) (v x a0 r n:Int) (s7:B8) (v7 v8 v9:TV)=>need (List.all (cV k b6 b7 s6 v x a0 r n s7 v7 v8 v9) Au) ((I1 ((i64.wrap (b+(1:Int)))) a c k b6 b7 s6 v x a0 r n s7 v7 v8 v9 n7 b3 b4 s3 n8 n9 i g f s4 v4 v5 v6 d/\M1 ((i64.wrap (b+(1:Int)))) a c k b6 b7 s6 v x a0 r n s7 v7 v8 v9 n7 b3 b4 s3 n8 n9 i g f s4 v4 v5 v6 d<M1 b a c n1 b1 b2 s1 n2 n3 n4 n5 n6 s2 v1 v2 v3 n7 b3 b4 s3 n8 n9 i g f s4 v4 v5 v6 j)))))) (((0<=e/\e<(lenZ 14 v3:Int))/\need (isPtr (ixT 14 v3 e.toNat)) (Aj ((Ai d [] (.t (Az (ixT 14 v3 e.toNat) 1)) 0 13).map TV.agg) (fun (x3:TV)=>Bj [.int .i64,.bool,.bool,.str,.int .i64,.int .i64,.int .i64,.int .i64,.int .i64,.str,.tv,.tv,.tv] x3 (fun (z:Int) (b8 b9:Bool) (s8:B8) (y w u q o:Int) (s9:B8) (s m l:TV)=>need (List.all (cV z b8 b9 s8 y w u q o s9 s m l) Au) ((I1 ((i64.wrap (b+(1:Int)))) a c z b8 b9 s8 y w u q o s9 s m l n7 b3 b4 s3 n8 n9 i g f s4 v4 v5 v6 d/\M1 ((i64.wrap (b+(1:Int)))) a c z b8 b9 s8 y w u q o s9 s m l n7 b3 b4 s3 n8 n9 i g f s4 v4 v5 v6 d<M1 b a c n1 b1 b2 s1 n2 n3 n4 n5 n6 s2 v1 v2 v3 n7 b3 b4 s3 n8 n9 i g f s4 v4 v5 v6 j))))))))))))) (need (List.all (cV n1 b1 b2 s1 n2 n3 n4 n5 n6 s2 v1 v2 v3) Au) (K n1 b1 b2 s1 n2 n3 n4 n5 n6 s2 v1 v2 v3 0 j))))):CallT PR GP [(.agg (cV v_0 a v_2 v_3 v_4 v_5 v_6 v_7 v_8 v_9 v_10 v_11 v_12)),p] [sV,.one (.int .i64)] st K:=
 Af (cfg:=⟨[2,4,7],[],[]⟩) (h:=(.seq .none (.seq (.seq .none (.block (.loop ⟨[(12,.int .i64),(10,.tv),(11,.int .i64)],[(2,0,0),(4,1,0)],[(0,13),(1,13)],[(0,0,.int .i64),(0,1,.bool),(0,2,.bool),(0,3,.str),(0,4,.int .i64),(0,5,.int .i64),(0,6,.int .i64),(0,7,.int .i64),(0,8,.int .i64),(0,9,.str),(0,10,.tv),(0,11,.tv),(0,12,.tv),(1,0,.int .i64),(1,1,.bool),(1,2,.bool),(1,3,.str),(1,4,.int .i64),(1,5,.int .i64),(1,6,.int .i64),(1,7,.int .i64),(1,8,.int .i64),(1,9,.str),(1,10,.tv),(1,11,.tv),(1,12,.tv)]⟩ .none))) .none))) mixed (fun _ _=>Tryz.call61 _ _) Tryz.func61 (by kernel_rfl) (by kernel_rfl) h
theorem G3 (s:B8) (st:St) (K:Bool->St->Prop) (h:CallT PR BG [.str s] [.one .tv,.one .bool] st (fun (v1:TV) (b1:Bool) a=>K b1 a)):CallT PR BJ [.str s] [.one .bool] st K:=
 Af (cfg:=⟨[],[],[]⟩) (h:= .none) mixed (fun _ _=>Tryz.call62 _ _) Tryz.func62 (by kernel_rfl) (by kernel_rfl) h
theorem Ei (s:TV) (sq:TV) (st:St) (K:Bool->St->Prop) (h:need (isSl s) (need (isSl sq) (BId ((lenS s:Int)≠(lenS sq:Int)) (K false st) (need (isSl s) (∃(I1:Int->TV->TV->Int->St->Prop) (M1:Int->TV->TV->Int->St->Nat),(I1 0 s sq ((lenS s:Int)) st)/\∀a d c e b,I1 a d c e b->(BId (a<e) (((0<=a/\a<(lenZ 1 d:Int))/\Aj (Ac b [] (.t (ixT 1 d a.toNat)) 0) (fun (x1:TV)=>AQ (.int .u8) x1 (fun (n1:Int)=>((0<=a/\a<(lenZ 1 c:Int))/\Aj (Ac b [] (.t (ixT 1 c a.toNat)) 0) (fun (x2:TV)=>AQ (.int .u8) x2 (fun (n2:Int)=>BId (n1≠n2) (K false b) ((I1 ((i64.wrap (a+(1:Int)))) d c e b/\M1 ((i64.wrap (a+(1:Int)))) d c e b<M1 a d c e b))))))))) (K true b))))))):CallT PR Bt [s,sq] [.one .bool] st K:=
 Af (cfg:=⟨[],[],[]⟩) (h:=(.seq .none (.seq .none (.seq (.seq .none (.block (.loop ⟨[(13,.int .i64),(0,.tv),(1,.tv),(12,.int .i64)],[],[],[]⟩ .none))) .none)))) mixed (fun _ _=>Tryz.call64 _ _) Tryz.func64 (by kernel_rfl) (by kernel_rfl) h
theorem Kq (v_0:Int) (v_1:Bool) (v_2:Bool) (v_3:B8) (v_4:Int) (v_5:Int) (v_6:Int) (v_7:Int) (v_8:Int) (v_9:B8) (v_10:TV) (v_11:TV) (v_12:TV) (st:St) (K:TV->St->Prop) (h:CallT PR Bq [v_12] [.one .tv] st (fun (v1:TV) a=>CallT PR AA [v1,(.func Cq [])] [] a (fun (b:St)=>K v1 b))):CallT PR Cc [(.agg (cV v_0 v_1 v_2 v_3 v_4 v_5 v_6 v_7 v_8 v_9 v_10 v_11 v_12))] [.one .tv] st K:=
 Af (cfg:=⟨[1],[],[]⟩) (h:= .none) mixed (fun _ _=>Tryz.call65 _ _) Tryz.func65 (by kernel_rfl) (by kernel_rfl) h
theorem Ks (x_0:Int) (x_1:Bool) (x_2:Bool) (x_3:B8) (x_4:Int) (x_5:Int) (x_6:Int) (x_7:Int) (x_8:Int) (x_9:B8) (x_10:TV) (x_11:TV) (x_12:TV) (y_0:Int) (y_1:Bool) (y_2:Bool) (y_3:B8) (y_4:Int) (y_5:Int) (y_6:Int) (y_7:Int) (y_8:Int) (y_9:B8) (y_10:TV) (y_11:TV) (y_12:TV) (free0:TV) (free1:TV) (st:St) (K:Bool->St->Prop) (h:Aj (Ac st [] (.t free0) 0) (fun (x1:TV)=>AQ .bool x1 (fun (b1:Bool)=>Aj (Ac st [] (.t free1) 0) (fun (x2:TV)=>AQ (.int .i64) x2 (fun (n1:Int)=>CallT PR DY [(.agg (cV x_0 x_1 x_2 x_3 x_4 x_5 x_6 x_7 x_8 x_9 x_10 x_11 x_12)),(.agg (cV y_0 y_1 y_2 y_3 y_4 y_5 y_6 y_7 y_8 y_9 y_10 y_11 y_12)),.bool b1,(.int .i64 (i64.wrap (n1-(1:Int))))] [.one .bool] st (fun (b2:Bool) a=>K b2 a)))))):CallT PR BP [(.agg (cV x_0 x_1 x_2 x_3 x_4 x_5 x_6 x_7 x_8 x_9 x_10 x_11 x_12)),(.agg (cV y_0 y_1 y_2 y_3 y_4 y_5 y_6 y_7 y_8 y_9 y_10 y_11 y_12)),free0,free1] [.one .bool] st K:=
 Af (cfg:=⟨[4,5],[],[]⟩) (h:= .none) mixed (fun _ _=>Tryz.call66 _ _) Tryz.func66 (by kernel_rfl) (by kernel_rfl) h
theorem Bc (s:TV) (sq:TV) (eq:TV) (st:St) (K:Bool->St->Prop) (h:need (isSl s) (need (isSl sq) (BId ((lenS s:Int)≠(lenS sq:Int)) (K false st) (need (isSl s) (∃(I1:Int->TV->TV->TV->Int->St->Prop) (M1:Int->TV->TV->TV->Int->St->Nat),(I1 0 sq eq s ((lenS s:Int)) st)/\∀a d b e f c,I1 a d b e f c->(BId (a<f) (((0<=a/\a<(lenZ 13 e:Int))/\Aj ((Ai c [] (.t (ixT 13 e a.toNat)) 0 13).map TV.agg) (fun (x1:TV)=>Bj [.int .i64,.bool,.bool,.str,.int .i64,.int .i64,.int .i64,.int .i64,.int .i64,.str,.tv,.tv,.tv] x1 (fun (n1:Int) (b1 b2:Bool) (s1:B8) (n2 n3 n4 n5 n6:Int) (s2:B8) (v1 v2 v3:TV)=>need (List.all (cV n1 b1 b2 s1 n2 n3 n4 n5 n6 s2 v1 v2 v3) Au) (((0<=a/\a<(lenZ 13 d:Int))/\Aj ((Ai c [] (.t (ixT 13 d a.toNat)) 0 13).map TV.agg) (fun (x2:TV)=>Bj [.int .i64,.bool,.bool,.str,.int .i64,.int .i64,.int .i64,.int .i64,.int .i64,.str,.tv,.tv,.tv] x2 (fun (n7:Int) (b3 b4:Bool) (s3:B8) (n8 n9 j k i:Int) (s4:B8) (v4 v5 v6:TV)=>need (List.all (cV n7 b3 b4 s3 n8 n9 j k i s4 v4 v5 v6) Au) (Fi PR b [(.agg (cV n1 b1 b2 s1 n2 n3 n4 n5 n6 s2 v1 v2 v3)),(.agg (cV n7 b3 b4 s3 n8 n9 j k i s4 v4 v5 v6))] [.one .bool] c (fun (b5:Bool) g=>BIf (!b5) (K false g) ((I1 ((i64.wrap (a+(1:Int)))) d b e f g/\M1 ((i64.wrap (a+(1:Int)))) d b e f g<M1 a d b e f c)))))))))))) (K true c))))))):CallT PR Aq [s,sq,eq] [.one .bool] st K:=
 Af (cfg:=⟨[8,9],[],[]⟩) (h:=(.seq .none (.seq .none (.seq (.seq .none (.block (.loop ⟨[(17,.int .i64),(1,.tv),(2,.tv),(15,.tv),(16,.int .i64)],[],[],[]⟩ .none))) .none)))) mixed (fun _ _=>Tryz.call67 _ _) Tryz.func67 (by kernel_rfl) (by kernel_rfl) h
theorem Bd (s:TV) (sq:TV) (eq:TV) (st:St) (K:Bool->St->Prop) (h:need (isSl s) (need (isSl sq) (BId ((lenS s:Int)≠(lenS sq:Int)) (K false st) (need (isSl s) (∃(I1:Int->TV->TV->TV->Int->St->Prop) (M1:Int->TV->TV->TV->Int->St->Nat),(I1 0 sq eq s ((lenS s:Int)) st)/\∀a d b e f c,I1 a d b e f c->(BId (a<f) (((0<=a/\a<(lenZ 14 e:Int))/\Aj ((Ai c [] (.t (ixT 14 e a.toNat)) 0 14).map TV.agg) (fun (x1:TV)=>Bj [.str,.int .i64,.bool,.bool,.str,.int .i64,.int .i64,.int .i64,.int .i64,.int .i64,.str,.tv,.tv,.tv] x1 (fun (s1:B8) (n1:Int) (b1 b2:Bool) (s2:B8) (n2 n3 n4 n5 n6:Int) (s3:B8) (v1 v2 v3:TV)=>need (List.all [.str s1,.int .i64 n1,.bool b1,.bool b2,.str s2,.int .i64 n2,.int .i64 n3,.int .i64 n4,.int .i64 n5,.int .i64 n6,.str s3,v1,v2,v3] Au) (((0<=a/\a<(lenZ 14 d:Int))/\Aj ((Ai c [] (.t (ixT 14 d a.toNat)) 0 14).map TV.agg) (fun (x2:TV)=>Bj [.str,.int .i64,.bool,.bool,.str,.int .i64,.int .i64,.int .i64,.int .i64,.int .i64,.str,.tv,.tv,.tv] x2 (fun (s4:B8) (n7:Int) (b3 b4:Bool) (s5:B8) (n8 n9 j k i:Int) (s6:B8) (v4 v5 v6:TV)=>need (List.all [.str s4,.int .i64 n7,.bool b3,.bool b4,.str s5,.int .i64 n8,.int .i64 n9,.int .i64 j,.int .i64 k,.int .i64 i,.str s6,v4,v5,v6] Au) (Fi PR b [(.agg [.str s1,.int .i64 n1,.bool b1,.bool b2,.str s2,.int .i64 n2,.int .i64 n3,.int .i64 n4,.int .i64 n5,.int .i64 n6,.str s3,v1,v2,v3]),(.agg [.str s4,.int .i64 n7,.bool b3,.bool b4,.str s5,.int .i64 n8,.int .i64 n9,.int .i64 j,.int .i64 k,.int .i64 i,.str s6,v4,v5,v6])] [.one .bool] c (fun (b5:Bool) g=>BIf (!b5) (K false g) ((I1 ((i64.wrap (a+(1:Int)))) d b e f g/\M1 ((i64.wrap (a+(1:Int)))) d b e f g<M1 a d b e f c)))))))))))) (K true c))))))):CallT PR Ar [s,sq,eq] [.one .bool] st K:=
 Af (cfg:=⟨[8,9],[],[]⟩) (h:=(.seq .none (.seq .none (.seq (.seq .none (.block (.loop ⟨[(17,.int .i64),(1,.tv),(2,.tv),(15,.tv),(16,.int .i64)],[],[],[]⟩ .none))) .none)))) mixed (fun _ _=>Tryz.call68 _ _) Tryz.func68 (by kernel_rfl) (by kernel_rfl) h
theorem Kr (x_0:B8) (x_1:Int) (x_2:Bool) (x_3:Bool) (x_4:B8) (x_5:Int) (x_6:Int) (x_7:Int) (x_8:Int) (x_9:Int) (x_10:B8) (x_11:TV) (x_12:TV) (x_13:TV) (y_0:B8) (y_1:Int) (y_2:Bool) (y_3:Bool) (y_4:B8) (y_5:Int) (y_6:Int) (y_7:Int) (y_8:Int) (y_9:Int) (y_10:B8) (y_11:TV) (y_12:TV) (y_13:TV) (free0:TV) (st:St) (K:Bool->St->Prop) (h:BId (x_0=y_0) (Aj (Ac st [] (.t free0) 0) (fun (v1:TV)=>Fi PR v1 [(.agg (cV x_1 x_2 x_3 x_4 x_5 x_6 x_7 x_8 x_9 x_10 x_11 x_12 x_13)),(.agg (cV y_1 y_2 y_3 y_4 y_5 y_6 y_7 y_8 y_9 y_10 y_11 y_12 y_13))] [.one .bool] st (fun (b1:Bool) a=>K b1 a))) (K false st)):CallT PR De [(.agg [.str x_0,.int .i64 x_1,.bool x_2,.bool x_3,.str x_4,.int .i64 x_5,.int .i64 x_6,.int .i64 x_7,.int .i64 x_8,.int .i64 x_9,.str x_10,x_11,x_12,x_13]),(.agg [.str y_0,.int .i64 y_1,.bool y_2,.bool y_3,.str y_4,.int .i64 y_5,.int .i64 y_6,.int .i64 y_7,.int .i64 y_8,.int .i64 y_9,.str y_10,y_11,y_12,y_13]),free0] [.one .bool] st K:=
 Af (cfg:=⟨[3,4],[],[]⟩) (h:= .none) mixed (fun _ _=>Tryz.call69 _ _) Tryz.func69 (by kernel_rfl) (by kernel_rfl) h
theorem FF (b:Nat) (depth:Int) (st:St) (K:TV->St->Prop) (h:need (List.all [(.map st.nb)] Au) (Aj (Ac ((st.push (.map []) none).push (.cells [.nilSlice,(.map st.nb),.int .i64 depth]) (some 89)) [] (.t (.box b 2)) 0) (fun (v1:TV)=>puK v1 (.box (st.push (.map []) none).nb 0) (.bool true) ((st.push (.map []) none).push (.cells [.nilSlice,(.map st.nb),.int .i64 depth]) (some 89)) (fun a=>Aj (Ac a [] (.t (.box b 3)) 0) (fun (x2:TV)=>AQ (.int .i64) x2 (fun (n1:Int)=>stB a (.box b 3) [(.int .i64 (i64.wrap (n1+(1:Int))))] (fun c=>K ((.box (st.push (.map []) none).nb 0)) c))))))):CallT PR Ay [(.box b 0),.int .i64 depth] [.one .tv] st K:=
 Af (cfg:=⟨[],[],[]⟩) (h:= .none) mixed (fun _ _=>Tryz.call70 _ _) Tryz.func70 (by kernel_rfl) (by kernel_rfl) h
theorem IN (a_0:Bool) (a_1:Bool) (a_2:TV) (a_3:Int) (a_4:Bool) (a_5:Bool) (a_6:B8) (a_7:Int) (a_8:Int) (a_9:Int) (a_10:Int) (a_11:Int) (a_12:B8) (a_13:TV) (a_14:TV) (a_15:TV) (st:St) (K:Bool->St->Prop) (h:need (isSl a_2) (BId ((0:Int)<(lenS a_2:Int)) (BIf a_0 (BIf (!a_0) (K true st) (CallT PR Ce [(.agg (cV a_3 a_4 a_5 a_6 a_7 a_8 a_9 a_10 a_11 a_12 a_13 a_14 a_15))] [.one .bool] st (fun (b1:Bool) a=>K b1 a))) (BIf (!a_1) (BIf (!a_0) (K true st) (CallT PR Ce [(.agg (cV a_3 a_4 a_5 a_6 a_7 a_8 a_9 a_10 a_11 a_12 a_13 a_14 a_15))] [.one .bool] st (fun (b2:Bool) b=>K b2 b))) (K false st))) (K false st))):CallT PR Cr [(.agg [.bool a_0,.bool a_1,a_2,.int .i64 a_3,.bool a_4,.bool a_5,.str a_6,.int .i64 a_7,.int .i64 a_8,.int .i64 a_9,.int .i64 a_10,.int .i64 a_11,.str a_12,a_13,a_14,a_15])] [.one .bool] st K:=
 Af (cfg:=⟨[1],[],[]⟩) (h:= .none) mixed (fun _ _=>Tryz.call71 _ _) Tryz.func71 (by kernel_rfl) (by kernel_rfl) h
theorem FG (b:Nat) (t:Nat) (a_0:Bool) (a_1:Bool) (a_2:TV) (a_3:Int) (a_4:Bool) (a_5:Bool) (a_6:B8) (a_7:Int) (a_8:Int) (a_9:Int) (a_10:Int) (a_11:Int) (a_12:B8) (a_13:TV) (a_14:TV) (a_15:TV) (st:St) (K:TV->Bool->St->Prop) (h:need (isSl a_2) (((isLst 1 a_2=true/\0<=(i64.wrap ((lenS a_2:Int)-(1:Int)))/\(i64.wrap ((lenS a_2:Int)-(1:Int)))<=(lenS a_2:Int))/\need (isSl (slT 1 .non a_2 0 (Int.toNat (i64.wrap ((lenS a_2:Int)-(1:Int)))))) (∃(I1:TV->Int->TV->TV->Int->Bool->Bool->TV->V13 (St->Prop)) (M1:TV->Int->TV->TV->Int->Bool->Bool->TV->V13 (St->Nat)),(I1 ((.box t 0)) 0 ((.box b 0)) ((slT 1 .non a_2 0 (Int.toNat (i64.wrap ((lenS a_2:Int)-(1:Int)))))) ((lenS (slT 1 .non a_2 0 (Int.toNat (i64.wrap ((lenS a_2:Int)-(1:Int))))):Int)) a_0 a_1 a_2 a_3 a_4 a_5 a_6 a_7 a_8 a_9 a_10 a_11 a_12 a_13 a_14 a_15 st)/\∀d c g e f b1 b2 v1 n1 b3 b4 s1 n2 n3 n4 n5 n6 s2 v2 v3 v4 a,I1 d c g e f b1 b2 v1 n1 b3 b4 s1 n2 n3 n4 n5 n6 s2 v2 v3 v4 a->(BId (c<f) (((0<=c/\c<(lenZ 1 e:Int))/\Aj (Ac a [] (.t (ixT 1 e c.toNat)) 0) (fun (x1:TV)=>AQ .str x1 (fun (s3:B8)=>need (isPtr d) (need (isPtr d) (Aj (Ac a [] (.t (Az d 1)) 0) (fun (v5:TV)=>Aj (D6 a v5) (fun (es1:List (B8×TV))=>need (E4 (As .nilPtr (Av s3 es1))) (BIf (BE (As .nilPtr (Av s3 es1))) (need (isPtr d) (need (isPtr d) (Aj (Ac a [] (.t (Az d 2)) 0) (fun (x3:TV)=>AQ (.int .i64) x3 (fun (n7:Int)=>CallT PR Ay [g,(.int .i64 (i64.wrap (n7+(1:Int))))] [.one .tv] a (fun (v6:TV) j=>need (List.all [v6] Au) (CallT PR AO [d,.str s3,(.box j.nb 0)] [] (j.push (.cells [v6,.nilSlice,.int .i64 0,.bool false,.bool false,(.str []),.int .i64 0,.int .i64 0,.int .i64 0,.int .i64 0,.int .i64 0,(.str []),.nilSlice,.nilSlice,.nilSlice,.int .i64 0]) (some 92)) (fun (m:St)=>(I1 v6 ((i64.wrap (c+(1:Int)))) g e f b1 b2 v1 n1 b3 b4 s1 n2 n3 n4 n5 n6 s2 v2 v3 v4 m/\M1 v6 ((i64.wrap (c+(1:Int)))) g e f b1 b2 v1 n1 b3 b4 s1 n2 n3 n4 n5 n6 s2 v2 v3 v4 m<M1 d c g e f b1 b2 v1 n1 b3 b4 s1 n2 n3 n4 n5 n6 s2 v2 v3 v4 a))))))))) (need (isPtr (As .nilPtr (Av s3 es1))) (need (isPtr (As .nilPtr (Av s3 es1))) (Aj (Ac a [] (.t (Az (As .nilPtr (Av s3 es1)) 0)) 0) (fun (v7:TV)=>need (E4 v7) (BIf (!BE v7) (need (isPtr (As .nilPtr (Av s3 es1))) (need (isPtr (As .nilPtr (Av s3 es1))) (Aj (Ac a [] (.t (Az (As .nilPtr (Av s3 es1)) 0)) 0) (fun (v8:TV)=>(I1 v8 ((i64.wrap (c+(1:Int)))) g e f b1 b2 v1 n1 b3 b4 s1 n2 n3 n4 n5 n6 s2 v2 v3 v4 a/\M1 v8 ((i64.wrap (c+(1:Int)))) g e f b1 b2 v1 n1 b3 b4 s1 n2 n3 n4 n5 n6 s2 v2 v3 v4 a<M1 d c g e f b1 b2 v1 n1 b3 b4 s1 n2 n3 n4 n5 n6 s2 v2 v3 v4 a))))) (need (isPtr (As .nilPtr (Av s3 es1))) (need (isPtr (As .nilPtr (Av s3 es1))) (Aj (Ac a [] (.t (Az (As .nilPtr (Av s3 es1)) 1)) 0) (fun (v9:TV)=>need (isSl v9) (BId ((0:Int)<(lenS v9:Int)) (BIf b1 (need (isPtr (As .nilPtr (Av s3 es1))) (need (isPtr (As .nilPtr (Av s3 es1))) (Aj (Ac a [] (.t (Az (As .nilPtr (Av s3 es1)) 1)) 0) (fun (l:TV)=>need (isPtr (As .nilPtr (Av s3 es1))) (need (isPtr (As .nilPtr (Av s3 es1))) (Aj (Ac a [] (.t (Az (As .nilPtr (Av s3 es1)) 1)) 0) (fun (i:TV)=>need (isSl i) (((0<=(i64.wrap ((lenS i:Int)-(1:Int)))/\(i64.wrap ((lenS i:Int)-(1:Int)))<(lenZ 1 l:Int))/\Aj (Ac a [] (.t (ixT 1 l (Int.toNat (i64.wrap ((lenS i:Int)-(1:Int)))))) 0) (fun (k:TV)=>(I1 k ((i64.wrap (c+(1:Int)))) g e f b1 b2 v1 n1 b3 b4 s1 n2 n3 n4 n5 n6 s2 v2 v3 v4 a/\M1 k ((i64.wrap (c+(1:Int)))) g e f b1 b2 v1 n1 b3 b4 s1 n2 n3 n4 n5 n6 s2 v2 v3 v4 a<M1 d c g e f b1 b2 v1 n1 b3 b4 s1 n2 n3 n4 n5 n6 s2 v2 v3 v4 a))))))))))) (K .nilPtr false a)) (K .nilPtr false a)))))))))))))))))))) (K d true a)))))):CallT PR BX [(.box b 0),(.box t 0),(.agg [.bool a_0,.bool a_1,a_2,.int .i64 a_3,.bool a_4,.bool a_5,.str a_6,.int .i64 a_7,.int .i64 a_8,.int .i64 a_9,.int .i64 a_10,.int .i64 a_11,.str a_12,a_13,a_14,a_15])] [.one .tv,.one .bool] st K:=
 Af (cfg:=⟨[5],[],[]⟩) (h:=(.seq .none (.seq (.seq .none (.block (.loop ⟨[(1,.tv),(20,.int .i64),(0,.tv),(18,.tv),(19,.int .i64)],[(5,0,0)],[(0,16)],[(0,0,.bool),(0,1,.bool),(0,2,.tv),(0,3,.int .i64),(0,4,.bool),(0,5,.bool),(0,6,.str),(0,7,.int .i64),(0,8,.int .i64),(0,9,.int .i64),(0,10,.int .i64),(0,11,.int .i64),(0,12,.str),(0,13,.tv),(0,14,.tv),(0,15,.tv)]⟩ .none))) .none))) mixed (fun _ _=>Tryz.call72 _ _) Tryz.func72 (by kernel_rfl) (by kernel_rfl) h
theorem ER (b:Nat) (t:Nat) (key:B8) (st:St) (K:Int->St->Prop) (h:Aj (Ac st [] (.t (.box t 1)) 0) (fun (v1:TV)=>Aj (D6 st v1) (fun (es1:List (B8×TV))=>need (E4 (As .nilPtr (Av key es1))) (BIf (BE (As .nilPtr (Av key es1))) (CallT PR AO [(.box t 0),.str key,(.box st.nb 0)] [] (st.push (.cells [.nilPtr,.nilSlice,.int .i64 0,.bool false,.bool false,(.str []),.int .i64 0,.int .i64 0,.int .i64 0,.int .i64 0,.int .i64 0,(.str []),.nilSlice,.nilSlice,.nilSlice,.int .i64 0]) (some 92)) (fun (e:St)=>Aj (Ac e [] (.t (.box b 3)) 0) (fun (x2:TV)=>AQ (.int .i64) x2 (fun (n1:Int)=>stB e (.box b 3) [(.int .i64 (i64.wrap (n1+(1:Int))))] (fun d=>Aj (Ac d [] (.t (.box t 2)) 0) (fun (x3:TV)=>AQ (.int .i64) x3 (fun (n2:Int)=>CallT PR Ay [(.box b 0),(.int .i64 (i64.wrap (n2+(2:Int))))] [.one .tv] d (fun (v2:TV) m=>need (List.all [v2] Au) (stB m (.box b 1) [v2] (fun a=>Aj (Ac a [] (.t (.box st.nb 1)) 0) (fun (v3:TV)=>Aj (Ac a [] (.t (.box b 1)) 0) (fun (v4:TV)=>need (List.all [v4] Au) (need (List.all [v4] Au) (CV 71 1 8 v3 1 [v4] a (fun (v5:TV) l=>need (List.all [v5] Au) (stB l (.box st.nb 1) [v5] (fun k=>K 0 k))))))))))))))))) (need (isPtr (As .nilPtr (Av key es1))) (need (isPtr (As .nilPtr (Av key es1))) (Aj (Ac st [] (.t (Az (As .nilPtr (Av key es1)) 1)) 0) (fun (v6:TV)=>need (isSl v6) (BId ((lenS v6:Int)=(0:Int)) (K 6 st) (Aj (Ac st [] (.t (.box t 2)) 0) (fun (x7:TV)=>AQ (.int .i64) x7 (fun (n3:Int)=>CallT PR Ay [(.box b 0),(.int .i64 (i64.wrap (n3+(2:Int))))] [.one .tv] st (fun (v7:TV) i=>need (List.all [v7] Au) (stB i (.box b 1) [v7] (fun c=>need (isPtr (As .nilPtr (Av key es1))) (need (isPtr (As .nilPtr (Av key es1))) (Aj (Ac c [] (.t (Az (As .nilPtr (Av key es1)) 1)) 0) (fun (v8:TV)=>Aj (Ac c [] (.t (.box b 1)) 0) (fun (v9:TV)=>need (List.all [v9] Au) (need (List.all [v9] Au) (CV 71 1 8 v8 1 [v9] c (fun (f:TV) j=>need (isPtr (As .nilPtr (Av key es1))) (need (isPtr (As .nilPtr (Av key es1))) (need (List.all [f] Au) (stB j (Az (As .nilPtr (Av key es1)) 1) [f] (fun g=>K 0 g)))))))))))))))))))))))))):CallT PR BF [(.box b 0),(.box t 0),.str key] [.one (.int .i64)] st K:=
 Af (cfg:=⟨[],[],[]⟩) (h:= .none) mixed (fun _ _=>Tryz.call73 _ _) Tryz.func73 (by kernel_rfl) (by kernel_rfl) h
theorem Fl (b:Nat) (t:Nat) (key:B8) (st:St) (K:Int->St->Prop) (h:Aj (Ac st [] (.t (.box t 1)) 0) (fun (v1:TV)=>Aj (D6 st v1) (fun (es1:List (B8×TV))=>need (E4 (As .nilPtr (Av key es1))) (BIf (BE (As .nilPtr (Av key es1))) (Aj (Ac st [] (.t (.box t 2)) 0) (fun (x2:TV)=>AQ (.int .i64) x2 (fun (n1:Int)=>CallT PR Ay [(.box b 0),(.int .i64 (i64.wrap (n1+(1:Int))))] [.one .tv] st (fun (v2:TV) c=>need (List.all [v2] Au) (CallT PR AO [(.box t 0),.str key,(.box c.nb 0)] [] (c.push (.cells [v2,.nilSlice,.int .i64 0,.bool false,.bool false,(.str []),.int .i64 0,.int .i64 0,.int .i64 0,.int .i64 0,.int .i64 0,(.str []),.nilSlice,.nilSlice,.nilSlice,.int .i64 0]) (some 92)) (fun (a:St)=>Aj (Ac a [] (.t (.box c.nb 0)) 0) (fun (v3:TV)=>need (E4 v3) (BIf (BE v3) (K 8 a) (Aj (Ac a [] (.t (.box b 2)) 0) (fun (v4:TV)=>Aj (Ac a [] (.t (.box c.nb 0)) 0) (fun (v5:TV)=>Aj (plook a v4 v5 false (.bool false)) (fun (x6:TV)=>AQ .bool x6 (fun (b1:Bool)=>BIf (!b1) (K 8 a) (Aj (Ac a [] (.t (.box b 2)) 0) (fun (v6:TV)=>Aj (Ac a [] (.t (.box c.nb 0)) 0) (fun (v7:TV)=>pdK v6 v7 a (fun f=>Aj (Ac f [] (.t (.box c.nb 0)) 0) (fun (v8:TV)=>need (List.all [v8] Au) (stB f (.box b 1) [v8] (fun g=>K 0 g)))))))))))))))))))) (need (isPtr (As .nilPtr (Av key es1))) (need (isPtr (As .nilPtr (Av key es1))) (Aj (Ac st [] (.t (Az (As .nilPtr (Av key es1)) 0)) 0) (fun (v9:TV)=>need (E4 v9) (BIf (BE v9) (K 8 st) (Aj (Ac st [] (.t (.box b 2)) 0) (fun (m:TV)=>need (isPtr (As .nilPtr (Av key es1))) (need (isPtr (As .nilPtr (Av key es1))) (Aj (Ac st [] (.t (Az (As .nilPtr (Av key es1)) 0)) 0) (fun (n:TV)=>Aj (plook st m n false (.bool false)) (fun (i:TV)=>AQ .bool i (fun (b2:Bool)=>BIf (!b2) (K 8 st) (Aj (Ac st [] (.t (.box b 2)) 0) (fun (j:TV)=>need (isPtr (As .nilPtr (Av key es1))) (need (isPtr (As .nilPtr (Av key es1))) (Aj (Ac st [] (.t (Az (As .nilPtr (Av key es1)) 0)) 0) (fun (l:TV)=>pdK j l st (fun d=>need (isPtr (As .nilPtr (Av key es1))) (need (isPtr (As .nilPtr (Av key es1))) (Aj (Ac d [] (.t (Az (As .nilPtr (Av key es1)) 0)) 0) (fun (e:TV)=>need (List.all [e] Au) (stB d (.box b 1) [e] (fun k=>K 0 k))))))))))))))))))))))))))):CallT PR BL [(.box b 0),(.box t 0),.str key] [.one (.int .i64)] st K:=
 Af (cfg:=⟨[],[],[]⟩) (h:= .none) mixed (fun _ _=>Tryz.call74 _ _) Tryz.func74 (by kernel_rfl) (by kernel_rfl) h
theorem Ha (t:Nat) (key:B8) (e:Nat) (st:St) (K:St->Prop) (h:Aj (Ac st [] (.t (.box t 0)) 0) (fun (v1:TV)=>CV 9 1 16 v1 1 [.str key] st (fun (v2:TV) b=>need (List.all [v2] Au) (stB b (.box t 0) [v2] (fun a=>Aj (Ac a [] (.t (.box t 1)) 0) (fun (v3:TV)=>muK v3 key (.box e 0) a (fun c=>K c))))))):CallT PR AO [(.box t 0),.str key,(.box e 0)] [] st K:=
 Af (cfg:=⟨[],[],[]⟩) (h:= .none) mixed (fun _ _=>Tryz.call75 _ _) Tryz.func75 (by kernel_rfl) (by kernel_rfl) h
theorem Mc (v_0:Int) (v_1:Bool) (v_2:Bool) (v_3:B8) (v_4:Int) (v_5:Int) (v_6:Int) (v_7:Int) (v_8:Int) (v_9:B8) (v_10:TV) (v_11:TV) (v_12:TV) (st:St) (K:Int->St->Prop) (h:CallT PR DX [(.agg (cV v_0 v_1 v_2 v_3 v_4 v_5 v_6 v_7 v_8 v_9 v_10 v_11 v_12)),.int .i64 65536] [.one (.int .i64)] st (fun (n1:Int) a=>K n1 a)):CallT PR FP [(.agg (cV v_0 v_1 v_2 v_3 v_4 v_5 v_6 v_7 v_8 v_9 v_10 v_11 v_12))] [.one (.int .i64)] st K:=
 Af (cfg:=⟨[1],[],[]⟩) (h:= .none) mixed (fun _ _=>Tryz.call76 _ _) Tryz.func76 (by kernel_rfl) (by kernel_rfl) h
theorem KR (v_0:Int) (v_1:Bool) (v_2:Bool) (v_3:B8) (v_4:Int) (v_5:Int) (v_6:Int) (v_7:Int) (v_8:Int) (v_9:B8) (v_10:TV) (v_11:TV) (v_12:TV) (st:St) (K:Int->St->Prop) (h:CallT PR D1 [(.agg (cV v_0 v_1 v_2 v_3 v_4 v_5 v_6 v_7 v_8 v_9 v_10 v_11 v_12)),.int .i64 65536] [.one (.int .i64)] st (fun (n1:Int) a=>K n1 a)):CallT PR E6 [(.agg (cV v_0 v_1 v_2 v_3 v_4 v_5 v_6 v_7 v_8 v_9 v_10 v_11 v_12))] [.one (.int .i64)] st K:=
 Af (cfg:=⟨[1],[],[]⟩) (h:= .none) mixed (fun _ _=>Tryz.call77 _ _) Tryz.func77 (by kernel_rfl) (by kernel_rfl) h
theorem Ct (s:TV) (f:TV) (st:St) (K:Bool->St->Prop) (h:CallT PR Bw [s,f] [.one (.int .i64)] st (fun (n1:Int) a=>K ((decide ((0:Int)<=n1))) a)):CallT PR Ax [s,f] [.one .bool] st K:=
 Af (cfg:=⟨[],[],[]⟩) (h:= .none) mixed (fun _ _=>Tryz.call78 _ _) Tryz.func78 (by kernel_rfl) (by kernel_rfl) h
theorem KT (s:B8) (st:St) (K:Bool->St->Prop) (h:CallT PR Eu [.str s] [.one .bool] st (fun (b1:Bool) a=>BIf (!b1) (K true a) (K ((decide ((1024:Int)<(s.length:Int)))) a))):CallT PR Bf [.str s] [.one .bool] st K:=
 Af (cfg:=⟨[],[],[]⟩) (h:= .none) mixed (fun _ _=>Tryz.call79 _ _) Tryz.func79 (by kernel_rfl) (by kernel_rfl) h
theorem Ej (s:TV) (st:St) (K:TV->St->Prop) (h:need (isSl s) (BIf (BE s) (K .nilSlice st) (Aj (DA st 1 s) (fun (q1:Nat×List TV)=>need (List.all q1.2 Au) (HV 5 1 1 (.list 1 .full 0 []) q1.1 q1.2 st (fun (v1:TV) a=>K v1 a)))))):CallT PR Bu [s] [.one .tv] st K:=
 Af (cfg:=⟨[],[7],[]⟩) (h:= .none) mixed (fun _ _=>Tryz.call80 _ _) Tryz.func80 (by kernel_rfl) (by kernel_rfl) h
theorem KP (v_0:Int) (v_1:Bool) (v_2:Bool) (v_3:B8) (v_4:Int) (v_5:Int) (v_6:Int) (v_7:Int) (v_8:Int) (v_9:B8) (v_10:TV) (v_11:TV) (v_12:TV) (st:St) (K:Bool->St->Prop) (h:BId (v_0≠1) (BIf v_1 (K true st) (BId (v_0≠2) (BIf (!((v_2==false)&&(decide (v_3=([]:B8))&&(decide (v_4=(0:Int))&&true)))) (K true st) (BId (v_0≠3) (BIf (!(decide (v_5=(0:Int))&&(decide (v_6=(0:Int))&&(decide (v_7=(0:Int))&&(decide (v_8=(0:Int))&&true))))) (K true st) (BId (v_0≠4) (BId (v_9≠([]:B8)) (K true st) (BId (v_0≠5) (need (isSl v_10) (BId ((0:Int)<(lenS v_10:Int)) (K true st) (BId (v_0≠6) (need (isSl v_11) (BId ((0:Int)<(lenS v_11:Int)) (K true st) (BId (v_0≠7) (need (isSl v_12) (K ((decide ((0:Int)<(lenS v_12:Int)))) st)) (K false st)))) (BId (v_0≠7) (need (isSl v_12) (K ((decide ((0:Int)<(lenS v_12:Int)))) st)) (K false st))))) (BId (v_0≠6) (need (isSl v_11) (BId ((0:Int)<(lenS v_11:Int)) (K true st) (BId (v_0≠7) (need (isSl v_12) (K ((decide ((0:Int)<(lenS v_12:Int)))) st)) (K false st)))) (BId (v_0≠7) (need (isSl v_12) (K ((decide ((0:Int)<(lenS v_12:Int)))) st)) (K false st))))) (BId (v_0≠5) (need (isSl v_10) (BId ((0:Int)<(lenS v_10:Int)) (K true st) (BId (v_0≠6) (need (isSl v_11) (BId ((0:Int)<(lenS v_11:Int)) (K true st) (BId (v_0≠7) (need (isSl v_12) (K ((decide ((0:Int)<(lenS v_12:Int)))) st)) (K false st)))) (BId (v_0≠7) (need (isSl v_12) (K ((decide ((0:Int)<(lenS v_12:Int)))) st)) (K false st))))) (BId (v_0≠6) (need (isSl v_11) (BId ((0:Int)<(lenS v_11:Int)) (K true st) (BId (v_0≠7) (need (isSl v_12) (K ((decide ((0:Int)<(lenS v_12:Int)))) st)) (K false st)))) (BId (v_0≠7) (need (isSl v_12) (K ((decide ((0:Int)<(lenS v_12:Int)))) st)) (K false st)))))) (BId (v_0≠4) (BId (v_9≠([]:B8)) (K true st) (BId (v_0≠5) (need (isSl v_10) (BId ((0:Int)<(lenS v_10:Int)) (K true st) (BId (v_0≠6) (need (isSl v_11) (BId ((0:Int)<(lenS v_11:Int)) (K true st) (BId (v_0≠7) (need (isSl v_12) (K ((decide ((0:Int)<(lenS v_12:Int)))) st)) (K false st)))) (BId (v_0≠7) (need (isSl v_12) (K ((decide ((0:Int)<(lenS v_12:Int)))) st)) (K false st))))) (BId (v_0≠6) (need (isSl v_11) (BId ((0:Int)<(lenS v_11:Int)) (K true st) (BId (v_0≠7) (need (isSl v_12) (K ((decide ((0:Int)<(lenS v_12:Int)))) st)) (K false st)))) (BId (v_0≠7) (need (isSl v_12) (K ((decide ((0:Int)<(lenS v_12:Int)))) st)) (K false st))))) (BId (v_0≠5) (need (isSl v_10) (BId ((0:Int)<(lenS v_10:Int)) (K true st) (BId (v_0≠6) (need (isSl v_11) (BId ((0:Int)<(lenS v_11:Int)) (K true st) (BId (v_0≠7) (need (isSl v_12) (K ((decide ((0:Int)<(lenS v_12:Int)))) st)) (K false st)))) (BId (v_0≠7) (need (isSl v_12) (K ((decide ((0:Int)<(lenS v_12:Int)))) st)) (K false st))))) (BId (v_0≠6) (need (isSl v_11) (BId ((0:Int)<(lenS v_11:Int)) (K true st) (BId (v_0≠7) (need (isSl v_12) (K ((decide ((0:Int)<(lenS v_12:Int)))) st)) (K false st)))) (BId (v_0≠7) (need (isSl v_12) (K ((decide ((0:Int)<(lenS v_12:Int)))) st)) (K false st))))))) (BId (v_0≠3) (BIf (!(decide (v_5=(0:Int))&&(decide (v_6=(0:Int))&&(decide (v_7=(0:Int))&&(decide (v_8=(0:Int))&&true))))) (K true st) (BId (v_0≠4) (BId (v_9≠([]:B8)) (K true st) (BId (v_0≠5) (need (isSl v_10) (BId ((0:Int)<(lenS v_10:Int)) (K true st) (BId (v_0≠6) (need (isSl v_11) (BId ((0:Int)<(lenS v_11:Int)) (K true st) (BId (v_0≠7) (need (isSl v_12) (K ((decide ((0:Int)<(lenS v_12:Int)))) st)) (K false st)))) (BId (v_0≠7) (need (isSl v_12) (K ((decide ((0:Int)<(lenS v_12:Int)))) st)) (K false st))))) (BId (v_0≠6) (need (isSl v_11) (BId ((0:Int)<(lenS v_11:Int)) (K true st) (BId (v_0≠7) (need (isSl v_12) (K ((decide ((0:Int)<(lenS v_12:Int)))) st)) (K false st)))) (BId (v_0≠7) (need (isSl v_12) (K ((decide ((0:Int)<(lenS v_12:Int)))) st)) (K false st))))) (BId (v_0≠5) (need (isSl v_10) (BId ((0:Int)<(lenS v_10:Int)) (K true st) (BId (v_0≠6) (need (isSl v_11) (BId ((0:Int)<(lenS v_11:Int)) (K true st) (BId (v_0≠7) (need (isSl v_12) (K ((decide ((0:Int)<(lenS v_12:Int)))) st)) (K false st)))) (BId (v_0≠7) (need (isSl v_12) (K ((decide ((0:Int)<(lenS v_12:Int)))) st)) (K false st))))) (BId (v_0≠6) (need (isSl v_11) (BId ((0:Int)<(lenS v_11:Int)) (K true st) (BId (v_0≠7) (need (isSl v_12) (K ((decide ((0:Int)<(lenS v_12:Int)))) st)) (K false st)))) (BId (v_0≠7) (need (isSl v_12) (K ((decide ((0:Int)<(lenS v_12:Int)))) st)) (K false st)))))) (BId (v_0≠4) (BId (v_9≠([]:B8)) (K true st) (BId (v_0≠5) (need (isSl v_10) (BId ((0:Int)<(lenS v_10:Int)) (K true st) (BId (v_0≠6) (need (isSl v_11) (BId ((0:Int)<(lenS v_11:Int)) (K true st) (BId (v_0≠7) (need (isSl v_12) (K ((decide ((0:Int)<(lenS v_12:Int)))) st)) (K false st)))) (BId (v_0≠7) (need (isSl v_12) (K ((decide ((0:Int)<(lenS v_12:Int)))) st)) (K false st))))) (BId (v_0≠6) (need (isSl v_11) (BId ((0:Int)<(lenS v_11:Int)) (K true st) (BId (v_0≠7) (need (isSl v_12) (K ((decide ((0:Int)<(lenS v_12:Int)))) st)) (K false st)))) (BId (v_0≠7) (need (isSl v_12) (K ((decide ((0:Int)<(lenS v_12:Int)))) st)) (K false st))))) (BId (v_0≠5) (need (isSl v_10) (BId ((0:Int)<(lenS v_10:Int)) (K true st) (BId (v_0≠6) (need (isSl v_11) (BId ((0:Int)<(lenS v_11:Int)) (K true st) (BId (v_0≠7) (need (isSl v_12) (K ((decide ((0:Int)<(lenS v_12:Int)))) st)) (K false st)))) (BId (v_0≠7) (need (isSl v_12) (K ((decide ((0:Int)<(lenS v_12:Int)))) st)) (K false st))))) (BId (v_0≠6) (need (isSl v_11) (BId ((0:Int)<(lenS v_11:Int)) (K true st) (BId (v_0≠7) (need (isSl v_12) (K ((decide ((0:Int)<(lenS v_12:Int)))) st)) (K false st)))) (BId (v_0≠7) (need (isSl v_12) (K ((decide ((0:Int)<(lenS v_12:Int)))) st)) (K false st)))))))) (BId (v_0≠2) (BIf (!((v_2==false)&&(decide (v_3=([]:B8))&&(decide (v_4=(0:Int))&&true)))) (K true st) (BId (v_0≠3) (BIf (!(decide (v_5=(0:Int))&&(decide (v_6=(0:Int))&&(decide (v_7=(0:Int))&&(decide (v_8=(0:Int))&&true))))) (K true st) (BId (v_0≠4) (BId (v_9≠([]:B8)) (K true st) (BId (v_0≠5) (need (isSl v_10) (BId ((0:Int)<(lenS v_10:Int)) (K true st) (BId (v_0≠6) (need (isSl v_11) (BId ((0:Int)<(lenS v_11:Int)) (K true st) (BId (v_0≠7) (need (isSl v_12) (K ((decide ((0:Int)<(lenS v_12:Int)))) st)) (K false st)))) (BId (v_0≠7) (need (isSl v_12) (K ((decide ((0:Int)<(lenS v_12:Int)))) st)) (K false st))))) (BId (v_0≠6) (need (isSl v_11) (BId ((0:Int)<(lenS v_11:Int)) (K true st) (BId (v_0≠7) (need (isSl v_12) (K ((decide ((0:Int)<(lenS v_12:Int)))) st)) (K false st)))) (BId (v_0≠7) (need (isSl v_12) (K ((decide ((0:Int)<(lenS v_12:Int)))) st)) (K false st))))) (BId (v_0≠5) (need (isSl v_10) (BId ((0:Int)<(lenS v_10:Int)) (K true st) (BId (v_0≠6) (need (isSl v_11) (BId ((0:Int)<(lenS v_11:Int)) (K true st) (BId (v_0≠7) (need (isSl v_12) (K ((decide ((0:Int)<(lenS v_12:Int)))) st)) (K false st)))) (BId (v_0≠7) (need (isSl v_12) (K ((decide ((0:Int)<(lenS v_12:Int)))) st)) (K false st))))) (BId (v_0≠6) (need (isSl v_11) (BId ((0:Int)<(lenS v_11:Int)) (K true st) (BId (v_0≠7) (need (isSl v_12) (K ((decide ((0:Int)<(lenS v_12:Int)))) st)) (K false st)))) (BId (v_0≠7) (need (isSl v_12) (K ((decide ((0:Int)<(lenS v_12:Int)))) st)) (K false st)))))) (BId (v_0≠4) (BId (v_9≠([]:B8)) (K true st) (BId (v_0≠5) (need (isSl v_10) (BId ((0:Int)<(lenS v_10:Int)) (K true st) (BId (v_0≠6) (need (isSl v_11) (BId ((0:Int)<(lenS v_11:Int)) (K true st) (BId (v_0≠7) (need (isSl v_12) (K ((decide ((0:Int)<(lenS v_12:Int)))) st)) (K false st)))) (BId (v_0≠7) (need (isSl v_12) (K ((decide ((0:Int)<(lenS v_12:Int)))) st)) (K false st))))) (BId (v_0≠6) (need (isSl v_11) (BId ((0:Int)<(lenS v_11:Int)) (K true st) (BId (v_0≠7) (need (isSl v_12) (K ((decide ((0:Int)<(lenS v_12:Int)))) st)) (K false st)))) (BId (v_0≠7) (need (isSl v_12) (K ((decide ((0:Int)<(lenS v_12:Int)))) st)) (K false st))))) (BId (v_0≠5) (need (isSl v_10) (BId ((0:Int)<(lenS v_10:Int)) (K true st) (BId (v_0≠6) (need (isSl v_11) (BId ((0:Int)<(lenS v_11:Int)) (K true st) (BId (v_0≠7) (need (isSl v_12) (K ((decide ((0:Int)<(lenS v_12:Int)))) st)) (K false st)))) (BId (v_0≠7) (need (isSl v_12) (K ((decide ((0:Int)<(lenS v_12:Int)))) st)) (K false st))))) (BId (v_0≠6) (need (isSl v_11) (BId ((0:Int)<(lenS v_11:Int)) (K true st) (BId (v_0≠7) (need (isSl v_12) (K ((decide ((0:Int)<(lenS v_12:Int)))) st)) (K false st)))) (BId (v_0≠7) (need (isSl v_12) (K ((decide ((0:Int)<(lenS v_12:Int)))) st)) (K false st))))))) (BId (v_0≠3) (BIf (!(decide (v_5=(0:Int))&&(decide (v_6=(0:Int))&&(decide (v_7=(0:Int))&&(decide (v_8=(0:Int))&&true))))) (K true st) (BId (v_0≠4) (BId (v_9≠([]:B8)) (K true st) (BId (v_0≠5) (need (isSl v_10) (BId ((0:Int)<(lenS v_10:Int)) (K true st) (BId (v_0≠6) (need (isSl v_11) (BId ((0:Int)<(lenS v_11:Int)) (K true st) (BId (v_0≠7) (need (isSl v_12) (K ((decide ((0:Int)<(lenS v_12:Int)))) st)) (K false st)))) (BId (v_0≠7) (need (isSl v_12) (K ((decide ((0:Int)<(lenS v_12:Int)))) st)) (K false st))))) (BId (v_0≠6) (need (isSl v_11) (BId ((0:Int)<(lenS v_11:Int)) (K true st) (BId (v_0≠7) (need (isSl v_12) (K ((decide ((0:Int)<(lenS v_12:Int)))) st)) (K false st)))) (BId (v_0≠7) (need (isSl v_12) (K ((decide ((0:Int)<(lenS v_12:Int)))) st)) (K false st))))) (BId (v_0≠5) (need (isSl v_10) (BId ((0:Int)<(lenS v_10:Int)) (K true st) (BId (v_0≠6) (need (isSl v_11) (BId ((0:Int)<(lenS v_11:Int)) (K true st) (BId (v_0≠7) (need (isSl v_12) (K ((decide ((0:Int)<(lenS v_12:Int)))) st)) (K false st)))) (BId (v_0≠7) (need (isSl v_12) (K ((decide ((0:Int)<(lenS v_12:Int)))) st)) (K false st))))) (BId (v_0≠6) (need (isSl v_11) (BId ((0:Int)<(lenS v_11:Int)) (K true st) (BId (v_0≠7) (need (isSl v_12) (K ((decide ((0:Int)<(lenS v_12:Int)))) st)) (K false st)))) (BId (v_0≠7) (need (isSl v_12) (K ((decide ((0:Int)<(lenS v_12:Int)))) st)) (K false st)))))) (BId (v_0≠4) (BId (v_9≠([]:B8)) (K true st) (BId (v_0≠5) (need (isSl v_10) (BId ((0:Int)<(lenS v_10:Int)) (K true st) (BId (v_0≠6) (need (isSl v_11) (BId ((0:Int)<(lenS v_11:Int)) (K true st) (BId (v_0≠7) (need (isSl v_12) (K ((decide ((0:Int)<(lenS v_12:Int)))) st)) (K false st)))) (BId (v_0≠7) (need (isSl v_12) (K ((decide ((0:Int)<(lenS v_12:Int)))) st)) (K false st))))) (BId (v_0≠6) (need (isSl v_11) (BId ((0:Int)<(lenS v_11:Int)) (K true st) (BId (v_0≠7) (need (isSl v_12) (K ((decide ((0:Int)<(lenS v_12:Int)))) st)) (K false st)))) (BId (v_0≠7) (need (isSl v_12) (K ((decide ((0:Int)<(lenS v_12:Int)))) st)) (K false st))))) (BId (v_0≠5) (need (isSl v_10) (BId ((0:Int)<(lenS v_10:Int)) (K true st) (BId (v_0≠6) (need (isSl v_11) (BId ((0:Int)<(lenS v_11:Int)) (K true st) (BId (v_0≠7) (need (isSl v_12) (K ((decide ((0:Int)<(lenS v_12:Int)))) st)) (K false st)))) (BId (v_0≠7) (need (isSl v_12) (K ((decide ((0:Int)<(lenS v_12:Int)))) st)) (K false st))))) (BId (v_0≠6) (need (isSl v_11) (BId ((0:Int)<(lenS v_11:Int)) (K true st) (BId (v_0≠7) (need (isSl v_12) (K ((decide ((0:Int)<(lenS v_12:Int)))) st)) (K false st)))) (BId (v_0≠7) (need (isSl v_12) (K ((decide ((0:Int)<(lenS v_12:Int)))) st)) (K false st)))))))):CallT PR E5 [(.agg (cV v_0 v_1 v_2 v_3 v_4 v_5 v_6 v_7 v_8 v_9 v_10 v_11 v_12))] [.one .bool] st K:=
 Af (cfg:=⟨[1],[],[]⟩) (h:= .none) mixed (fun _ _=>Tryz.call88 _ _) Tryz.func88 (by kernel_rfl) (by kernel_rfl) h
theorem Jz (d_0:Bool) (d_1:B8) (d_2:Int) (st:St) (K:Bool->St->Prop) (h:BId (d_1=([]:B8)) (K (((d_0==false)&&(decide (d_1=([]:B8))&&(decide (d_2=(0:Int))&&true)))) st) (CallT PR Em [.str d_1] [.one .bool] st (fun (b1:Bool) a=>BIf b1 (BId ((d_1.length:Int)<=(120:Int)) (CallT PR El [.str d_1] [.one (.int .i64)] a (fun (n1:Int) b=>BId (n1=0) (BId ((-400:Int)<=d_2) (K ((decide (d_2<=400))) b) (K false b)) (K false b))) (K false a)) (K false a)))):CallT PR DP [(.agg [.bool d_0,.str d_1,.int .i64 d_2])] [.one .bool] st K:=
 Af (cfg:=⟨[1],[],[]⟩) (h:= .none) mixed (fun _ _=>Tryz.call89 _ _) Tryz.func89 (by kernel_rfl) (by kernel_rfl) h
theorem Kv (t_0:Int) (t_1:Int) (t_2:Int) (t_3:Int) (st:St) (K:Bool->St->Prop) (h:BId (t_0<1) (K false st) (BId ((4:Int)<t_0) (K false st) (BId (t_1<0) (K false st) (BId ((3652058:Int)<t_1) (K false st) (BId (t_2<0) (K false st) (BId ((86399999999999:Int)<t_2) (K false st) (BId (t_3<(-1439:Int)) (K false st) (BId ((1439:Int)<t_3) (K false st) (BId (t_0=2) (BId (t_1=0) (K ((decide (t_3=0))) st) (K false st)) (BId (t_0=1) (BId (t_2=0) (K ((decide (t_3=0))) st) (K false st)) (BId (t_0=3) (K ((decide (t_3=0))) st) (K true st)))))))))))):CallT PR Df [(.agg [.int .i64 t_0,.int .i64 t_1,.int .i64 t_2,.int .i64 t_3])] [.one .bool] st K:=
 Af (cfg:=⟨[1],[],[]⟩) (h:= .none) mixed (fun _ _=>Tryz.call90 _ _) Tryz.func90 (by kernel_rfl) (by kernel_rfl) h
theorem Ma (l:TV) (st:St) (K:Int->St->Prop) (h:need (isSl l) (∃(I1:Int->TV->TV->Int->St->Prop) (M1:Int->TV->TV->Int->St->Nat),(I1 0 ((.map st.nb)) l ((lenS l:Int)) (st.push (.map []) none))/\∀b a c d e,I1 b a c d e->(BId (b<d) (((0<=b/\b<(lenZ 14 c:Int))/\Aj ((Ai e [] (.t (ixT 14 c b.toNat)) 0 14).map TV.agg) (fun (x1:TV)=>Bj [.str,.int .i64,.bool,.bool,.str,.int .i64,.int .i64,.int .i64,.int .i64,.int .i64,.str,.tv,.tv,.tv] x1 (fun (s1:B8) (n1:Int) (b1 b2:Bool) (s2:B8) (n2 n3 n4 n5 n6:Int) (s3:B8) (v1 v2 v3:TV)=>need (List.all [.str s1,.int .i64 n1,.bool b1,.bool b2,.str s2,.int .i64 n2,.int .i64 n3,.int .i64 n4,.int .i64 n5,.int .i64 n6,.str s3,v1,v2,v3] Au) (CallT PR GN [.str s1] [.one (.int .i64)] e (fun (n7:Int) f=>BId (n7≠0) (K n7 f) (Aj (D6 f a) (fun (es1:List (B8×TV))=>AQ .bool (As (.bool false) (Av s1 es1)) (fun (b3:Bool)=>BIf b3 (K 8 f) (muK a s1 (.bool true) f (fun g=>(I1 ((i64.wrap (b+(1:Int)))) a c d g/\M1 ((i64.wrap (b+(1:Int)))) a c d g<M1 b a c d e)))))))))))) (K 0 e)))):CallT PR FO [l] [.one (.int .i64)] st K:=
 Af (cfg:=⟨[5],[],[]⟩) (h:=(.seq .none (.seq .none (.seq (.seq .none (.block (.loop ⟨[(10,.int .i64),(3,.tv),(8,.tv),(9,.int .i64)],[],[],[]⟩ .none))) .none)))) mixed (fun _ _=>Tryz.call91 _ _) Tryz.func91 (by kernel_rfl) (by kernel_rfl) h
theorem P3 (s:B8) (st:St) (K:Int->Int->St->Prop) (h:∃(I1:Int->Int->B8->St->Prop) (M1:Int->Int->B8->St->Nat),(I1 0 0 s st)/\∀c a b d,I1 c a b d->(BId (a<(b.length:Int)) (CallT PR FS [.str b,.int .i64 a] [.one (.int .i64),.one (.int .i64)] d (fun (n1 n2:Int) e=>BId (n2=0) (K 0 5 e) ((I1 ((i64.wrap (c+(1:Int)))) ((i64.wrap (a+n2))) b e/\M1 ((i64.wrap (c+(1:Int)))) ((i64.wrap (a+n2))) b e<M1 c a b d)))) (K c 0 d))):CallT PR ID [.str s] [.one (.int .i64),.one (.int .i64)] st K:=
 Af (cfg:=⟨[],[],[]⟩) (h:=(.seq .none (.seq .none (.seq (.seq .none (.block (.loop ⟨[(4,.int .i64),(5,.int .i64),(0,.str)],[],[],[]⟩ .none))) .none)))) mixed (fun _ _=>Tryz.call96 _ _) Tryz.func96 (by kernel_rfl) (by kernel_rfl) h
theorem KW (v_0:Int) (v_1:Bool) (v_2:Bool) (v_3:B8) (v_4:Int) (v_5:Int) (v_6:Int) (v_7:Int) (v_8:Int) (v_9:B8) (v_10:TV) (v_11:TV) (v_12:TV) (s_0:Bool) (s_1:B8) (s_2:Int) (st:St) (K:Int->Int->St->Prop) (h:CallT PR Hw [(.agg (cV v_0 v_1 v_2 v_3 v_4 v_5 v_6 v_7 v_8 v_9 v_10 v_11 v_12)),(.agg [.bool s_0,.str s_1,.int .i64 s_2])] [.one .bool] st (fun (b1:Bool) a=>BIf (!b1) (K 0 6 a) (BIf (!s_0) (CallT PR Eo [(.agg (cV v_0 v_1 v_2 v_3 v_4 v_5 v_6 v_7 v_8 v_9 v_10 v_11 v_12)),.str s_1] [.one (.int .i64)] a (fun (n1:Int) b=>BId (n1<0) (K 0 7 b) (BIf s_0 (need (isSl v_11) (BId ((lenS v_11:Int)<=n1) (K 0 7 b) (K n1 0 b))) (K n1 0 b)))) (BId (s_2<0) (K 0 7 a) (BIf s_0 (need (isSl v_11) (BId ((lenS v_11:Int)<=s_2) (K 0 7 a) (K s_2 0 a))) (K s_2 0 a)))))):CallT PR E8 [(.agg (cV v_0 v_1 v_2 v_3 v_4 v_5 v_6 v_7 v_8 v_9 v_10 v_11 v_12)),(.agg [.bool s_0,.str s_1,.int .i64 s_2])] [.one (.int .i64),.one (.int .i64)] st K:=
 Af (cfg:=⟨[2,3],[],[]⟩) (h:= .none) mixed (fun _ _=>Tryz.call97 _ _) Tryz.func97 (by kernel_rfl) (by kernel_rfl) h
theorem ES (s:B8) (st:St) (K:TV->Bool->St->Prop) (h:∃(I1:TV->Int->B8->St->Prop) (M1:TV->Int->B8->St->Nat),(I1 ((.list 1 .full 1 [.int .i64 0])) 0 s st)/\∀c a b d,I1 c a b d->(BId (a<(b.length:Int)) (CallT PR BA [.str b,.int .i64 a] [.one (.int .i64),.one (.int .i64)] d (fun (n1 n2:Int) e=>BId (n2=0) (K c false e) (CV 3 1 8 c 1 [(.int .i64 (i64.wrap (a+n2)))] e (fun (v1:TV) f=>(I1 v1 ((i64.wrap (a+n2))) b f/\M1 v1 ((i64.wrap (a+n2))) b f<M1 c a b d))))) (K c true d))):CallT PR BG [.str s] [.one .tv,.one .bool] st K:=
 Af (cfg:=⟨[],[],[]⟩) (h:=(.seq .none (.seq .none (.seq .none (.seq (.block (.loop ⟨[(4,.tv),(5,.int .i64),(0,.str)],[],[],[]⟩ .none)) .none))))) mixed (fun _ _=>Tryz.call98 _ _) Tryz.func98 (by kernel_rfl) (by kernel_rfl) h
theorem Cy (s:TV) (st:St) (K:TV->St->Prop) (h:need (isSl s) (BIf (BE s) (K .nilSlice st) (Aj (DA st 14 s) (fun (q1:Nat×List TV)=>need (List.all q1.2 Au) (HV 65 14 184 (.list 14 .full 0 []) q1.1 q1.2 st (fun (v1:TV) a=>K v1 a)))))):CallT PR Bq [s] [.one .tv] st K:=
 Af (cfg:=⟨[],[7],[]⟩) (h:= .none) mixed (fun _ _=>Tryz.call99 _ _) Tryz.func99 (by kernel_rfl) (by kernel_rfl) h
theorem A6 (x:TV) (cmp:TV) (st:St) (K:St->Prop) (h:need (isSl x) (CallT PR AT [x,(.int .i64 (lenS x:Int)),cmp] [] st (fun (a:St)=>K a))):CallT PR AA [x,cmp] [] st K:=
 Af (cfg:=⟨[],[],[]⟩) (h:= .none) mixed (fun _ _=>Tryz.call100 _ _) Tryz.func100 (by kernel_rfl) (by kernel_rfl) h
theorem IM (a_0:B8) (a_1:Int) (a_2:Bool) (a_3:Bool) (a_4:B8) (a_5:Int) (a_6:Int) (a_7:Int) (a_8:Int) (a_9:Int) (a_10:B8) (a_11:TV) (a_12:TV) (a_13:TV) (b_0:B8) (b_1:Int) (b_2:Bool) (b_3:Bool) (b_4:B8) (b_5:Int) (b_6:Int) (b_7:Int) (b_8:Int) (b_9:Int) (b_10:B8) (b_11:TV) (b_12:TV) (b_13:TV) (st:St) (K:Int->St->Prop) (h:CallT PR E7 [.str a_0,.str b_0] [.one (.int .i64)] st (fun (n1:Int) a=>K n1 a)):CallT PR Cq [(.agg [.str a_0,.int .i64 a_1,.bool a_2,.bool a_3,.str a_4,.int .i64 a_5,.int .i64 a_6,.int .i64 a_7,.int .i64 a_8,.int .i64 a_9,.str a_10,a_11,a_12,a_13]),(.agg [.str b_0,.int .i64 b_1,.bool b_2,.bool b_3,.str b_4,.int .i64 b_5,.int .i64 b_6,.int .i64 b_7,.int .i64 b_8,.int .i64 b_9,.str b_10,b_11,b_12,b_13])] [.one (.int .i64)] st K:=
 Af (cfg:=⟨[2,3],[],[]⟩) (h:= .none) mixed (fun _ _=>Tryz.call101 _ _) Tryz.func101 (by kernel_rfl) (by kernel_rfl) h
theorem Ku (v_0:Int) (v_1:Bool) (v_2:Bool) (v_3:B8) (v_4:Int) (v_5:Int) (v_6:Int) (v_7:Int) (v_8:Int) (v_9:B8) (v_10:TV) (v_11:TV) (v_12:TV) (st:St) (K:Bool->St->Prop) (h:BId (v_0=0) (BIf (!v_1) (BIf ((v_2==false)&&(decide (v_3=([]:B8))&&(decide (v_4=(0:Int))&&true))) (BIf (decide (v_5=(0:Int))&&(decide (v_6=(0:Int))&&(decide (v_7=(0:Int))&&(decide (v_8=(0:Int))&&true)))) (BId (v_9=([]:B8)) (need (isSl v_10) (BId ((lenS v_10:Int)=(0:Int)) (need (isSl v_11) (BId ((lenS v_11:Int)=(0:Int)) (need (isSl v_12) (K ((decide ((lenS v_12:Int)=(0:Int)))) st)) (K false st))) (K false st))) (K false st)) (K false st)) (K false st)) (K false st)) (K false st)):CallT PR Ce [(.agg (cV v_0 v_1 v_2 v_3 v_4 v_5 v_6 v_7 v_8 v_9 v_10 v_11 v_12))] [.one .bool] st K:=
 Af (cfg:=⟨[1],[],[]⟩) (h:= .none) mixed (fun _ _=>Tryz.call103 _ _) Tryz.func103 (by kernel_rfl) (by kernel_rfl) h
theorem L7 (v_0:Int) (b:Bool) (v_2:Bool) (v_3:B8) (v_4:Int) (v_5:Int) (v_6:Int) (v_7:Int) (v_8:Int) (v_9:B8) (v_10:TV) (v_11:TV) (v_12:TV) (left:Int) (st:St) (K:Int->St->Prop) (h:BId (left<1) (K 1 st) (CallT PR DZ [(.agg (cV v_0 b v_2 v_3 v_4 v_5 v_6 v_7 v_8 v_9 v_10 v_11 v_12))] [.one .tv] st (fun (v1:TV) i=>need (isSl v1) (∃(I1:Int->Int->Int->TV->Int->St->Prop) (M1:Int->Int->Int->TV->Int->St->Nat),(I1 1 0 left v1 ((lenS v1:Int)) i)/\∀f c a b d e,I1 f c a b d e->(BId (c<d) (((0<=c/\c<(lenZ 13 b:Int))/\Aj ((Ai e [] (.t (ixT 13 b c.toNat)) 0 13).map TV.agg) (fun (x1:TV)=>Bj [.int .i64,.bool,.bool,.str,.int .i64,.int .i64,.int .i64,.int .i64,.int .i64,.str,.tv,.tv,.tv] x1 (fun (n1:Int) (b1 b2:Bool) (s1:B8) (n2 n3 n4 n5 n6:Int) (s2:B8) (v2 v3 v4:TV)=>need (List.all (cV n1 b1 b2 s1 n2 n3 n4 n5 n6 s2 v2 v3 v4) Au) (CallT PR DX [(.agg (cV n1 b1 b2 s1 n2 n3 n4 n5 n6 s2 v2 v3 v4)),(.int .i64 (i64.wrap (a-(1:Int))))] [.one (.int .i64)] e (fun (n7:Int) g=>(I1 ((i64.wrap (f+n7))) ((i64.wrap (c+(1:Int)))) a b d g/\M1 ((i64.wrap (f+n7))) ((i64.wrap (c+(1:Int)))) a b d g<M1 f c a b d e))))))) (K f e)))))):CallT PR DX [(.agg (cV v_0 b v_2 v_3 v_4 v_5 v_6 v_7 v_8 v_9 v_10 v_11 v_12)),.int .i64 left] [.one (.int .i64)] st K:=
 Af (cfg:=⟨[2,7],[],[]⟩) (h:=(.seq .none (.seq .none (.seq .none (.seq (.seq .none (.block (.loop ⟨[(5,.int .i64),(14,.int .i64),(1,.int .i64),(12,.tv),(13,.int .i64)],[],[],[]⟩ .none))) .none))))) mixed (fun _ _=>Tryz.call104 _ _) Tryz.func104 (by kernel_rfl) (by kernel_rfl) h
theorem Mb (v_0:Int) (b:Bool) (v_2:Bool) (v_3:B8) (v_4:Int) (v_5:Int) (v_6:Int) (v_7:Int) (v_8:Int) (v_9:B8) (v_10:TV) (v_11:TV) (v_12:TV) (left:Int) (st:St) (K:Int->St->Prop) (h:BId (left<=1) (K 1 st) (CallT PR DZ [(.agg (cV v_0 b v_2 v_3 v_4 v_5 v_6 v_7 v_8 v_9 v_10 v_11 v_12))] [.one .tv] st (fun (v1:TV) i=>need (isSl v1) (∃(I1:Int->Int->Int->TV->Int->St->Prop) (M1:Int->Int->Int->TV->Int->St->Nat),(I1 1 0 left v1 ((lenS v1:Int)) i)/\∀f c a b d e,I1 f c a b d e->(BId (c<d) (((0<=c/\c<(lenZ 13 b:Int))/\Aj ((Ai e [] (.t (ixT 13 b c.toNat)) 0 13).map TV.agg) (fun (x1:TV)=>Bj [.int .i64,.bool,.bool,.str,.int .i64,.int .i64,.int .i64,.int .i64,.int .i64,.str,.tv,.tv,.tv] x1 (fun (n1:Int) (b1 b2:Bool) (s1:B8) (n2 n3 n4 n5 n6:Int) (s2:B8) (v2 v3 v4:TV)=>need (List.all (cV n1 b1 b2 s1 n2 n3 n4 n5 n6 s2 v2 v3 v4) Au) (CallT PR D1 [(.agg (cV n1 b1 b2 s1 n2 n3 n4 n5 n6 s2 v2 v3 v4)),(.int .i64 (i64.wrap (a-(1:Int))))] [.one (.int .i64)] e (fun (n7:Int) g=>(I1 ((max f (i64.wrap ((1:Int)+n7)))) ((i64.wrap (c+(1:Int)))) a b d g/\M1 ((max f (i64.wrap ((1:Int)+n7)))) ((i64.wrap (c+(1:Int)))) a b d g<M1 f c a b d e))))))) (K f e)))))):CallT PR D1 [(.agg (cV v_0 b v_2 v_3 v_4 v_5 v_6 v_7 v_8 v_9 v_10 v_11 v_12)),.int .i64 left] [.one (.int .i64)] st K:=
 Af (cfg:=⟨[2,7],[],[]⟩) (h:=(.seq .none (.seq .none (.seq .none (.seq (.seq .none (.block (.loop ⟨[(5,.int .i64),(14,.int .i64),(1,.int .i64),(12,.tv),(13,.int .i64)],[],[],[]⟩ .none))) .none))))) mixed (fun _ _=>Tryz.call105 _ _) Tryz.func105 (by kernel_rfl) (by kernel_rfl) h
end Go.TVF
