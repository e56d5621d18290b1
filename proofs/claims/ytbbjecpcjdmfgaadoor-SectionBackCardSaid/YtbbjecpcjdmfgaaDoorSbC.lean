/- What the laws below rest on: a framework for Go programs, and contracts of the functions that they reach. -/
import Derived.Test.YtbbjecpcjdmfgaaDoorSbB
import Derived.Deep.Slices
import Derived.WideShapes
import Derived.ChangeArms
import Derived.OpenShut
import Derived.Test.YtbbjecpcjdmfgaaDoorProg
import Derived.KernelRfl
set_option maxRecDepth 20000
set_option linter.unusedVariables false
set_option linter.unusedSimpArgs false
section
namespace Go.TVF
open Go.IntKind(i64 u8)
open Go.RowKit (Below)
section
variable {P:Program} {g:Ghost} {st:St} {w:World}
theorem Lg {s:Nat} {f:Nat->TV}:∀{ps:List (Nat×CTy)} {rest:List TV} {v:TV},P5 s ps (ps.map (fun p=>f p.1)++rest)=some v->v=f s
 | [],rest,v,h=>by cases rest<;>simp[P5]at h
 | p::ps,rest,v,h=>by
  simp only[List.map_cons,List.cons_append,P5]at h
  split at h
  ·rename_i hb;simp only[Option.some.injEq]at h;rw[<-h,Nat.eq_of_beq_eq_true hb]
  ·exact Lg h
theorem Kd {i o:Nat} {f:Nat->Nat->TV}:∀{ps:List (Nat×Nat×CTy)} {v:TV},MA i o ps (ps.map fun p=>f p.1 p.2.1)=some v->v=f i o
 | [],v,h=>by simp[MA]at h
 | p::ps,v,h=>by
  simp only[List.map_cons,MA]at h
  split at h
  ·rename_i hb
   simp only[Bool.and_eq_true]at hb
   simp only[Option.some.injEq]at h;rw[<-h,Nat.eq_of_beq_eq_true hb.1,Nat.eq_of_beq_eq_true hb.2]
  ·exact Kd h
theorem Mx {s:Nat}:∀{ps:List (Nat×Nat×Nat)} {q:Nat×Nat},OU s ps=some q->(s,q)∈ps
 | [],q,h=>by simp[OU]at h
 | p::ps,q,h=>by
  simp only[OU]at h
  split at h
  ·rename_i hb;simp only[Option.some.injEq]at h;subst h;rw[<-Nat.eq_of_beq_eq_true hb];simp
  ·exact List.mem_cons_of_mem _ (Mx h)
theorem Mz {s:Nat}:∀{ps:List (Nat×Nat)} {q:Nat},Kc s ps=some q->(s,q)∈ps
 | [],q,h=>by simp[Kc]at h
 | p::ps,q,h=>by
  simp only[Kc]at h
  split at h
  ·rename_i hb;simp only[Option.some.injEq]at h;subst h;rw[<-Nat.eq_of_beq_eq_true hb];simp
  ·exact List.mem_cons_of_mem _ (Mz h)
theorem Hg (k:Ec) (vals:List TV) (i:Nat):∀n o,(Ez k vals i n o).length=n
 | 0,o=>rfl
 | n+1,o=>by simp[Ez,Hg k vals i n]
theorem Ka (k:Ec) (vals:List TV) (i:Nat):∀n o j,j<n->(Ez k vals i n o)[j]? =some (Qw k vals i (o+j))
 | 0,o,j,h=>absurd h (Nat.not_lt_zero _)
 | n+1,o,0,h=>by simp[Ez]
 | n+1,o,j+1,h=>by
  simp only[Ez,List.getElem?_cons_succ]
  rw[Ka k vals i n (o+1) j (by omega),show o+1+j=o+(j+1)from by omega]
theorem Mt (k:Ec) (vals:List TV):∀n s i x,(H7 k vals n s)[i]? =some (some x)->∃m,Kc (s+i) k.locs=some m/\x=Ez k vals (s+i) m 0
 | 0,s,i,x,h=>by simp[H7]at h
 | n+1,s,0,x,h=>by
  simp only[H7,List.getElem?_cons_zero,Option.some.injEq]at h
  split at h
  ·rename_i m hm;simp only[Option.some.injEq]at h;exact⟨m,by simpa using hm,by simpa using h.symm⟩
  ·cases h
 | n+1,s,i+1,x,h=>by
  simp only[H7,List.getElem?_cons_succ]at h
  obtain⟨m,h1,h2⟩:=Mt k vals n (s+1) i x h
  rw[show s+1+i=s+(i+1)from by omega]at h1 h2
  exact⟨m,h1,h2⟩
theorem Le (k:Ec) (vals:List TV):∀n s i m,i<n->Kc (s+i) k.locs=some m->(H7 k vals n s)[i]? =some (some (Ez k vals (s+i) m 0))
 | 0,s,i,m,h,_=>absurd h (Nat.not_lt_zero _)
 | n+1,s,0,m,h,hm=>by simp only[H7,List.getElem?_cons_zero,Nat.add_zero]at hm⊢;rw[hm]
 | n+1,s,i+1,m,h,hm=>by
  simp only[H7,List.getElem?_cons_succ]
  have:=Le k vals n (s+1) i m (by omega) (by rw[show s+1+i=s+(i+1)from by omega];exact hm)
  rw[show s+1+i=s+(i+1)from by omega]at this
  exact this
theorem Sim.weakLoc {loc loc':List (Option (List TV))} (s:Sim g st loc w) (h:∀(j:Nat) (x':List TV),loc'[j]? =some (some x')->∃x,loc[j]? =some (some x)/\x'.length=x.length/\∀i (hi:i<x'.length),x'[i]? =x[i]?∨x'[i]? =some .junk):Sim g st loc' w:=by
 have hd:∀k,Dom st loc' k->Dom st loc k:=by
  intro k d
  cases k with
  | box i=>exact d
  | loc i=>obtain⟨x',hx'⟩:=d;obtain⟨x,hx,_⟩:=h i x' hx';exact⟨x,hx⟩
 refine⟨s.nb,s.nt,s.below,s.fits,fun k d=>?_,fun k k' d d'=>s.inj k k' (hd k d) (hd k' d'),fun k d=>s.lo k (hd k d),s.own,?_,s.spApart,s.spLt,?_,?_,s.spTop,s.spTy,s.bTy,s.glob⟩
 ·cases k with
  | box i=>exact s.obj (.box i) d
  | loc i=>
   obtain⟨x',hx'⟩:=d
   obtain⟨x,hx,hlen,hel⟩:=h i x' hx'
   have:=s.obj (.loc i) ⟨x,hx⟩
   simp only[A3,hx]at this
   simp only[A3,hx']
   obtain⟨cs,hc,hr⟩:=this
   refine⟨cs,hc,hlen.trans hr.1,fun j hj=>?_⟩
   rcases hel j hj with e | e
   ·have hj':j<x.length:=hlen▸hj
    rw[List.getElem?_eq_getElem hj,List.getElem?_eq_getElem hj']at e
    simp only[Option.some.injEq]at e
    rw[e];exact hr.2 j hj'
   ·rw[List.getElem?_eq_getElem hj]at e
    simp only[Option.some.injEq]at e
    rw[e];exact .junk _
 ·intro id b l h' hsp
  obtain⟨c1,c2,c3,c4,c5⟩:=s.spCell id b l h' hsp
  exact⟨c1,c2,c3,fun k d=>c4 k (hd k d),c5⟩
 ·intro a ha
  obtain⟨c1,c2,c3,c4⟩:=s.sCell a ha
  exact⟨c1,c2,fun k d=>c3 k (hd k d),c4⟩
 ·intro b hb
  obtain⟨c1,c2,c3⟩:=s.protOk b hb
  exact⟨c1,fun k d=>c2 k (hd k d),c3⟩
theorem Ec.weak {k:Ec} {fr:Fr} {tmps:Array Value} {ns nl:Nat} (hk:k.ok nl fr=true) (s:Sim g st fr.loc w) (hf:Fe g w fr tmps) (hn:tmps.size=ns):
  Sim g st (k.frame ns nl (k.vals fr)).loc w/\Fe g w (k.frame ns nl (k.vals fr)) tmps:=by
 simp only[Ec.ok,Bool.and_eq_true,List.all_eq_true]at hk
 obtain⟨hp,hl⟩:=hk
 have hvals:(k.vals fr).drop k.slots.length=k.cells.map fun p=>J0 fr p.1 p.2.1:=by
  unfold Ec.vals
  rw[List.drop_append_of_le_length (by simp)]
  simp
 have hloc:∀(j:Nat) (x':List TV),(H7 k (k.vals fr) nl 0)[j]? =some (some x')->∃x,fr.loc[j]? =some (some x)/\x'.length=x.length/\∀i (hi:i<x'.length),x'[i]? =x[i]?∨x'[i]? =some .junk:=by
  intro j x' hx'
  obtain⟨m,hm,rfl⟩:=Mt _ _ _ _ _ _ hx'
  rw[Nat.zero_add]at hm
  have hsz:=hl _ (Mz hm)
  unfold S8 at hsz
  simp only at hsz
  split at hsz
  ·rename_i x hx
   have hxl:=Nat.eq_of_beq_eq_true hsz
   refine⟨x,hx,by rw[Hg];exact hxl.symm,fun i hi=>?_⟩
   have him:i<m:=by rw[Hg]at hi;exact hi
   rw[Ka _ _ _ _ _ _ him,Nat.zero_add,Nat.zero_add]
   unfold Qw
   rw[hvals]
   cases hc:MA j i k.cells (k.cells.map fun p=>J0 fr p.1 p.2.1)with
   | none=>exact .inr rfl
   | some v=>
    have:=Kd (f:=J0 fr) hc
    left
    have hix:i<x.length:=by omega
    simp only[this,J0,hx,List.getD_eq_getElem?_getD,List.getElem?_eq_getElem hix,Option.getD_some]
  ·cases hsz
 refine⟨s.weakLoc hloc,hn.symm,fun i=>?_⟩
 ·have hget:(k.frame ns nl (k.vals fr)).slots.f i=PN k (k.vals fr) i:=rfl
  rw[hget]
  have hold:=hf.2 i
  unfold PN
  split
  ·rename_i v hv
   have hv':P5 i k.slots (k.slots.map (fun p=>JA fr p.1)++k.cells.map fun p=>J0 fr p.1 p.2.1)=some v:=hv
   have:=Lg (f:=JA fr) hv'
   rw[this]
   show Rel g w (JA fr i) _
   exact hold.tv
  ·split
   ·rename_i q hq
    obtain⟨hpi,hloc2⟩:=hp _ (Mx hq)
    unfold Tj at hloc2
    unfold Q5 at hpi
    simp only at hpi
    split at hpi
    ·rename_i j p hs
     simp only[Bool.and_eq_true]at hpi
     have e1:=Nat.eq_of_beq_eq_true hpi.1
     have e2:=Nat.eq_of_beq_eq_true hpi.2
     rw[hs]at hold
     obtain⟨⟨x,hx⟩,hv⟩:=hold
     split at hloc2
     ·rename_i m hm
      have hlt:=Nat.le_of_ble_eq_true hloc2
      simp only at hlt hm
      have:=Le k (k.vals fr) nl 0 q.1 m (by omega) (by rw[Nat.zero_add];exact hm)
      exact⟨⟨_,this⟩,by rw[hv,e1,e2]⟩
     ·cases hloc2
    ·cases hpi
   ·exact Rel.junk _
end
end Go.TVF
end
section
namespace Go.TVF
open Go.IntKind(i64 u8)
open Go.RowKit (Below)
theorem Ob {P:Program} {Q:Exit->Act->World->Prop} {a:Act} {w:World} {c:Code} (I:Nat->Act->World->Prop) (h₀:∃m,I m a w)
  (round:∀m a w,I m a w->c.wp P (Exit.then (fun a' w'=>∃m',m'<m/\I m' a' w') Q) a w):(Code.loop c).wp P Q a w:=by
 intro b k cs
 have key:∀m a w,I m a w->∃e a' w',Q e a' w'/\Arrives P (lone (b.at a (.code c:: .inLoop c::k)) cs w) b k cs e a' w':=by
  intro m
  induction m using Nat.strongRecOn with
  | _ m ih=>
   intro a w hI
   obtain⟨e,a₁,w₁,hq,harr⟩:=round m a w hI b (.inLoop c::k) cs
   cases e with
   | normal=>
    obtain⟨m',hlt,hI₁⟩:=hq
    obtain⟨e₂,a₂,w₂,hq₂,harr₂⟩:=ih m' hlt a₁ w₁ hI₁
    exact⟨e₂,a₂,w₂,hq₂,.of_steps (Steps.trans harr (.one step_inLoop)) harr₂⟩
   | exit id=>exact⟨_,a₁,w₁,hq,.pass (x:= .inLoop c) rfl (fun _ _=> .inl (by simp)) harr⟩
   | goto l=>exact⟨_,a₁,w₁,hq,.pass (x:= .inLoop c) rfl (fun _ _=> .inl (by simp)) harr⟩
   | ret=>exact⟨_,a₁,w₁,hq,.pass (x:= .inLoop c) rfl (fun _ _=> .inl (by simp)) harr⟩
   | panic ch=>exact⟨_,a₁,w₁,hq,.pass (x:= .inLoop c) rfl (fun _ _=> .inl (by simp)) harr⟩
   | outgrown=>exact⟨_,a₁,w₁,hq,.pass (x:= .inLoop c) rfl (fun _ _=> .inl (by simp)) harr⟩
 obtain⟨m,hm⟩:=h₀
 obtain⟨e,a',w',hq,harr⟩:=key m a w hm
 exact⟨e,a',w',hq,.of_steps (.one step_loop) harr⟩
theorem LO:∀{cs:List CTy} {vs:List TV} {I:Fun cs (St->Prop)} {M:Fun cs (St->Nat)} {B:List TV->Nat->St->Prop} {st:St},AllC cs I M B->If cs vs I (fun p=>p st)->∃m,B vs m st
 | [],[],I,M,B,st,h,hd=>⟨_,h st hd⟩
 | [],_::_,I,M,B,st,h,hd=>hd.elim
 | _::_,[],I,M,B,st,h,hd=>hd.elim
 | c::cs,v::vs,I,M,B,st,h,hd=>by
  obtain⟨y,rfl,hd2⟩:=Dp hd
  exact LO (B:=fun l=>B (enc c y::l)) (h y) hd2
theorem MV:∀{cs:List CTy} {vs:List TV} {I:Fun cs (St->Prop)} {M:Fun cs (St->Nat)} {B:List TV->Nat->St->Prop} {st:St} {m:Nat},AllC cs I M B->Ph cs vs I M (fun p q=>p st/\q st<m)->∃m',m'<m/\B vs m' st
 | [],[],I,M,B,st,m,h,hd=>⟨_,hd.2,h st hd.1⟩
 | [],_::_,I,M,B,st,m,h,hd=>hd.elim
 | _::_,[],I,M,B,st,m,h,hd=>hd.elim
 | c::cs,v::vs,I,M,B,st,m,h,hd=>by
  obtain⟨y,rfl,hd2⟩:=Dp hd
  exact MV (B:=fun l=>B (enc c y::l)) (h y) hd2
theorem Ki:∀{cs:List CTy} {vs:List TV} {I:Fun cs (St->Prop)} {B:List TV->St->Prop} {st:St},T4 cs I B->If cs vs I (fun p=>p st)->B vs st
 | [],[],I,B,st,h,hd=>h st hd
 | [],_::_,I,B,st,h,hd=>hd.elim
 | _::_,[],I,B,st,h,hd=>hd.elim
 | c::cs,v::vs,I,B,st,h,hd=>by
  obtain⟨y,rfl,hd2⟩:=Dp hd
  exact Ki (B:=fun l=>B (enc c y::l)) (h y) hd2
def QPost (g:Ghost) (w:World) (a0:Act) (Q:Exit->Fr->St->Prop) (e:Exit) (a:Act) (w':World):Prop:=Ig g w a0 (Q e) a w'
section
variable {P:Program} {cfg:Cfg} {ns nl:Nat}
theorem R8 (hm:P.follows .mixedOrders=true):∀(c:Code) (h:Hu) (Q:Exit->Fr->St->Prop) (fr:Fr) (st:St) (g:Ghost) (w:World) (a:Act),cwp cfg P ns nl c h Q fr st->Sim g st fr.loc w->Fe g w fr a.tmps->a.tmps.size=ns->
  c.wp P (QPost g w a Q) a w:=by
 intro c
 induction c with
 | skip=>intro h Q fr st g w a hc s hf hn;exact wp_skip ⟨fr,st,g,hc,s,hf,Ext.refl _ _,rfl,rfl⟩
 | region id ops draw=>
  intro h Q fr st g w a hc s hf hn
  cases draw with
  | false=>exact wp_region_list (J8 ops.toList fr st g w a hc s hf fun a' w' hp=>hp)
  | true=>exact NN hm hc s hf fun a' w' hp=>hp
 | seq x y ihx ihy=>
  intro h Q fr st g w a hc s hf hn
  have key:∀(hx hy:Hu),cwp cfg P ns nl x hx (Oj (cwp cfg P ns nl y hy Q) Q) fr st->(Code.seq x y).wp P (QPost g w a Q) a w:=by
   intro hx hy hcx
   refine wp_seq (wp_mono (ihx hx _ fr st g w a hcx s hf hn) fun e a' w' hq=>?_)
   obtain⟨fr',st',g',h1,h2,h3,h4,h5⟩:=hq
   cases e with
   | normal=>
    refine wp_mono (ihy hy Q fr' st' g' w' a' h1 h2 h3 (h5.2.trans hn)) fun e a'' w'' hq2=>?_
    exact hq2.ext h4 h5
   | _=>exact⟨fr',st',g',h1,h2,h3,h4,h5⟩
  cases h with
  | cut k hx hy=>
   obtain⟨R,h1,h2⟩:=hc
   refine wp_seq (wp_mono (ihx hx _ fr st g w a h1 s hf hn) fun e a' w' hq=>?_)
   obtain⟨fr',st',g',q1,q2,q3,q4,q5⟩:=hq
   cases e with
   | normal=>
    have q1':need (k.ok nl fr') (If k.tys (k.vals fr') R fun p=>p st'):=q1
    rw[Ak]at q1'
    obtain⟨w1,w2⟩:=Ec.weak (ns:=ns) q1'.1 q2 q3 (q5.2.trans hn)
    have hb:=Ki h2 q1'.2
    exact wp_mono (ihy hy Q _ st' g' w' a' hb w1 w2 (q5.2.trans hn)) fun e a'' w'' hq2=>hq2.ext q4 q5
   | _=>exact⟨fr',st',g',q1,q2,q3,q4,q5⟩
  | none=>exact key _ _ hc
  | seq p q=>exact key _ _ hc
  | cond p q=>exact key _ _ hc
  | block p=>exact key _ _ hc
  | loop k p=>exact key _ _ hc
 | cond c x y ihx ihy=>
  intro h Q fr st g w a hc s hf hn
  simp only[cwp]at hc
  split at hc
  ·rename_i b hb
   have hr:=Ns hf c
   rw[hb]at hr
   have hr':Rel g w (.bool b) (a.eval c):=hr
   have hev:a.eval c= .bool b:=by generalize a.eval c=q at hr';cases hr';rfl
   cases b with
   | true=>exact wp_cond_true hev (ihx h.l Q fr st g w a hc s hf hn)
   | false=>exact wp_cond_false hev (ihy h.r Q fr st g w a hc s hf hn)
  ·exact hc.elim
 | block id x ih=>
  intro h Q fr st g w a hc s hf hn
  refine wp_block (wp_mono (ih h.l (QA id Q) fr st g w a hc s hf hn) fun e a' w' hq=>?_)
  obtain⟨fr',st',g',h1,h2,h3,h4,h5⟩:=hq
  cases e with
  | exit id'=>
   simp only[QA]at h1
   by_cases hid:id'=id
   ·subst hid
    have hbe:(id'.beq id')=true:=Nat.beq_refl id'
    simp only[hbe]at h1
    simp only[Exit.inBlock,if_true]
    exact⟨fr',st',g',h1,h2,h3,h4,h5⟩
   ·have hbe:(id'.beq id)=false:=by
     cases hq:id'.beq id with
     | false=>rfl
     | true=>exact absurd (Nat.eq_of_beq_eq_true hq) hid
    simp only[hbe]at h1
    simp only[Exit.inBlock,hid,if_false]
    exact⟨fr',st',g',h1,h2,h3,h4,h5⟩
  | _=>exact⟨fr',st',g',h1,h2,h3,h4,h5⟩
 | loop x ih=>
  intro h Q fr st g w a hc s hf hn
  cases h with
  | loop k hx=>
   obtain⟨I,M,h1,h2⟩:=hc
   rw[Ak]at h1
   refine Ob (fun m a' w'=>∃vals st' g',cwp cfg P ns nl x hx (Oj (fun fr st=>need (k.ok nl fr) (Ph k.tys (k.vals fr) I M fun p q=>p st/\q st<m)) Q) (k.frame ns nl vals) st'/\
    Sim g' st' (k.frame ns nl vals).loc w'/\Fe g' w' (k.frame ns nl vals) a'.tmps/\Ext g w g' w'/\a'.defers=a.defers/\a'.tmps.size=a.tmps.size) ?_ ?_
   ·obtain⟨m,hm⟩:=LO h2 h1.2
    obtain⟨w1,w2⟩:=Ec.weak (ns:=ns) h1.1 s hf hn
    exact⟨m,_,st,g,hm,w1,w2,Ext.refl _ _,rfl,rfl⟩
   ·rintro m a' w' ⟨vals,st',g',q1,q2,q3,q4,q5⟩
    refine wp_mono (ih hx _ _ st' g' w' a' q1 q2 q3 (q5.2.trans hn)) fun e a'' w'' hq=>?_
    obtain⟨fr2,st2,g2,r1,r2,r3,r4,r5⟩:=hq
    cases e with
    | normal=>
     have r1':need (k.ok nl fr2) (Ph k.tys (k.vals fr2) I M fun p q=>p st2/\q st2<m):=r1
     rw[Ak]at r1'
     obtain⟨m',hlt,hB⟩:=MV h2 r1'.2
     obtain⟨w1,w2⟩:=Ec.weak (ns:=ns) r1'.1 r2 r3 (r5.2.trans (q5.2.trans hn))
     exact⟨m',hlt,_,st2,g2,hB,w1,w2,q4.trans r4,r5.1.trans q5.1,r5.2.trans q5.2⟩
    | _=>exact⟨fr2,st2,g2,r1,r2,r3,q4.trans r4,r5.1.trans q5.1,r5.2.trans q5.2⟩
  | _=>exact hc.elim
 | exit id=>intro h Q fr st g w a hc s hf hn;exact wp_exit ⟨fr,st,g,hc,s,hf,Ext.refl _ _,rfl,rfl⟩
 | ret=>intro h Q fr st g w a hc s hf hn;exact wp_ret ⟨fr,st,g,hc,s,hf,Ext.refl _ _,rfl,rfl⟩
 | _=>intro h Q fr st g w a hc s hf hn;exact hc.elim
def JG (P:Program) (fr:Fr) (st:St):ResultVar->Option TV
 | .tmp t=>some (JA fr t)
 | .cell a t=>match II P t with
  | some true=>match P.cellsOf t with
   | 0=>none
   | n=>(Aj st fr.loc (fr.slots.f a) 0 n).map .agg
  | some false=>Ac st fr.loc (fr.slots.f a) 0
  | none=>none
def Hd (P:Program) (fr:Fr) (st:St):List ResultVar->Option (List TV)
 | []=>some []
 | r::rs=>match JG P fr st r with
  | some v=>(Hd P fr st rs).map (v::·)
  | none=>none
def PF:List TV->TV
 | [v]=>v
 | vs=> .tuple vs
def resT (P:Program) (fn:Func) (fr:Fr) (st:St):Option TV:=(Hd P fr st fn.results.toList).map PF
def Nv (P:Program) (fr:Fr) (st:St) (r:ResultVar) (k:TV->Prop):Prop:=
 match r with
 | .tmp t=>k (JA fr t)
 | .cell a t=>match II P t with
  | some true=>match P.cellsOf t with
   | 0=>False
   | n=>Ar ((Aj st fr.loc (fr.slots.f a) 0 n).map .agg) k
  | some false=>Ar (Ac st fr.loc (fr.slots.f a) 0) k
  | none=>False
def I7 (P:Program) (fr:Fr) (st:St):List ResultVar->(List TV->Prop)->Prop
 | [],k=>k []
 | r::rs,k=>Nv P fr st r fun v=>I7 P fr st rs fun vs=>k (v::vs)
theorem L7 {P:Program} {fr:Fr} {st:St} {r:ResultVar} {k:TV->Prop} (h:Nv P fr st r k):∃v,JG P fr st r=some v/\k v:=by
 cases r with
 | tmp t=>exact⟨_,rfl,h⟩
 | cell a t=>
  unfold Nv at h
  unfold JG
  simp only at h⊢
  cases ha:II P t with
  | none=>rw[ha]at h;exact h.elim
  | some b=>
   rw[ha]at h
   cases b with
   | true=>
    simp only at h⊢
    cases hn:P.cellsOf t with
    | zero=>rw[hn]at h;exact h.elim
    | succ n=>
     rw[hn]at h
     exact BY.1 h
   | false=>exact BY.1 h
theorem HY {P:Program} {fr:Fr} {st:St}:∀{rs:List ResultVar} {k:List TV->Prop},I7 P fr st rs k->∃vs,Hd P fr st rs=some vs/\k vs
 | [],k,h=>⟨[],rfl,h⟩
 | r::rs,k,h=>by
  obtain⟨v,h1,h2⟩:=L7 h
  obtain⟨vs,h3,h4⟩:=HY h2
  exact⟨v::vs,by simp[Hd,h1,h3],h4⟩
def retQ (P:Program) (fn:Func) (R:TV->St->Prop):Exit->Fr->St->Prop
 | .normal,fr,st=>I7 P fr st fn.results.toList fun vs=>R (PF vs) st
 | .ret,fr,st=>I7 P fr st fn.results.toList fun vs=>R (PF vs) st
 | _,_,_=>False
def GE (cfg:Cfg) (fn:Func) (args:List TV):Fr:=⟨⟨fn.ntmps,fun i=>match args[i]? with | some v=> .t v | none=> .t .undef⟩,cfg.loc.map fun _=>none⟩
theorem Nt {g:Ghost} {st:St} {w:World} {fr:Fr} {tmps:Array Value} (s:Sim g st fr.loc w) (hf:Fe g w fr tmps) {r:ResultVar} {v:TV} (h:JG P fr st r=some v):
  ∃u,(match r with | .tmp t=>pure (tmps.getD t Go.undef) | .cell a t=>do loadVar t (<-asAddr (tmps.getD a Go.undef)):Sem Value).run P w= .ok u w/\Rel g w v u:=by
 cases r with
 | tmp t=>
  simp only[JG,Option.some.injEq]at h
  subst h
  exact⟨_,rfl,(hf.2 t).tv⟩
 | cell a t=>
  simp only[JG]at h
  have hld:∀p,Bp g w fr.loc p (tmps.getD a Go.undef)->(DC P st fr.loc t p).Is (.t v)->∃u,(do loadVar t (<-asAddr (tmps.getD a Go.undef)):Sem Value).run P w= .ok u w/\Rel g w v u:=by
   intro p hp hl
   have hl':=hl
   obtain⟨u,hu,hr⟩:=Li (P:=P) s hp hl'
   have hsa:(Instr.loadAt t (tmps.getD a Go.undef)).run P w=(do loadVar t (<-asAddr (tmps.getD a Go.undef)):Sem Value).run P w:=by
    generalize hq:tmps.getD a Go.undef=q at hp hu
    simp only[Instr.loadAt,Sem.run_bind]
    cases q with
    | pointer o=>cases o with
     | none=>simp[Instr.loadAt,Instr.sureAddr]at hu
     | some ad=>simp[Instr.sureAddr,asAddr]
    | _=>simp[Instr.loadAt,Instr.sureAddr]at hu
   exact⟨u,by rw[<-hsa];exact hu,hr⟩
  split at h
  ·rename_i ha
   split at h
   ·cases h
   ·rename_i n hn
    refine hld _ (hf.2 a) ?_
    unfold DC
    rw[ha]
    exact⟨v,by
     split
     ·rename_i h0;exact absurd h0 hn
     ·exact h,rfl⟩
  ·rename_i ha
   refine hld _ (hf.2 a) ?_
   unfold DC
   rw[ha]
   exact⟨v,h,rfl⟩
  ·cases h
theorem I6 {g:Ghost} {st:St} {w:World} {fr:Fr} {tmps:Array Value} (s:Sim g st fr.loc w) (hf:Fe g w fr tmps):∀{rs:List ResultVar} {vs:List TV},Hd P fr st rs=some vs->
  ∃us:List Value,(rs.mapM (fun r=>match r with | .tmp t=>pure (tmps.getD t Go.undef) | .cell a t=>do loadVar t (<-asAddr (tmps.getD a Go.undef))):Sem (List Value)).run P w= .ok us w/\AL g w vs us
 | [],vs,h=>by simp only[Hd,Option.some.injEq]at h;subst h;exact⟨[],rfl,.nil _ _⟩
 | r::rs,vs,h=>by
  simp only[Hd]at h
  split at h
  ·rename_i v hv
   obtain⟨vs',hvs',rfl⟩:=Option.map_eq_some_iff.1 h
   obtain⟨u,hu,hr⟩:=Nt s hf hv
   obtain⟨us,hus,hrs⟩:=I6 s hf hvs'
   refine⟨u::us,?_,.cons hr hrs⟩
   rw[List.mapM_cons]
   simp only[Sem.run_bind,hu,Result.andThen_ok,hus,Sem.run_pure]
  ·cases h
theorem PV {g:Ghost} {st:St} {w:World} {fr:Fr} {tmps:Array Value} (s:Sim g st fr.loc w) (hf:Fe g w fr tmps) {fn:Func} {v:TV} (h:resT P fn fr st=some v):∃u,(results fn tmps).run P w= .ok u w/\Rel g w v u:=by
 unfold resT at h
 cases hr:Hd P fr st fn.results.toList with
 | none=>rw[hr]at h;cases h
 | some vs=>
  rw[hr]at h
  obtain⟨us,hus,hrel⟩:=I6 s hf hr
  have hrun:(fn.results.mapM (fun r=>match r with | .tmp t=>pure (tmps.getD t Go.undef) | .cell a t=>do loadVar t (<-asAddr (tmps.getD a Go.undef))):Sem (Array Value)).run P w= .ok us.toArray w:=by
   rw[<-Array.toArray_toList (xs:=fn.results),List.mapM_toArray]
   simp only[Sem.run_map,hus,Result.andThen_ok]
  refine⟨if h:us.toArray.size=1 then us.toArray[0]else .tuple us.toArray,?_,?_⟩
  ·have hres:results fn tmps=(do
     let vs<-(fn.results.mapM (fun r=>match r with | .tmp t=>pure (tmps.getD t Go.undef) | .cell a t=>do loadVar t (<-asAddr (tmps.getD a Go.undef))):Sem (Array Value))
     pure (if h:vs.size=1 then vs[0]else .tuple vs)):=rfl
   rw[hres,Sem.run_bind,hrun]
   rfl
  ·cases vs with
   | nil=>
    simp only[Option.map_some,Option.some.injEq,PF]at h;subst h
    have:us=[]:=List.eq_nil_of_length_eq_zero hrel.1.symm
    subst this
    exact Rel.tuple [] [] rfl (fun i hi=>absurd hi (Nat.not_lt_zero _))
   | cons v1 vs1=>cases vs1 with
    | nil=>
     simp only[Option.map_some,Option.some.injEq,PF]at h;subst h
     cases us with
     | nil=>have:=hrel.1;simp at this
     | cons u1 us1=>
      have:us1=[]:=List.eq_nil_of_length_eq_zero (by have:=hrel.1;simpa using this.symm)
      subst this
      simpa using hrel.2 0 (by simp)
    | cons v2 vs2=>
     simp only[Option.map_some,Option.some.injEq,PF]at h;subst h
     have hl:us.toArray.size≠1:=by have:=hrel.1;simp at this⊢;omega
     rw[dif_neg hl]
     exact Rel.tuple _ us hrel.1 hrel.2
theorem RA (hm:P.follows .mixedOrders=true) {f:FuncId} {fn:Func} {c:Code} (hcall:∀(vs:Array Value) (w:World),(callFunc f vs).run P w= .ok (.enter f vs) w) (hf:P.funcs[f]? =some fn) (hb:fn.body=some c)
  (cfg:Cfg) (h:Hu) {args:List TV} {st:St} {R:TV->St->Prop} (hn:args.length<=fn.ntmps)
  (hc:cwp cfg P fn.ntmps cfg.loc.length c h (retQ P fn R) (GE cfg fn args) st):C9 P f args st R:=by
 refine Ev hcall fun g w vargs s hr=>?_
 refine calls_of_wp hf hb ?_
 have hlen:vargs.length=args.length:=hr.1.symm
 have hsize:(vargs.toArray++Array.replicate (fn.ntmps-vargs.toArray.size) Go.undef).size=fn.ntmps:=by simp;omega
 have hsim:Sim g st (GE cfg fn args).loc w:=s.weakLoc fun j x' hx'=>by
  simp only[GE,List.getElem?_map]at hx'
  cases hq:cfg.loc[j]? with
  | none=>rw[hq]at hx';cases hx'
  | some q=>rw[hq]at hx';simp at hx'
 have hfr:Fe g w (GE cfg fn args) (vargs.toArray++Array.replicate (fn.ntmps-vargs.toArray.size) Go.undef):=by
  refine⟨by rw[hsize];rfl,fun i=>?_⟩
  by_cases hia:i<args.length
  ·have h1:(GE cfg fn args).slots.f i= .t args[i]:=by simp[GE,hia]
   have h2:(vargs.toArray++Array.replicate (fn.ntmps-vargs.toArray.size) Go.undef).getD i Go.undef=vargs.getD i Go.undef:=by
    have:i<vargs.length:=by omega
    have hin:i<fn.ntmps:=by omega
    simp[Array.getD,Array.getElem_append,this,hin,List.getD_eq_getElem?_getD]
    omega
   rw[h1,h2]
   exact hr.2 i hia
  ·have h1:(GE cfg fn args).slots.f i= .t .undef:=by simp[GE,hia]
   have h2:(vargs.toArray++Array.replicate (fn.ntmps-vargs.toArray.size) Go.undef).getD i Go.undef=Go.undef:=by
    have:¬i<vargs.length:=by omega
    simp[Array.getD,Array.getElem_append,this]
   rw[h1,h2]
   exact Rel.undef
 refine wp_mono (R8 hm c h _ _ st g w {tmps:=vargs.toArray++Array.replicate (fn.ntmps-vargs.toArray.size) Go.undef,defers:=[]} hc hsim hfr hsize) fun e a' w' hq=>?_
 obtain⟨fr',st',g',h1,h2,h3,h4,h5,h6⟩:=hq
 have fin:I7 P fr' st' fn.results.toList (fun vs=>R (PF vs) st')->a'.defers=[]/\∃v,(results fn a'.tmps).run P w'= .ok v w'/\∃v',Ending.returned v= .returned v'/\∃r st' g',R r st'/\Sim g' st' [] w'/\Rel g' w' r v'/\Ext g w g' w':=by
  intro ho
  obtain⟨vs,hvs,hR⟩:=HY ho
  obtain⟨u,hu,hrel⟩:=PV (fn:=fn) h2 h3 (by unfold resT;rw[hvs];rfl)
  exact⟨h5,u,hu,u,rfl,_,st',g',hR,h2.dropLoc (fun j x hx=>by simp at hx),hrel,h4⟩
 cases e with
 | normal=>exact fin h1
 | ret=>exact fin h1
 | _=>exact h1.elim
def St.zero:St:={nb:=0,box:=fun _=> .dead,nt:=0,live:=fun _=>false,ty:=fun _=>none,bt:=fun _=>none}
def Ghost.start (w:World):Ghost:={base:=w.heap.size,w0:=w,nb:=0,bk:=fun _=>0,lam:=fun _=>0,nt:=0,sp:=fun _=>none,S:=fun a=>a.spot=none/\∃v,w.cell? a=some v,prot:=fun _=>False}
theorem Sim.start (w:World) (hG:∀w',Below w.heap.size w w'->N7 w'):Sim (Ghost.start w) St.zero [] w:=by
 have hd:∀k,¬Dom St.zero [] k:=by
  intro k d
  cases k with
  | box i=>exact absurd d (Nat.not_lt_zero _)
  | loc i=>obtain⟨x,hx⟩:=d;simp at hx
 exact⟨rfl,rfl,Below.refl _ _,Nat.le_refl _,fun k d=>absurd d (hd k),fun k k' d=>absurd d (hd k),fun k d=>absurd d (hd k),fun id h=>absurd h (Nat.not_lt_zero _),
  fun id b l h hh=>(by cases hh),fun i j b l h l' h' _ hh=>(by cases hh),fun id _=>rfl,fun a ha=>⟨ha.1,ha.2,fun k d=>absurd d (hd k),fun id l h hh=>(by cases hh)⟩,fun b hb=>hb.elim,fun id b l h hh=>(by cases hh),fun id b l h T hh=>(by cases hh),fun b T hb=>absurd hb (Nat.not_lt_zero _),hG⟩
theorem Qx {f:FuncId} {args:List TV} (hcall:∀(vs:Array Value) (w:World),(callFunc f vs).run P w= .ok (.enter f vs) w) (h:C9 P f args St.zero fun r _=>r= .bool true) (w:World) (hG:∀w',Below w.heap.size w w'->N7 w') (vargs:List Value) (hr:AL (Ghost.start w) w args vargs):
  Calls P f vargs.toArray w fun e w'=>e= .returned (.bool true)/\Below w.heap.size w w':=by
 have h1:=h.run (Ghost.start w) w vargs (Sim.start w hG) hr
 unfold Cy at h1
 rw[hcall]at h1
 refine Calls.mono h1 ?_
 rintro e w' ⟨v,rfl,r,st',g',rfl,s',hrel,e'⟩
 have hb:=s'.below
 rw[e'.base,e'.w0]at hb
 cases hrel
 exact⟨rfl,hb⟩
end
def Qz (fn:Func):Code:=match fn.body with | some c=>c | none=> .skip
def Fw (cfg:Cfg) (P:Program) (h:Hu) (fn:Func) (args:List TV) (st:St) (R:TV->St->Prop):Prop:=
 cwp cfg P fn.ntmps cfg.loc.length (Qz fn) h (retQ P fn R) (GE cfg fn args) st
def fits (fn:Func) (args:List TV):Bool:=(fn.body.isSome).and (args.length.ble fn.ntmps)
theorem Ag {P:Program} (hm:P.follows .mixedOrders=true) {f:FuncId} {fn:Func} (hcall:∀(vs:Array Value) (w:World),(callFunc f vs).run P w= .ok (.enter f vs) w) (hf:P.funcs[f]? =some fn)
  {cfg:Cfg} {h:Hu} {args:List TV} {st:St} {R:TV->St->Prop} (hn:fits fn args=true) {V:Prop} (he:Fw cfg P h fn args st R=V) (hV:V):C9 P f args st R:=by
 simp only[fits,Bool.and_eq_true]at hn
 obtain⟨c,hc⟩:=Option.isSome_iff_exists.1 hn.1
 have hb:fn.body=some (Qz fn):=by rw[Qz,hc]
 rw[<-he]at hV
 exact RA hm hcall hf hb cfg h (Nat.le_of_ble_eq_true hn.2) hV
def BF (cs:List CTy) (v:TV) (f:Fun cs Prop):Prop:=
 match v with
 | .agg l=>decL cs l f
 | _=>False
def stB (st:St) (p:TV) (xs:List TV) (k:St->Prop):Prop:=
 match p with
 | .box b off=>∃l,st.box b= .cells l/\off+xs.length<=l.length/\k (st.put b (.cells (setAll l off xs)))
 | _=>False
theorem Ab {p:Prop} [Decidable p] {x y:Prop} (h1:p->x) (h2:¬p->y):BIf (decide p) x y:=by
 by_cases h:p
 ·simp only[h,decide_true,BIf];exact h1 h
 ·simp only[h,decide_false,BIf];exact h2 h
theorem AD {b:Bool} {x y:Prop} (h1:b=true->x) (h2:b=false->y):BIf b x y:=by
 cases b
 ·exact h2 rfl
 ·exact h1 rfl
end Go.TVF
end
section
namespace Go.TVF
open Go.IntKind(i64 u8)
structure Al (a b:St):Prop where
 nb:a.nb<=b.nb
 box:∀i,i<a.nb->b.box i=a.box i
 nt:a.nt<=b.nt
 live:∀i,i<a.nt->b.live i=a.live i
 ty:∀i,i<a.nt->b.ty i=a.ty i
 bt:∀i,i<a.nb->b.bt i=a.bt i
theorem Al.refl (a:St):Al a a:=⟨Nat.le_refl _,fun _ _=>rfl,Nat.le_refl _,fun _ _=>rfl,fun _ _=>rfl,fun _ _=>rfl⟩
theorem Al.trans {a b c:St} (h:Al a b) (k:Al b c):Al a c:=
 ⟨Nat.le_trans h.nb k.nb,fun i hi=>(k.box i (Nat.lt_of_lt_of_le hi h.nb)).trans (h.box i hi),Nat.le_trans h.nt k.nt,fun i hi=>(k.live i (Nat.lt_of_lt_of_le hi h.nt)).trans (h.live i hi),fun i hi=>(k.ty i (Nat.lt_of_lt_of_le hi h.nt)).trans (h.ty i hi),fun i hi=>(k.bt i (Nat.lt_of_lt_of_le hi h.nb)).trans (h.bt i hi)⟩
theorem Al.fresh {a b:St} (h:Al a b) (T:Option Nat):Al a (b.fresh T):=
 h.trans ⟨Nat.le_refl _,fun _ _=>rfl,Nat.le_succ _,fun i hi=>by simp only[St.fresh];rw[if_neg (by omega)],fun i hi=>by simp only[St.fresh];rw[if_neg (by omega)],fun _ _=>rfl⟩
theorem Al.push {a b:St} (h:Al a b) (o:HU) (T:Option Nat):Al a (b.push o T):=
 h.trans ⟨Nat.le_succ _,fun i hi=>by simp only[St.push];rw[if_neg (by omega)],Nat.le_refl _,fun _ _=>rfl,fun _ _=>rfl,fun i hi=>by simp only[St.push];rw[if_neg (by omega)]⟩
theorem Al.retire {a b:St} (h:Al a b) {id:Nat} (hid:a.nt<=id):Al a (b.retire id):=
 ⟨h.nb,h.box,h.nt,fun i hi=>by simp only[St.retire];rw[if_neg (by omega)];exact h.live i hi,h.ty,h.bt⟩
theorem Al.put {a b:St} (h:Al a b) {i:Nat} (hi:a.nb<=i) (o:HU):Al a (b.put i o):=
 ⟨h.nb,fun j hj=>by simp only[St.put];rw[if_neg (by omega)];exact h.box j hj,h.nt,h.live,h.ty,h.bt⟩
theorem FF (l:B8):(A5 l).length=l.length:=by simp[A5]
def Rd (sz:Nat) (v:TV) (n:Nat) (xs:List TV):Prop:=
 (v= .nilSlice/\n=0/\xs=[])∨∃tip,v= .list sz tip n xs
def Own (b sz:Nat) (st:St) (v:TV) (n:Nat) (xs:List TV):Prop:=
 (v= .nilSlice/\n=0/\xs=[])∨∃tip,v= .list sz tip n xs/\(tip= .full∨∃id,tip= .own id/\b<=id/\id<st.nt/\st.live id=true)
theorem Own.rd {b sz:Nat} {st:St} {v:TV} {n:Nat} {xs:List TV} (h:Own b sz st v n xs):Rd sz v n xs:=by
 rcases h with h | ⟨tip,h,_⟩
 ·exact .inl h
 ·exact .inr ⟨tip,h⟩
theorem Own.ext {b sz:Nat} {st st':St} {v:TV} {n:Nat} {xs:List TV} (h:Own b sz st v n xs) (e:Al st st'):Own b sz st' v n xs:=by
 rcases h with h | ⟨tip,h,ht | ⟨id,h1,h2,h3,h4⟩⟩
 ·exact .inl h
 ·exact .inr ⟨tip,h,.inl ht⟩
 ·exact .inr ⟨tip,h,.inr ⟨id,h1,h2,Nat.lt_of_lt_of_le h3 e.nt,(e.live id h3).trans h4⟩⟩
theorem Own.nil (b sz:Nat) (st:St):Own b sz st .nilSlice 0 []:= .inl ⟨rfl,rfl,rfl⟩
theorem Own.full (b sz:Nat) (st:St) (n:Nat) (xs:List TV):Own b sz st (.list sz .full n xs) n xs:= .inr ⟨_,rfl,.inl rfl⟩
theorem Own.fresh {b sz:Nat} {st:St} {T:Option Nat} (n:Nat) (xs:List TV) (hb:b<=st.nt):Own b sz (st.fresh T) (.list sz (.own st.nt) n xs) n xs:=
 .inr ⟨_,rfl,.inr ⟨st.nt,rfl,hb,Nat.lt_succ_self _,by simp[St.fresh]⟩⟩
theorem Rd.isSl {sz:Nat} {v:TV} {n:Nat} {xs:List TV} (h:Rd sz v n xs):TVF.isSl v=true:=by
 rcases h with⟨rfl,_⟩ | ⟨tip,rfl⟩<;>rfl
theorem Rd.lenS {sz:Nat} {v:TV} {n:Nat} {xs:List TV} (h:Rd sz v n xs):TVF.lenS v=n:=by
 rcases h with⟨rfl,rfl,_⟩ | ⟨tip,rfl⟩<;>rfl
theorem Rd.lenZ {sz:Nat} {v:TV} {n:Nat} {xs:List TV} (h:Rd sz v n xs):TVF.lenZ sz v=n:=by
 rcases h with⟨rfl,rfl,_⟩ | ⟨tip,rfl⟩
 ·rfl
 ·simp[TVF.lenZ]
theorem Rd.one {sz:Nat} {v:TV} {n:Nat} {xs:List TV} (h:Rd sz v n xs):At v=true:=by
 rcases h with⟨rfl,rfl,_⟩ | ⟨tip,rfl⟩<;>rfl
theorem Rd.ld {sz:Nat} {v:TV} {n:Nat} {xs:List TV} (h:Rd sz v n xs) (st:St) (i j:Nat) (hi:i*sz+j<xs.length):Ac st [] (.t (ixT sz v i)) j=some xs[i*sz+j]:=by
 rcases h with⟨rfl,rfl,rfl⟩ | ⟨tip,rfl⟩
 ·simp at hi
 ·simp[Ac,ixT,hi]
theorem Pz {T b sz bytes:Nat} {st0 st:St} {v:TV} {n k:Nat} {xs ys:List TV} {K:TV->St->Prop} (e:Al st0 st) (hb:b=st0.nt) (h:Own b sz st v n xs) (hby:(n+k)*bytes<=140737488355328) (hys:k=0->ys=[])
  (hK:∀v' st',Al st0 st'->st'.box=st.box->Own b sz st' v' (n+k) (xs++ys)->K v' st'):Cx T sz bytes v k ys st K:=by
 subst hb
 rcases h with⟨rfl,rfl,rfl⟩ | ⟨tip,rfl,ht⟩
 ·simp only[Cx]
  cases k with
  | zero=>rw[hys rfl]at hK;exact hK _ _ e rfl (.nil _ _ _)
  | succ m=>
   simp only[Ak]
   refine⟨by simpa using hby,hK _ _ (e.fresh _) rfl ?_⟩
   simp only[List.nil_append,Nat.zero_add]
   exact Own.fresh _ _ e.nt
 ·simp only[Cx,Nat.beq_refl]
  refine⟨hby,?_⟩
  rcases ht with rfl | ⟨id,rfl,h1,h2,h3⟩
  ·cases k with
   | zero=>rw[hys rfl]at hK;simp only[List.append_nil]at hK;exact hK _ _ e rfl (Own.full _ _ _ _ _)
   | succ m=>exact hK _ _ (e.fresh _) rfl (Own.fresh _ _ e.nt)
  ·exact⟨h3,hK _ _ ((e.retire h1).fresh _) rfl (Own.fresh (st:=st.retire id) _ _ e.nt)⟩
theorem Aa {b:Bool} {k:Prop} (h:b=true) (hk:k):need b k:=Ak.2 ⟨h,hk⟩
theorem Ae {α:Type} {o:Option α} {x:α} {k:α->Prop} (h:o=some x) (hk:k x):Ar o k:=by rw[h];exact hk
theorem Ai (x:Int) (h1: -9223372036854775808<=x) (h2:x<=9223372036854775807):IntKind.wrap .i64 x=x:=by
 unfold IntKind.wrap
 simp only[IntKind.signed,IntKind.bits]
 simp
 omega
theorem wrapU8 (x:Int) (h1:0<=x) (h2:x<=255):IntKind.wrap .u8 x=x:=by
 unfold IntKind.wrap
 simp only[IntKind.signed,IntKind.bits]
 simp
 omega
end Go.TVF
end
section
namespace Go.TVF
open Go.IntKind(i64 u8)
open Go.RowKit (Below)
theorem TI {r:TV} {st':St} (h:Ek [.one .bool] r (fun (b:Bool) (_:St)=>b=true) (fun p=>p st')):r= .bool true:=by
 cases r<;>simp only[Ek,E9,Bj]at h<;>first | exact h.elim | skip
 subst h;rfl
theorem calls_law {P:Program} {f:FuncId} {args:List TV} (hcall:∀(vs:Array Value) (w:World),(callFunc f vs).run P w= .ok (.enter f vs) w) (h:CallT P f args [.one .bool] St.zero (fun r _=>r=true)) (w:World) (hG:∀w',Below w.heap.size w w'->N7 w') (vargs:List Value) (hr:AL (Ghost.start w) w args vargs):
  Calls P f vargs.toArray w fun e w'=>e= .returned (.bool true)/\Below w.heap.size w w':=
 Qx hcall (C9.mono h fun r st' hd=>TI hd) w hG vargs hr
theorem K4 (g:Ghost) (w:World) (s:ByteArray):Rel g w (.str s.data.toList) (.string s):=by
 have:=Rel.str (g:=g) (w:=w) s.data.toList
 simpa using this
def Lr:List CTy->List TV->Prop
 | [],xs=>xs=[]
 | .int k::cs,xs=>∃n ys,xs= .int k n::ys/\(Lit.int k n).wf=true/\Lr cs ys
 | .str::cs,xs=>∃l ys,xs= .str l::ys/\l.length<=maxLen/\Lr cs ys
 | .bool::cs,xs=>∃b ys,xs= .bool b::ys/\Lr cs ys
 | .tv::_,_=>False
def T3 (P:Program):CTy->TypeId->Prop
 | .int k,t=>P.underlying t=some (.int k)
 | .bool,t=>P.underlying t=some .bool
 | .str,t=>P.underlying t=some .string
 | .tv,_=>False
section
variable {H:Type} {enc:TypeId×Value->H} {P:Program} {w:World} {base:Nat} {sp:Nat->Bool} {held:Bool}
theorem RS {c:CTy} {t:TypeId} {fuel:Nat} {cs:List Value} {x:DataW H×List MemPlace} (g:Ghost) (hc:T3 P c t) (h:DataW.trod enc P w base sp held fuel t cs=some x):
  ∃v u,cs=[u]/\Rel g w v u/\Lr [c] [v]:=by
 cases c with
 | int k=>
  obtain⟨n,rfl,_,hw⟩:=DataW.trod_int hc h
  exact⟨_,_,rfl,.int k n,n,[],rfl,hw,rfl⟩
 | bool=>
  obtain⟨b,rfl,_⟩:=DataW.trod_bool hc h
  exact⟨_,_,rfl,.bool b,b,[],rfl,rfl⟩
 | str=>
  obtain⟨s,rfl,_,hs⟩:=DataW.trod_string hc h
  exact⟨_,_,rfl,K4 g w s,_,[],rfl,by rw[Array.length_toList];exact hs,rfl⟩
 | tv=>exact hc.elim
theorem QF (b off i:Nat):(⟨b,off,none⟩:Addr).add i=⟨b,off+i,none⟩:=by
 unfold Addr.add;split
 ·rename_i h;subst h;rfl
 ·rfl
end
end Go.TVF
end
namespace Go.TVF
open Go.IntKind(i64 u8)
open Go Go.Proofs
theorem mixed:Tryd.prog.follows .mixedOrders=true:=by kernel_rfl
noncomputable def PR:Program:=Tryd.prog
abbrev V13(X:Type):=Int->Bool->Bool->B8->Int->Int->Int->Int->Int->B8->TV->TV->TV->X
abbrev sV:RTy:=.agg [.int .i64,.bool,.bool,.str,.int .i64,.int .i64,.int .i64,.int .i64,.int .i64,.str,.tv,.tv,.tv]
abbrev cV(a:Int)(b c:Bool)(d:B8)(e f g h i:Int)(j:B8)(k l m:TV):List TV:=[.int .i64 a,.bool b,.bool c,.str d,.int .i64 e,.int .i64 f,.int .i64 g,.int .i64 h,.int .i64 i,.str j,k,l,m]
abbrev BId(p:Prop)[Decidable p](a b:Prop):Prop:=BIf (decide p) a b
def fn_datakitlaw25_SectionBack:Nat:=4
def A7:Nat:=6
def CY:Nat:=7
def Cw:Nat:=8
def Do:Nat:=9
def AE:Nat:=10
def Cc:Nat:=11
def EZ:Nat:=12
def AW:Nat:=13
def CO:Nat:=14
def Bc:Nat:=15
def Bi:Nat:=16
def BO:Nat:=17
def CN:Nat:=18
def Df:Nat:=19
def Am:Nat:=20
def DX:Nat:=21
def DD:Nat:=22
def Cv:Nat:=23
def BV:Nat:=24
def Dj:Nat:=25
def AR:Nat:=26
def EY:Nat:=27
def DS:Nat:=28
def Dk:Nat:=29
def EF:Nat:=30
def FJ:Nat:=31
def Cp:Nat:=32
def Bx:Nat:=33
def Co:Nat:=34
def BX:Nat:=35
def Ap:Nat:=36
def Aq:Nat:=37
def Di:Nat:=38
def AC:Nat:=39
def CC:Nat:=40
def B3:Nat:=41
def BP:Nat:=42
def BU:Nat:=43
def AS:Nat:=44
def FK:Nat:=45
def E0:Nat:=46
def Ax:Nat:=47
def Bh:Nat:=48
def AT:Nat:=49
def Ft:Nat:=50
def Ej:Nat:=51
def Ei:Nat:=52
def IF:Nat:=53
def GG:Nat:=54
def By:Nat:=55
def Bu:Nat:=56
def AF:Nat:=57
def CB:Nat:=58
def E3:Nat:=59
def Cq:Nat:=60
def DW:Nat:=61
def DZ:Nat:=62
def BC:Nat:=63
def Es:Nat:=64
def Bg:Nat:=65
def FN:Nat:=66
def D9:Nat:=67
def FM:Nat:=68
def AU:Nat:=69
def DY:Nat:=71
def Hn:Nat:=77
def FL:Nat:=78
def GH:Nat:=79
def AM:Nat:=80
def Ad:Nat:=81
def A0:Nat:=83
def Ba:Nat:=87
def AG:Nat:=91
def L4:B8:=[97]
def str1:B8:=[98]
def str2:B8:=[120]
def str3:B8:=[121]
def str4:B8:=[122]
def str5:B8:=[49]
def str6:B8:=[48]
theorem Eu (v_0:Int) (v_1:Bool) (v_2:Bool) (v_3:B8) (v_4:Int) (v_5:Int) (v_6:Int) (v_7:Int) (v_8:Int) (v_9:B8) (v_10:TV) (v_11:TV) (v_12:TV) (st:St) (K:Bool->St->Prop) (h:CallT PR Cw [(.agg (cV v_0 v_1 v_2 v_3 v_4 v_5 v_6 v_7 v_8 v_9 v_10 v_11 v_12))] [.one .bool] st (fun (b1:Bool) f=>BIf (!b1) (CallT PR A7 [] [.one .bool] f (fun (b2:Bool) i=>K b2 i)) (CallT PR Do [(.agg (cV v_0 v_1 v_2 v_3 v_4 v_5 v_6 v_7 v_8 v_9 v_10 v_11 v_12))] [.one .tv,.one (.int .i64)] f (fun (v1:TV) (n1:Int) d=>BId (n1≠0) (CallT PR AE [(.agg (cV v_0 v_1 v_2 v_3 v_4 v_5 v_6 v_7 v_8 v_9 v_10 v_11 v_12))] [.one (.int .i64)] d (fun (n2:Int) c=>BId (n1=n2) (CallT PR A7 [] [.one .bool] c (fun (b3:Bool) k=>K b3 k)) (CallT PR AE [(.agg (cV v_0 v_1 v_2 v_3 v_4 v_5 v_6 v_7 v_8 v_9 v_10 v_11 v_12))] [.one (.int .i64)] c (fun (n3:Int) a=>BId (n3=0) (BId (n1=6) (BId (v_0≠7) (CallT PR A7 [] [.one .bool] a (fun (b4:Bool) j=>K b4 j)) (K false a)) (K false a)) (K false a))))) (CallT PR Cc [v1] [sV,.one (.int .i64),.one (.int .i64)] d (fun (n4:Int) (b5 b6:Bool) (s1:B8) (n5 n6 n7 n8 n9:Int) (s2:B8) (v2 v3 v4:TV) (l m:Int) b=>need (List.all (cV n4 b5 b6 s1 n5 n6 n7 n8 n9 s2 v2 v3 v4) At) (BId (m=0) (BId (l=0) (CallT PR EZ [(.agg (cV v_0 v_1 v_2 v_3 v_4 v_5 v_6 v_7 v_8 v_9 v_10 v_11 v_12)),(.agg (cV n4 b5 b6 s1 n5 n6 n7 n8 n9 s2 v2 v3 v4))] [.one .bool] b (fun (b7:Bool) e=>BIf b7 (CallT PR A7 [] [.one .bool] e (fun (b8:Bool) g=>K b8 g)) (K false e))) (K false b)) (K false b)))))))):CallT PR fn_datakitlaw25_SectionBack [(.agg (cV v_0 v_1 v_2 v_3 v_4 v_5 v_6 v_7 v_8 v_9 v_10 v_11 v_12))] [.one .bool] st K:=
 Ag (cfg:=⟨[1,5],[],[]⟩) (h:= .none) mixed (fun _ _=>Tryd.call4 _ _) Tryd.func4 (by kernel_rfl) (by kernel_rfl) h
theorem GY (st:St) (K:Bool->St->Prop) (h:CallT PR AW [(.list 1 .full 2 [.str L4,.str str1])] [.agg [.bool,.bool,.tv,.int .i64,.bool,.bool,.str,.int .i64,.int .i64,.int .i64,.int .i64,.int .i64,.str,.tv,.tv,.tv]] st (fun (b1 b2:Bool) (v1:TV) (n1:Int) (b3 b4:Bool) (s1:B8) (n2 n3 n4 n5 n6:Int) (s2:B8) (v2 v3 v4:TV) e3=>CallT PR AW [(.list 1 .full 1 [.str str4])] [.agg [.bool,.bool,.tv,.int .i64,.bool,.bool,.str,.int .i64,.int .i64,.int .i64,.int .i64,.int .i64,.str,.tv,.tv,.tv]] e3 (fun (b5 b6:Bool) (v5:TV) (n7:Int) (b7 b8:Bool) (s3:B8) (n8 n9 f2 e0 a6:Int) (s4:B8) (v6 v7 v8:TV) a8=>CallT PR Cc [(.list 16 .full 3 [.bool b1,.bool b2,v1,.int .i64 n1,.bool b3,.bool b4,.str s1,.int .i64 n2,.int .i64 n3,.int .i64 n4,.int .i64 n5,.int .i64 n6,.str s2,v2,v3,v4,.bool true,.bool false,(.list 1 .full 2 [.str str2,.str str3]),.int .i64 0,.bool false,.bool false,(.str []),.int .i64 0,.int .i64 0,.int .i64 0,.int .i64 0,.int .i64 0,(.str []),.nilSlice,.nilSlice,.nilSlice,.bool b5,.bool b6,v5,.int .i64 n7,.bool b7,.bool b8,.str s3,.int .i64 n8,.int .i64 n9,.int .i64 f2,.int .i64 e0,.int .i64 a6,.str s4,v6,v7,v8])] [sV,.one (.int .i64),.one (.int .i64)] a8 (fun (i:Int) (b9 y:Bool) (s5:B8) (d0 d3 e5 c4 c2:Int) (s6:B8) (v9 z a:TV) (f9 k:Int) b0=>need (List.all (cV i b9 y s5 d0 d3 e5 c4 c2 s6 v9 z a) At) (CallT PR AW [(.list 1 .full 1 [.str L4])] [.agg [.bool,.bool,.tv,.int .i64,.bool,.bool,.str,.int .i64,.int .i64,.int .i64,.int .i64,.int .i64,.str,.tv,.tv,.tv]] b0 (fun (f8 d9:Bool) (a3:TV) (a0:Int) (c7 n:Bool) (s7:B8) (p c8 d5 o d6:Int) (s8:B8) (e6 j f7:TV) m=>CallT PR AW [(.list 1 .full 2 [.str L4,.str str1])] [.agg [.bool,.bool,.tv,.int .i64,.bool,.bool,.str,.int .i64,.int .i64,.int .i64,.int .i64,.int .i64,.str,.tv,.tv,.tv]] m (fun (a9 a4:Bool) (f3:TV) (f4:Int) (u c5:Bool) (s9:B8) (e8 r e9 w d8:Int) (e1:B8) (g a1 l:TV) q=>CallT PR CY [(.list 16 .full 2 [.bool f8,.bool d9,a3,.int .i64 a0,.bool c7,.bool n,.str s7,.int .i64 p,.int .i64 c8,.int .i64 d5,.int .i64 o,.int .i64 d6,.str s8,e6,j,f7,.bool a9,.bool a4,f3,.int .i64 f4,.bool u,.bool c5,.str s9,.int .i64 e8,.int .i64 r,.int .i64 e9,.int .i64 w,.int .i64 d8,.str e1,g,a1,l])] [.one (.int .i64),.one (.int .i64)] q (fun (f1 c6:Int) a5=>CallT PR AW [(.list 1 .full 1 [.str L4])] [.agg [.bool,.bool,.tv,.int .i64,.bool,.bool,.str,.int .i64,.int .i64,.int .i64,.int .i64,.int .i64,.str,.tv,.tv,.tv]] a5 (fun (e4 x:Bool) (a7:TV) (s:Int) (e2 d4:Bool) (a2:B8) (c1 e7 v d1 c9:Int) (f6:B8) (d2 c3 f5:TV) f0=>CallT PR CY [(.list 16 .full 2 [.bool e4,.bool x,a7,.int .i64 s,.bool e2,.bool d4,.str a2,.int .i64 c1,.int .i64 e7,.int .i64 v,.int .i64 d1,.int .i64 c9,.str f6,d2,c3,f5,.bool true,.bool true,(.list 1 .full 1 [.str L4]),.int .i64 0,.bool false,.bool false,(.str []),.int .i64 0,.int .i64 0,.int .i64 0,.int .i64 0,.int .i64 0,(.str []),.nilSlice,.nilSlice,.nilSlice])] [.one (.int .i64),.one (.int .i64)] f0 (fun (f c0:Int) b=>BId (k=0) (need (isSl a) (BId ((lenS a:Int)=(2:Int)) (((0<=(1:Int)/\(1:Int)<(lenZ 14 a:Int))/\need (isPtr (ixT 14 a (Int.toNat (1:Int)))) (Ar (Ac b [] (.t (AV (ixT 14 a (Int.toNat (1:Int))) 0)) 0) (fun (x1:TV)=>Bj .str x1 (fun (d7:B8)=>BId (d7=str2) (((0<=(1:Int)/\(1:Int)<(lenZ 14 a:Int))/\need (isPtr (ixT 14 a (Int.toNat (1:Int)))) (need (isPtr (AV (ixT 14 a (Int.toNat (1:Int))) 1)) (Ar (Ac b [] (.t (AV (AV (ixT 14 a (Int.toNat (1:Int))) 1) 12)) 0) (fun (d:TV)=>need (isSl d) (BId ((lenS d:Int)=(1:Int)) (((0<=(1:Int)/\(1:Int)<(lenZ 14 a:Int))/\need (isPtr (ixT 14 a (Int.toNat (1:Int)))) (need (isPtr (AV (ixT 14 a (Int.toNat (1:Int))) 1)) (Ar (Ac b [] (.t (AV (AV (ixT 14 a (Int.toNat (1:Int))) 1) 12)) 0) (fun (c:TV)=>((0<=(0:Int)/\(0:Int)<(lenZ 14 c:Int))/\need (isPtr (ixT 14 c (Int.toNat (0:Int)))) (need (isPtr (AV (ixT 14 c (Int.toNat (0:Int))) 1)) (Ar (Ac b [] (.t (AV (AV (ixT 14 c (Int.toNat (0:Int))) 1) 12)) 0) (fun (e:TV)=>need (isSl e) (BId ((lenS e:Int)=(1:Int)) (BId (f1=1) (BId (c6=8) (BId (f=1) (K ((decide (c0=6))) b) (K false b)) (K false b)) (K false b)) (K false b))))))))))) (K false b))))))) (K false b)))))) (K false b))) (K false b))))))))))):CallT PR A7 [] [.one .bool] st K:=
 Ag (cfg:=⟨[1],[],[]⟩) (h:= .none) mixed (fun _ _=>Tryd.call6 _ _) Tryd.func6 (by kernel_rfl) (by kernel_rfl) h
theorem Ju (l:TV) (st:St) (K:Int->Int->St->Prop) (h:CallT PR CO [l] [.one .tv,.one (.int .i64),.one (.int .i64)] st (fun (v1:TV) (n1 n2:Int) a=>K n1 n2 a)):CallT PR CY [l] [.one (.int .i64),.one (.int .i64)] st K:=
 Ag (cfg:=⟨[],[],[]⟩) (h:= .none) mixed (fun _ _=>Tryd.call7 _ _) Tryd.func7 (by kernel_rfl) (by kernel_rfl) h
theorem GW (v_0:Int) (v_1:Bool) (v_2:Bool) (v_3:B8) (v_4:Int) (v_5:Int) (v_6:Int) (v_7:Int) (v_8:Int) (v_9:B8) (v_10:TV) (v_11:TV) (v_12:TV) (st:St) (K:Bool->St->Prop) (h:CallT PR Bc [(.agg (cV v_0 v_1 v_2 v_3 v_4 v_5 v_6 v_7 v_8 v_9 v_10 v_11 v_12)),.int .i64 60,.int .i64 150,.int .i64 3000] [.one (.int .i64)] st (fun (n1:Int) a=>BId ((0:Int)<=n1) (CallT PR Bi [(.agg (cV v_0 v_1 v_2 v_3 v_4 v_5 v_6 v_7 v_8 v_9 v_10 v_11 v_12))] [.one (.int .i64)] a (fun (n2:Int) b=>K ((decide (n2<=20000))) b)) (K false a))):CallT PR Cw [(.agg (cV v_0 v_1 v_2 v_3 v_4 v_5 v_6 v_7 v_8 v_9 v_10 v_11 v_12))] [.one .bool] st K:=
 Ag (cfg:=⟨[1],[],[]⟩) (h:= .none) mixed (fun _ _=>Tryd.call8 _ _) Tryd.func8 (by kernel_rfl) (by kernel_rfl) h
theorem Ik (v_0:Int) (v_1:Bool) (v_2:Bool) (v_3:B8) (v_4:Int) (v_5:Int) (v_6:Int) (v_7:Int) (v_8:Int) (v_9:B8) (v_10:TV) (v_11:TV) (v_12:TV) (st:St) (K:TV->Int->St->Prop) (h:CallT PR AE [(.agg (cV v_0 v_1 v_2 v_3 v_4 v_5 v_6 v_7 v_8 v_9 v_10 v_11 v_12))] [.one (.int .i64)] st (fun (n1:Int) a=>BId (n1≠0) (K .nilSlice n1 a) (BId (v_0≠7) (K .nilSlice 6 a) (CallT PR BO [.nilSlice,(.agg (cV v_0 v_1 v_2 v_3 v_4 v_5 v_6 v_7 v_8 v_9 v_10 v_11 v_12)),.nilSlice] [.one .tv] a (fun (v1:TV) b=>K v1 0 b))))):CallT PR Do [(.agg (cV v_0 v_1 v_2 v_3 v_4 v_5 v_6 v_7 v_8 v_9 v_10 v_11 v_12))] [.one .tv,.one (.int .i64)] st K:=
 Ag (cfg:=⟨[1],[],[]⟩) (h:= .none) mixed (fun _ _=>Tryd.call9 _ _) Tryd.func9 (by kernel_rfl) (by kernel_rfl) h
theorem KN (v_0:Int) (v_1:Bool) (v_2:Bool) (v_3:B8) (v_4:Int) (v_5:Int) (v_6:Int) (v_7:Int) (v_8:Int) (v_9:B8) (v_10:TV) (v_11:TV) (v_12:TV) (st:St) (K:Int->St->Prop) (h:stB (st.push (.cells [.int .i64 0]) (some 3)) (.box st.nb 0) [.int .i64 0] (fun b=>CallT PR CN [(.agg (cV v_0 v_1 v_2 v_3 v_4 v_5 v_6 v_7 v_8 v_9 v_10 v_11 v_12)),.int .i64 1,(.box st.nb 0)] [.one (.int .i64)] b (fun (n1:Int) a=>K n1 a))):CallT PR AE [(.agg (cV v_0 v_1 v_2 v_3 v_4 v_5 v_6 v_7 v_8 v_9 v_10 v_11 v_12))] [.one (.int .i64)] st K:=
 Ag (cfg:=⟨[1],[],[]⟩) (h:= .none) mixed (fun _ _=>Tryd.call10 _ _) Tryd.func10 (by kernel_rfl) (by kernel_rfl) h
theorem FU (l:TV) (st:St) (K:V13 (Int->Int->St->Prop)) (h:CallT PR CO [l] [.one .tv,.one (.int .i64),.one (.int .i64)] st (fun (v1:TV) (n1 n2:Int) a=>BId (n2≠0) (K 0 false false [] 0 0 0 0 0 [] .nilSlice .nilSlice .nilSlice n1 n2 a) (need (isPtr v1) (need (isPtr v1) (Ar (Ac a [] (.t (AV v1 0)) 0) (fun (v2:TV)=>CallT PR Am [v1,v2] [sV] a (fun (n3:Int) (b1 b2:Bool) (s1:B8) (n4 n5 n6 n7 n8:Int) (s2:B8) (v3 v4 v5:TV) g=>CallT PR Df [(.agg (cV n3 b1 b2 s1 n4 n5 n6 n7 n8 s2 v3 v4 v5))] [sV] g (fun (n9:Int) (b3 b4:Bool) (s3:B8) (e f d c b:Int) (s4:B8) (v6 v7 v8:TV) i=>need (List.all (cV n9 b3 b4 s3 e f d c b s4 v6 v7 v8) At) (K n9 b3 b4 s3 e f d c b s4 v6 v7 v8 0 0 i))))))))):CallT PR Cc [l] [sV,.one (.int .i64),.one (.int .i64)] st K:=
 Ag (cfg:=⟨[2],[],[]⟩) (h:= .none) mixed (fun _ _=>Tryd.call11 _ _) Tryd.func11 (by kernel_rfl) (by kernel_rfl) h
theorem KL (a_0:Int) (a_1:Bool) (a_2:Bool) (a_3:B8) (a_4:Int) (a_5:Int) (a_6:Int) (a_7:Int) (a_8:Int) (a_9:B8) (a_10:TV) (a_11:TV) (a_12:TV) (b_0:Int) (b_1:Bool) (b_2:Bool) (b_3:B8) (b_4:Int) (b_5:Int) (b_6:Int) (b_7:Int) (b_8:Int) (b_9:B8) (b_10:TV) (b_11:TV) (b_12:TV) (st:St) (K:Bool->St->Prop) (h:CallT PR DX [(.agg (cV a_0 a_1 a_2 a_3 a_4 a_5 a_6 a_7 a_8 a_9 a_10 a_11 a_12)),(.agg (cV b_0 b_1 b_2 b_3 b_4 b_5 b_6 b_7 b_8 b_9 b_10 b_11 b_12)),.bool false,.int .i64 65536] [.one .bool] st (fun (b1:Bool) a=>K b1 a)):CallT PR EZ [(.agg (cV a_0 a_1 a_2 a_3 a_4 a_5 a_6 a_7 a_8 a_9 a_10 a_11 a_12)),(.agg (cV b_0 b_1 b_2 b_3 b_4 b_5 b_6 b_7 b_8 b_9 b_10 b_11 b_12))] [.one .bool] st K:=
 Ag (cfg:=⟨[2,3],[],[]⟩) (h:= .none) mixed (fun _ _=>Tryd.call12 _ _) Tryd.func12 (by kernel_rfl) (by kernel_rfl) h
theorem GX (keys:TV) (st:St) (K:Bool->Bool->TV->V13 (St->Prop)) (h:CallT PR DD [] [sV] st (fun (n1:Int) (b1 b2:Bool) (s1:B8) (n2 n3 n4 n5 n6:Int) (s2:B8) (v1 v2 v3:TV) a=>need (List.all [keys] At) (need (List.all [.bool false,.bool false,keys,.int .i64 n1,.bool b1,.bool b2,.str s1,.int .i64 n2,.int .i64 n3,.int .i64 n4,.int .i64 n5,.int .i64 n6,.str s2,v1,v2,v3] At) (K false false keys n1 b1 b2 s1 n2 n3 n4 n5 n6 s2 v1 v2 v3 a)))):CallT PR AW [keys] [.agg [.bool,.bool,.tv,.int .i64,.bool,.bool,.str,.int .i64,.int .i64,.int .i64,.int .i64,.int .i64,.str,.tv,.tv,.tv]] st K:=
 Ag (cfg:=⟨[2],[],[]⟩) (h:= .none) mixed (fun _ _=>Tryd.call13 _ _) Tryd.func13 (by kernel_rfl) (by kernel_rfl) h
theorem G2 (l:TV) (st:St) (K:TV->Int->Int->St->Prop) (h:CallT PR Cv [] [.one .tv] st (fun (v1:TV) g=>need (isSl l) (∃(I1:Int->TV->TV->Int->St->Prop) (M1:Int->TV->TV->Int->St->Nat),(I1 0 v1 l ((lenS l:Int)) g)/\∀a c b e d,I1 a c b e d->(BId (a<e) (((0<=a/\a<(lenZ 16 b:Int))/\Ar ((Aj d [] (.t (ixT 16 b a.toNat)) 0 16).map TV.agg) (fun (x1:TV)=>BF [.bool,.bool,.tv,.int .i64,.bool,.bool,.str,.int .i64,.int .i64,.int .i64,.int .i64,.int .i64,.str,.tv,.tv,.tv] x1 (fun (b1 b2:Bool) (v2:TV) (n1:Int) (b3 b4:Bool) (s1:B8) (n2 n3 n4 n5 n6:Int) (s2:B8) (v3 v4 v5:TV)=>need (List.all [.bool b1,.bool b2,v2,.int .i64 n1,.bool b3,.bool b4,.str s1,.int .i64 n2,.int .i64 n3,.int .i64 n4,.int .i64 n5,.int .i64 n6,.str s2,v3,v4,v5] At) (CallT PR BV [c,(.agg [.bool b1,.bool b2,v2,.int .i64 n1,.bool b3,.bool b4,.str s1,.int .i64 n2,.int .i64 n3,.int .i64 n4,.int .i64 n5,.int .i64 n6,.str s2,v3,v4,v5]),.int .i64 a] [.one (.int .i64)] d (fun (n7:Int) f=>BId (n7≠0) (K .nilPtr a n7 f) ((I1 ((i64.wrap (a+(1:Int)))) c b e f/\M1 ((i64.wrap (a+(1:Int)))) c b e f<M1 a c b e d)))))))) (K c 0 0 d))))):CallT PR CO [l] [.one .tv,.one (.int .i64),.one (.int .i64)] st K:=
 Ag (cfg:=⟨[7],[],[]⟩) (h:=(.seq .none (.seq .none (.seq (.seq .none (.block (.loop ⟨[(12,.int .i64),(5,.tv),(10,.tv),(11,.int .i64)],[],[],[]⟩ .none))) .none)))) mixed (fun _ _=>Tryd.call14 _ _) Tryd.func14 (by kernel_rfl) (by kernel_rfl) h
theorem G3 (v_0:Int) (v_1:Bool) (v_2:Bool) (v_3:B8) (v_4:Int) (v_5:Int) (v_6:Int) (v_7:Int) (v_8:Int) (v_9:B8) (v_10:TV) (v_11:TV) (v_12:TV) (depth:Int) (n:Int) (bytes:Int) (st:St) (K:Int->St->Prop) (h:BId (depth<1) (K (-1) st) (BId (n<1) (K (-1) st) (BId (bytes<(v_9.length:Int)) (K (-1) st) (need (isSl v_10) (BId (bytes<(lenS v_10:Int)) (K (-1) st) (BId (bytes<(v_3.length:Int)) (K (-1) st) (need (isSl v_11) (BId (n<(lenS v_11:Int)) (K (-1) st) (need (isSl v_12) (BId (n<(lenS v_12:Int)) (K (-1) st) (∃(I1:Int->Int->Int->Int->V13 (St->Prop)) (M1:Int->Int->Int->Int->V13 (St->Nat)),(I1 ((i64.wrap (n-(1:Int)))) 0 depth bytes v_0 v_1 v_2 v_3 v_4 v_5 v_6 v_7 v_8 v_9 v_10 v_11 v_12 st)/\∀p m b a n1 b1 b2 s1 n2 n3 n4 n5 n6 s2 v1 v2 v3 q,I1 p m b a n1 b1 b2 s1 n2 n3 n4 n5 n6 s2 v1 v2 v3 q->(need (isSl v2) (BId (m<(lenS v2:Int)) (BId ((0:Int)<=p) (((0<=m/\m<(lenZ 13 v2:Int))/\Ar ((Aj q [] (.t (ixT 13 v2 m.toNat)) 0 13).map TV.agg) (fun (x1:TV)=>BF [.int .i64,.bool,.bool,.str,.int .i64,.int .i64,.int .i64,.int .i64,.int .i64,.str,.tv,.tv,.tv] x1 (fun (n7:Int) (b3 b4:Bool) (s3:B8) (n8 n9 e7 e3 d5:Int) (s4:B8) (v4 v5 v6:TV)=>CallT PR Bc [(.agg (cV n7 b3 b4 s3 n8 n9 e7 e3 d5 s4 v4 v5 v6)),(.int .i64 (i64.wrap (b-(1:Int)))),.int .i64 p,.int .i64 a] [.one (.int .i64)] q (fun (b0:Int) c2=>(I1 b0 ((i64.wrap (m+(1:Int)))) b a n1 b1 b2 s1 n2 n3 n4 n5 n6 s2 v1 v2 v3 c2/\M1 b0 ((i64.wrap (m+(1:Int)))) b a n1 b1 b2 s1 n2 n3 n4 n5 n6 s2 v1 v2 v3 c2<M1 p m b a n1 b1 b2 s1 n2 n3 n4 n5 n6 s2 v1 v2 v3 q)))))) (∃(I2:Int->Int->Int->Int->V13 (St->Prop)) (M2:Int->Int->Int->Int->V13 (St->Nat)),(I2 p 0 b a n1 b1 b2 s1 n2 n3 n4 n5 n6 s2 v1 v2 v3 q)/\∀o e f d a0 b5 b6 s5 a1 a5 z y a2 s6 v7 v8 v9 l,I2 o e f d a0 b5 b6 s5 a1 a5 z y a2 s6 v7 v8 v9 l->(need (isSl v9) (BId (e<(lenS v9:Int)) (BId ((0:Int)<=o) (((0<=e/\e<(lenZ 14 v9:Int))/\need (isPtr (ixT 14 v9 e.toNat)) (Ar (Ac l [] (.t (AV (ixT 14 v9 e.toNat) 0)) 0) (fun (x2:TV)=>Bj .str x2 (fun (s7:B8)=>BId (d<(s7.length:Int)) (K (-1) l) (((0<=e/\e<(lenZ 14 v9:Int))/\need (isPtr (ixT 14 v9 e.toNat)) (Ar ((Aj l [] (.t (AV (ixT 14 v9 e.toNat) 1)) 0 13).map TV.agg) (fun (x3:TV)=>BF [.int .i64,.bool,.bool,.str,.int .i64,.int .i64,.int .i64,.int .i64,.int .i64,.str,.tv,.tv,.tv] x3 (fun (c6:Int) (b7 b8:Bool) (s8:B8) (d2 c8 d9 e0 c7:Int) (s9:B8) (d1 d8 d4:TV)=>CallT PR Bc [(.agg (cV c6 b7 b8 s8 d2 c8 d9 e0 c7 s9 d1 d8 d4)),(.int .i64 (i64.wrap (f-(1:Int)))),.int .i64 o,.int .i64 d] [.one (.int .i64)] l (fun (c4:Int) c0=>(I2 c4 ((i64.wrap (e+(1:Int)))) f d a0 b5 b6 s5 a1 a5 z y a2 s6 v7 v8 v9 c0/\M2 c4 ((i64.wrap (e+(1:Int)))) f d a0 b5 b6 s5 a1 a5 z y a2 s6 v7 v8 v9 c0<M2 o e f d a0 b5 b6 s5 a1 a5 z y a2 s6 v7 v8 v9 l)))))))))))) (K o l)) (K o l))))) (∃(I3:Int->Int->Int->Int->V13 (St->Prop)) (M3:Int->Int->Int->Int->V13 (St->Nat)),(I3 p 0 b a n1 b1 b2 s1 n2 n3 n4 n5 n6 s2 v1 v2 v3 q)/\∀r g i c a9 b9 w a4 a7 u a8 v a3 x a6 s j k,I3 r g i c a9 b9 w a4 a7 u a8 v a3 x a6 s j k->(need (isSl j) (BId (g<(lenS j:Int)) (BId ((0:Int)<=r) (((0<=g/\g<(lenZ 14 j:Int))/\need (isPtr (ixT 14 j g.toNat)) (Ar (Ac k [] (.t (AV (ixT 14 j g.toNat) 0)) 0) (fun (x4:TV)=>Bj .str x4 (fun (e8:B8)=>BId (c<(e8.length:Int)) (K (-1) k) (((0<=g/\g<(lenZ 14 j:Int))/\need (isPtr (ixT 14 j g.toNat)) (Ar ((Aj k [] (.t (AV (ixT 14 j g.toNat) 1)) 0 13).map TV.agg) (fun (x5:TV)=>BF [.int .i64,.bool,.bool,.str,.int .i64,.int .i64,.int .i64,.int .i64,.int .i64,.str,.tv,.tv,.tv] x5 (fun (e6:Int) (f0 e2:Bool) (e1:B8) (d7 c9 d6 e5 d0:Int) (e4:B8) (e9 c5 d3:TV)=>CallT PR Bc [(.agg (cV e6 f0 e2 e1 d7 c9 d6 e5 d0 e4 e9 c5 d3)),(.int .i64 (i64.wrap (i-(1:Int)))),.int .i64 r,.int .i64 c] [.one (.int .i64)] k (fun (c3:Int) c1=>(I3 c3 ((i64.wrap (g+(1:Int)))) i c a9 b9 w a4 a7 u a8 v a3 x a6 s j c1/\M3 c3 ((i64.wrap (g+(1:Int)))) i c a9 b9 w a4 a7 u a8 v a3 x a6 s j c1<M3 r g i c a9 b9 w a4 a7 u a8 v a3 x a6 s j k)))))))))))) (K r k)) (K r k))))))))))))))))):CallT PR Bc [(.agg (cV v_0 v_1 v_2 v_3 v_4 v_5 v_6 v_7 v_8 v_9 v_10 v_11 v_12)),.int .i64 depth,.int .i64 n,.int .i64 bytes] [.one (.int .i64)] st K:=
 Ag (cfg:=⟨[4],[],[]⟩) (h:=(.seq .none (.seq .none (.seq .none (.seq (.seq .none (.block (.loop ⟨[(2,.int .i64),(9,.int .i64),(1,.int .i64),(3,.int .i64)],[(4,0,0)],[(0,13)],[(0,0,.int .i64),(0,1,.bool),(0,2,.bool),(0,3,.str),(0,4,.int .i64),(0,5,.int .i64),(0,6,.int .i64),(0,7,.int .i64),(0,8,.int .i64),(0,9,.str),(0,10,.tv),(0,11,.tv),(0,12,.tv)]⟩ .none))) (.seq (.seq .none (.block (.loop ⟨[(2,.int .i64),(10,.int .i64),(1,.int .i64),(3,.int .i64)],[(4,0,0)],[(0,13)],[(0,0,.int .i64),(0,1,.bool),(0,2,.bool),(0,3,.str),(0,4,.int .i64),(0,5,.int .i64),(0,6,.int .i64),(0,7,.int .i64),(0,8,.int .i64),(0,9,.str),(0,10,.tv),(0,11,.tv),(0,12,.tv)]⟩ .none))) .none)))))) mixed (fun _ _=>Tryd.call15 _ _) Tryd.func15 (by kernel_rfl) (by kernel_rfl) h
theorem Gn (v_0:Int) (v_1:Bool) (v_2:Bool) (v_3:B8) (v_4:Int) (v_5:Int) (v_6:Int) (v_7:Int) (v_8:Int) (v_9:B8) (v_10:TV) (v_11:TV) (v_12:TV) (st:St) (K:Int->St->Prop) (h:need (isSl v_10) (∃(I1:Int->Int->V13 (St->Prop)) (M1:Int->Int->V13 (St->Nat)),(I1 ((i64.wrap ((i64.wrap ((v_9.length:Int)+(lenS v_10:Int)))+(v_3.length:Int)))) 0 v_0 v_1 v_2 v_3 v_4 v_5 v_6 v_7 v_8 v_9 v_10 v_11 v_12 st)/\∀e b n1 b1 b2 s1 n2 n3 n4 n5 n6 s2 v1 v2 v3 f,I1 e b n1 b1 b2 s1 n2 n3 n4 n5 n6 s2 v1 v2 v3 f->(need (isSl v2) (BId (b<(lenS v2:Int)) (((0<=b/\b<(lenZ 13 v2:Int))/\Ar ((Aj f [] (.t (ixT 13 v2 b.toNat)) 0 13).map TV.agg) (fun (x1:TV)=>BF [.int .i64,.bool,.bool,.str,.int .i64,.int .i64,.int .i64,.int .i64,.int .i64,.str,.tv,.tv,.tv] x1 (fun (n7:Int) (b3 b4:Bool) (s3:B8) (n8 n9 a3 a2 y:Int) (s4:B8) (v4 v5 v6:TV)=>CallT PR Bi [(.agg (cV n7 b3 b4 s3 n8 n9 a3 a2 y s4 v4 v5 v6))] [.one (.int .i64)] f (fun (o:Int) p=>(I1 ((i64.wrap (e+o))) ((i64.wrap (b+(1:Int)))) n1 b1 b2 s1 n2 n3 n4 n5 n6 s2 v1 v2 v3 p/\M1 ((i64.wrap (e+o))) ((i64.wrap (b+(1:Int)))) n1 b1 b2 s1 n2 n3 n4 n5 n6 s2 v1 v2 v3 p<M1 e b n1 b1 b2 s1 n2 n3 n4 n5 n6 s2 v1 v2 v3 f)))))) (∃(I2:Int->Int->V13 (St->Prop)) (M2:Int->Int->V13 (St->Nat)),(I2 e 0 n1 b1 b2 s1 n2 n3 n4 n5 n6 s2 v1 v2 v3 f)/\∀d a j b5 b6 s5 k m i g l s6 v7 v8 v9 c,I2 d a j b5 b6 s5 k m i g l s6 v7 v8 v9 c->(need (isSl v9) (BId (a<(lenS v9:Int)) (((0<=a/\a<(lenZ 14 v9:Int))/\need (isPtr (ixT 14 v9 a.toNat)) (Ar (Ac c [] (.t (AV (ixT 14 v9 a.toNat) 0)) 0) (fun (x2:TV)=>Bj .str x2 (fun (s7:B8)=>((0<=a/\a<(lenZ 14 v9:Int))/\need (isPtr (ixT 14 v9 a.toNat)) (Ar ((Aj c [] (.t (AV (ixT 14 v9 a.toNat) 1)) 0 13).map TV.agg) (fun (x3:TV)=>BF [.int .i64,.bool,.bool,.str,.int .i64,.int .i64,.int .i64,.int .i64,.int .i64,.str,.tv,.tv,.tv] x3 (fun (r:Int) (b7 b8:Bool) (s8:B8) (w u a0 a1 s:Int) (s9:B8) (v z x:TV)=>CallT PR Bi [(.agg (cV r b7 b8 s8 w u a0 a1 s s9 v z x))] [.one (.int .i64)] c (fun (q:Int) n=>(Ac n [] (.t (AV (ixT 14 v9 a.toNat) 0)) 0=some (.str s7)/\(I2 ((i64.wrap ((i64.wrap (d+(s7.length:Int)))+q))) ((i64.wrap (a+(1:Int)))) j b5 b6 s5 k m i g l s6 v7 v8 v9 n/\M2 ((i64.wrap ((i64.wrap (d+(s7.length:Int)))+q))) ((i64.wrap (a+(1:Int)))) j b5 b6 s5 k m i g l s6 v7 v8 v9 n<M2 d a j b5 b6 s5 k m i g l s6 v7 v8 v9 c)))))))))))) (K d c)))))))):CallT PR Bi [(.agg (cV v_0 v_1 v_2 v_3 v_4 v_5 v_6 v_7 v_8 v_9 v_10 v_11 v_12))] [.one (.int .i64)] st K:=
 Ag (cfg:=⟨[1],[],[46,54]⟩) (h:=(.seq .none (.seq .none (.seq (.seq .none (.block (.loop ⟨[(3,.int .i64),(4,.int .i64)],[(1,0,0)],[(0,13)],[(0,0,.int .i64),(0,1,.bool),(0,2,.bool),(0,3,.str),(0,4,.int .i64),(0,5,.int .i64),(0,6,.int .i64),(0,7,.int .i64),(0,8,.int .i64),(0,9,.str),(0,10,.tv),(0,11,.tv),(0,12,.tv)]⟩ .none))) (.seq (.seq .none (.block (.loop ⟨[(3,.int .i64),(5,.int .i64)],[(1,0,0)],[(0,13)],[(0,0,.int .i64),(0,1,.bool),(0,2,.bool),(0,3,.str),(0,4,.int .i64),(0,5,.int .i64),(0,6,.int .i64),(0,7,.int .i64),(0,8,.int .i64),(0,9,.str),(0,10,.tv),(0,11,.tv),(0,12,.tv)]⟩ .none))) .none))))) mixed (fun _ _=>Tryd.call16 _ _) Tryd.func16 (by kernel_rfl) (by kernel_rfl) h
theorem Ij (out:TV) (v_0:Int) (e:Bool) (f:Bool) (q:B8) (n:Int) (v_5:Int) (v_6:Int) (v_7:Int) (v_8:Int) (v_9:B8) (v_10:TV) (v_11:TV) (v_12:TV) (keys:TV) (st:St) (K:TV->St->Prop) (h:need (isSl v_12) (∃(I1:TV->Int->TV->TV->Int->V13 (St->Prop)) (M1:TV->Int->TV->TV->Int->V13 (St->Nat)),(I1 out 0 keys v_12 ((lenS v_12:Int)) v_0 e f q n v_5 v_6 v_7 v_8 v_9 v_10 v_11 v_12 st)/\∀c g a e k n1 b1 b2 s1 n2 n3 n4 n5 n6 s2 v1 v2 v3 p,I1 c g a e k n1 b1 b2 s1 n2 n3 n4 n5 n6 s2 v1 v2 v3 p->(BId (g<k) (((0<=g/\g<(lenZ 14 e:Int))/\Ar ((Aj p [] (.t (ixT 14 e g.toNat)) 0 14).map TV.agg) (fun (x1:TV)=>BF [.str,.int .i64,.bool,.bool,.str,.int .i64,.int .i64,.int .i64,.int .i64,.int .i64,.str,.tv,.tv,.tv] x1 (fun (s3:B8) (n7:Int) (b3 b4:Bool) (s4:B8) (n8 n9 c3 c0 a4:Int) (s5:B8) (v4 v5 v6:TV)=>need (List.all [.str s3,.int .i64 n7,.bool b3,.bool b4,.str s4,.int .i64 n8,.int .i64 n9,.int .i64 c3,.int .i64 c0,.int .i64 a4,.str s5,v4,v5,v6] At) (BId (n7≠7) (CallT PR Dj [(.agg (cV n7 b3 b4 s4 n8 n9 c3 c0 a4 s5 v4 v5 v6))] [.one .bool] p (fun (b5:Bool) a5=>BIf (!b5) (CallT PR Df [(.agg (cV n7 b3 b4 s4 n8 n9 c3 c0 a4 s5 v4 v5 v6))] [sV] a5 (fun (c7:Int) (b6 b7:Bool) (s6:B8) (d9 e1 e4 d8 d7:Int) (s7:B8) (v7 v8 v9:TV) f9=>need (List.all [.bool false,.bool false,(.list 1 .full 1 [.str s3]),.int .i64 c7,.bool b6,.bool b7,.str s6,.int .i64 d9,.int .i64 e1,.int .i64 e4,.int .i64 d8,.int .i64 d7,.str s7,v7,v8,v9] At) (Cx 39 16 200 c 1 [.bool false,.bool false,(.list 1 .full 1 [.str s3]),.int .i64 c7,.bool b6,.bool b7,.str s6,.int .i64 d9,.int .i64 e1,.int .i64 e4,.int .i64 d8,.int .i64 d7,.str s7,v7,v8,v9] f9 (fun (d3:TV) c9=>(I1 d3 ((i64.wrap (g+(1:Int)))) a e k n1 b1 b2 s1 n2 n3 n4 n5 n6 s2 v1 v2 v3 c9/\M1 d3 ((i64.wrap (g+(1:Int)))) a e k n1 b1 b2 s1 n2 n3 n4 n5 n6 s2 v1 v2 v3 c9<M1 c g a e k n1 b1 b2 s1 n2 n3 n4 n5 n6 s2 v1 v2 v3 p))))) ((I1 c ((i64.wrap (g+(1:Int)))) a e k n1 b1 b2 s1 n2 n3 n4 n5 n6 s2 v1 v2 v3 a5/\M1 c ((i64.wrap (g+(1:Int)))) a e k n1 b1 b2 s1 n2 n3 n4 n5 n6 s2 v1 v2 v3 a5<M1 c g a e k n1 b1 b2 s1 n2 n3 n4 n5 n6 s2 v1 v2 v3 p)))) ((I1 c ((i64.wrap (g+(1:Int)))) a e k n1 b1 b2 s1 n2 n3 n4 n5 n6 s2 v1 v2 v3 p/\M1 c ((i64.wrap (g+(1:Int)))) a e k n1 b1 b2 s1 n2 n3 n4 n5 n6 s2 v1 v2 v3 p<M1 c g a e k n1 b1 b2 s1 n2 n3 n4 n5 n6 s2 v1 v2 v3 p))))))) (need (isSl v3) (∃(I2:TV->Int->TV->TV->Int->St->Prop) (M2:TV->Int->TV->TV->Int->St->Nat),(I2 c 0 a v3 ((lenS v3:Int)) p)/\∀d i b f m u,I2 d i b f m u->(BId (i<m) (((0<=i/\i<(lenZ 14 f:Int))/\Ar ((Aj u [] (.t (ixT 14 f i.toNat)) 0 14).map TV.agg) (fun (x2:TV)=>BF [.str,.int .i64,.bool,.bool,.str,.int .i64,.int .i64,.int .i64,.int .i64,.int .i64,.str,.tv,.tv,.tv] x2 (fun (s8:B8) (a0:Int) (b8 b9:Bool) (s9:B8) (a1 a3 a2 a9 b0:Int) (c1:B8) (a8 x c2:TV)=>need (List.all [.str s8,.int .i64 a0,.bool b8,.bool b9,.str s9,.int .i64 a1,.int .i64 a3,.int .i64 a2,.int .i64 a9,.int .i64 b0,.str c1,a8,x,c2] At) (CallT PR AR [b] [.one .tv] u (fun (f4:TV) f8=>Cx 9 1 16 f4 1 [.str s8] f8 (fun (c5:TV) e6=>BId (a0=7) (CallT PR AR [c5] [.one .tv] e6 (fun (c4:TV) f5=>need (List.all [c4] At) (need (List.all [.bool true,.bool false,c4,.int .i64 0,.bool false,.bool false,(.str []),.int .i64 0,.int .i64 0,.int .i64 0,.int .i64 0,.int .i64 0,(.str []),.nilSlice,.nilSlice,.nilSlice] At) (Cx 39 16 200 d 1 [.bool true,.bool false,c4,.int .i64 0,.bool false,.bool false,(.str []),.int .i64 0,.int .i64 0,.int .i64 0,.int .i64 0,.int .i64 0,(.str []),.nilSlice,.nilSlice,.nilSlice] f5 (fun (f3:TV) f7=>CallT PR BO [f3,(.agg (cV a0 b8 b9 s9 a1 a3 a2 a9 b0 c1 a8 x c2)),c5] [.one .tv] f7 (fun (d4:TV) c6=>(I2 d4 ((i64.wrap (i+(1:Int)))) b f m c6/\M2 d4 ((i64.wrap (i+(1:Int)))) b f m c6<M2 d i b f m u))))))) (CallT PR Dj [(.agg (cV a0 b8 b9 s9 a1 a3 a2 a9 b0 c1 a8 x c2))] [.one .bool] e6 (fun (f6:Bool) z=>BIf f6 (need (isSl x) (∃(I3:TV->Int->TV->TV->TV->Int->Int->TV->Int->St->Prop) (M3:TV->Int->TV->TV->TV->Int->Int->TV->Int->St->Nat),(I3 d 0 b c5 f m i x ((lenS x:Int)) z)/\∀o s j l q w v n y r,I3 o s j l q w v n y r->(BId (s<y) (((0<=s/\s<(lenZ 13 n:Int))/\Ar ((Aj r [] (.t (ixT 13 n s.toNat)) 0 13).map TV.agg) (fun (x3:TV)=>BF [.int .i64,.bool,.bool,.str,.int .i64,.int .i64,.int .i64,.int .i64,.int .i64,.str,.tv,.tv,.tv] x3 (fun (d0:Int) (f0 e3:Bool) (d5:B8) (e2 e8 e7 d2 e5:Int) (e9:B8) (c8 d6 e0:TV)=>need (List.all (cV d0 f0 e3 d5 e2 e8 e7 d2 e5 e9 c8 d6 e0) At) (CallT PR AR [l] [.one .tv] r (fun (a7:TV) f2=>need (List.all [a7] At) (need (List.all [.bool true,.bool true,a7,.int .i64 0,.bool false,.bool false,(.str []),.int .i64 0,.int .i64 0,.int .i64 0,.int .i64 0,.int .i64 0,(.str []),.nilSlice,.nilSlice,.nilSlice] At) (Cx 39 16 200 o 1 [.bool true,.bool true,a7,.int .i64 0,.bool false,.bool false,(.str []),.int .i64 0,.int .i64 0,.int .i64 0,.int .i64 0,.int .i64 0,(.str []),.nilSlice,.nilSlice,.nilSlice] f2 (fun (g0:TV) f1=>CallT PR BO [g0,(.agg (cV d0 f0 e3 d5 e2 e8 e7 d2 e5 e9 c8 d6 e0)),l] [.one .tv] f1 (fun (d1:TV) a6=>(I3 d1 ((i64.wrap (s+(1:Int)))) j l q w v n y a6/\M3 d1 ((i64.wrap (s+(1:Int)))) j l q w v n y a6<M3 o s j l q w v n y r))))))))))) ((I2 o ((i64.wrap (v+(1:Int)))) j q w r/\M2 o ((i64.wrap (v+(1:Int)))) j q w r<M2 d i b f m u))))) ((I2 d ((i64.wrap (i+(1:Int)))) b f m z/\M2 d ((i64.wrap (i+(1:Int)))) b f m z<M2 d i b f m u))))))))))) (K d u))))))):CallT PR BO [out,(.agg (cV v_0 e f q n v_5 v_6 v_7 v_8 v_9 v_10 v_11 v_12)),keys] [.one .tv] st K:=
 Ag (cfg:=⟨[4,8,10,13],[],[]⟩) (h:=(.seq .none (.seq (.seq .none (.block (.loop ⟨[(0,.tv),(17,.int .i64),(2,.tv),(15,.tv),(16,.int .i64)],[(4,0,0)],[(0,13)],[(0,0,.int .i64),(0,1,.bool),(0,2,.bool),(0,3,.str),(0,4,.int .i64),(0,5,.int .i64),(0,6,.int .i64),(0,7,.int .i64),(0,8,.int .i64),(0,9,.str),(0,10,.tv),(0,11,.tv),(0,12,.tv)]⟩ .none))) (.seq (.seq .none (.block (.loop ⟨[(0,.tv),(45,.int .i64),(2,.tv),(43,.tv),(44,.int .i64)],[],[],[]⟩ (.seq .none (.seq .none (.seq (.block (.seq .none (.seq .none (.seq .none (.cond .none (.seq .none (.cond (.seq .none (.block (.loop ⟨[(0,.tv),(77,.int .i64),(2,.tv),(11,.tv),(43,.tv),(44,.int .i64),(45,.int .i64),(75,.tv),(76,.int .i64)],[],[],[]⟩ .none))) .none))))))) .none)))))) .none)))) mixed (fun _ _=>Tryd.call17 _ _) Tryd.func17 (by kernel_rfl) (by kernel_rfl) h
theorem KK (v_0:Int) (d:Bool) (e:Bool) (v_3:B8) (v_4:Int) (v_5:Int) (v_6:Int) (v_7:Int) (v_8:Int) (v_9:B8) (v_10:TV) (v_11:TV) (v_12:TV) (depth:Int) (n:Nat) (st:St) (K:Int->St->Prop) (h:Ar (Ac st [] (.t (.box n 0)) 0) (fun (x1:TV)=>Bj (.int .i64) x1 (fun (n1:Int)=>stB st (.box n 0) [(.int .i64 (i64.wrap (n1+(1:Int))))] (fun q=>∃(C1:Int->TV->V13 (St->Prop)),(BId ((48:Int)<depth) (K 9 q) (Ar (Ac q [] (.t (.box n 0)) 0) (fun (x2:TV)=>Bj (.int .i64) x2 (fun (n2:Int)=>BId ((65536:Int)<n2) (K 10 q) (∃(C2:Bool->Int->TV->V13 (St->Prop)),(BId (v_0<0) (C2 true depth ((.box n 0)) v_0 d e v_3 v_4 v_5 v_6 v_7 v_8 v_9 v_10 v_11 v_12 q) (BId ((8:Int)<=v_0) (C2 true depth ((.box n 0)) v_0 d e v_3 v_4 v_5 v_6 v_7 v_8 v_9 v_10 v_11 v_12 q) (CallT PR EY [(.agg (cV v_0 d e v_3 v_4 v_5 v_6 v_7 v_8 v_9 v_10 v_11 v_12))] [.one .bool] q (fun (b1:Bool) h0=>C2 b1 depth ((.box n 0)) v_0 d e v_3 v_4 v_5 v_6 v_7 v_8 v_9 v_10 v_11 v_12 h0))))/\∀d1 a m n3 b2 b3 s1 n4 n5 n6 n7 n8 s2 v1 v2 v3 v,C2 d1 a m n3 b2 b3 s1 n4 n5 n6 n7 n8 s2 v1 v2 v3 v->(BIf d1 (K 6 v) (∃(C3:Bool->Int->TV->V13 (St->Prop)),(BId (n3=2) (CallT PR DS [(.agg [.bool b3,.str s1,.int .i64 n4])] [.one .bool] v (fun (b4:Bool) c0=>BIf (!b4) (C3 true a m n3 b2 b3 s1 n4 n5 n6 n7 n8 s2 v1 v2 v3 c0) (BId (n3=3) (CallT PR Dk [(.agg [.int .i64 n5,.int .i64 n6,.int .i64 n7,.int .i64 n8])] [.one .bool] c0 (fun (b5:Bool) g8=>C3 ((!b5)) a m n3 b2 b3 s1 n4 n5 n6 n7 n8 s2 v1 v2 v3 g8)) (C3 false a m n3 b2 b3 s1 n4 n5 n6 n7 n8 s2 v1 v2 v3 c0)))) (BId (n3=3) (CallT PR Dk [(.agg [.int .i64 n5,.int .i64 n6,.int .i64 n7,.int .i64 n8])] [.one .bool] v (fun (b6:Bool) g7=>C3 ((!b6)) a m n3 b2 b3 s1 n4 n5 n6 n7 n8 s2 v1 v2 v3 g7)) (C3 false a m n3 b2 b3 s1 n4 n5 n6 n7 n8 s2 v1 v2 v3 v)))/\∀e3 f c5 n9 b7 b8 s3 c2 c1 c3 b0 c6 s4 v4 v5 v6 o,C3 e3 f c5 n9 b7 b8 s3 c2 c1 c3 b0 c6 s4 v4 v5 v6 o->(BIf e3 (K 2 o) (BId (n9=4) (CallT PR EF [.str s4] [.one .bool] o (fun (b9:Bool) a5=>BIf (!b9) (K 5 a5) (BId ((65536:Int)<(s4.length:Int)) (K 10 a5) (need (isSl v4) (BId ((65536:Int)<(lenS v4:Int)) (K 10 a5) (C1 f c5 n9 b7 b8 s3 c2 c1 c3 b0 c6 s4 v4 v5 v6 a5)))))) (BId ((65536:Int)<(s4.length:Int)) (K 10 o) (need (isSl v4) (BId ((65536:Int)<(lenS v4:Int)) (K 10 o) (C1 f c5 n9 b7 b8 s3 c2 c1 c3 b0 c6 s4 v4 v5 v6 o)))))))))))))/\∀p g5 e0 f4 f1 s5 e1 d2 d9 e9 d5 s6 v7 v8 v9 d6,C1 p g5 e0 f4 f1 s5 e1 d2 d9 e9 d5 s6 v7 v8 v9 d6->(CallT PR FJ [v9] [.one (.int .i64)] d6 (fun (d7:Int) c4=>BId (d7≠0) (K d7 c4) (need (isSl v8) (∃(I1:Int->Int->TV->TV->Int->V13 (St->Prop)) (M1:Int->Int->TV->TV->Int->V13 (St->Nat)),(I1 0 p g5 v8 ((lenS v8:Int)) e0 f4 f1 s5 e1 d2 d9 e9 d5 s6 v7 v8 v9 c4)/\∀i b r d u a3 a8 z s7 a0 a2 a4 a1 a9 s8 a6 a7 k l,I1 i b r d u a3 a8 z s7 a0 a2 a4 a1 a9 s8 a6 a7 k l->(BId (i<u) (((0<=i/\i<(lenZ 13 d:Int))/\Ar ((Aj l [] (.t (ixT 13 d i.toNat)) 0 13).map TV.agg) (fun (x3:TV)=>BF [.int .i64,.bool,.bool,.str,.int .i64,.int .i64,.int .i64,.int .i64,.int .i64,.str,.tv,.tv,.tv] x3 (fun (f0:Int) (e5 f6:Bool) (s9:B8) (e6 e2 d0 f9 g2:Int) (d4:B8) (g0 c8 g6:TV)=>need (List.all (cV f0 e5 f6 s9 e6 e2 d0 f9 g2 d4 g0 c8 g6) At) (CallT PR CN [(.agg (cV f0 e5 f6 s9 e6 e2 d0 f9 g2 d4 g0 c8 g6)),(.int .i64 (i64.wrap (b+(1:Int)))),r] [.one (.int .i64)] l (fun (d3:Int) x=>BId (d3≠0) (K d3 x) ((I1 ((i64.wrap (i+(1:Int)))) b r d u a3 a8 z s7 a0 a2 a4 a1 a9 s8 a6 a7 k x/\M1 ((i64.wrap (i+(1:Int)))) b r d u a3 a8 z s7 a0 a2 a4 a1 a9 s8 a6 a7 k x<M1 i b r d u a3 a8 z s7 a0 a2 a4 a1 a9 s8 a6 a7 k l)))))))) (need (isSl k) (∃(I2:Int->Int->TV->TV->Int->St->Prop) (M2:Int->Int->TV->TV->Int->St->Nat),(I2 0 b r k ((lenS k:Int)) l)/\∀g c w e s j,I2 g c w e s j->(BId (g<s) (((0<=g/\g<(lenZ 14 e:Int))/\Ar ((Aj j [] (.t (ixT 14 e g.toNat)) 0 14).map TV.agg) (fun (x4:TV)=>BF [.str,.int .i64,.bool,.bool,.str,.int .i64,.int .i64,.int .i64,.int .i64,.int .i64,.str,.tv,.tv,.tv] x4 (fun (g9:B8) (f2:Int) (f5 f3:Bool) (g3:B8) (f7 g1 c9 f8 e7:Int) (e8:B8) (g4 e4 d8:TV)=>need (List.all [.str g9,.int .i64 f2,.bool f5,.bool f3,.str g3,.int .i64 f7,.int .i64 g1,.int .i64 c9,.int .i64 f8,.int .i64 e7,.str e8,g4,e4,d8] At) (CallT PR CN [(.agg (cV f2 f5 f3 g3 f7 g1 c9 f8 e7 e8 g4 e4 d8)),(.int .i64 (i64.wrap (c+(1:Int)))),w] [.one (.int .i64)] j (fun (c7:Int) y=>BId (c7≠0) (K c7 y) ((I2 ((i64.wrap (g+(1:Int)))) c w e s y/\M2 ((i64.wrap (g+(1:Int)))) c w e s y<M2 g c w e s j)))))))) (K 0 j))))))))))))):CallT PR CN [(.agg (cV v_0 d e v_3 v_4 v_5 v_6 v_7 v_8 v_9 v_10 v_11 v_12)),.int .i64 depth,(.box n 0)] [.one (.int .i64)] st K:=
 Ag (cfg:=⟨[3,9,12],[],[]⟩) (h:=(.seq .none (.seq .none (.cut ⟨[(1,.int .i64),(2,.tv)],[(3,0,0)],[(0,13)],[(0,0,.int .i64),(0,1,.bool),(0,2,.bool),(0,3,.str),(0,4,.int .i64),(0,5,.int .i64),(0,6,.int .i64),(0,7,.int .i64),(0,8,.int .i64),(0,9,.str),(0,10,.tv),(0,11,.tv),(0,12,.tv)]⟩ (.block (.seq .none (.cond .none (.seq .none (.cond .none (.cut ⟨[(27,.bool),(1,.int .i64),(2,.tv)],[(3,0,0)],[(0,13)],[(0,0,.int .i64),(0,1,.bool),(0,2,.bool),(0,3,.str),(0,4,.int .i64),(0,5,.int .i64),(0,6,.int .i64),(0,7,.int .i64),(0,8,.int .i64),(0,9,.str),(0,10,.tv),(0,11,.tv),(0,12,.tv)]⟩ .none (.cond .none (.cut ⟨[(40,.bool),(1,.int .i64),(2,.tv)],[(3,0,0)],[(0,13)],[(0,0,.int .i64),(0,1,.bool),(0,2,.bool),(0,3,.str),(0,4,.int .i64),(0,5,.int .i64),(0,6,.int .i64),(0,7,.int .i64),(0,8,.int .i64),(0,9,.str),(0,10,.tv),(0,11,.tv),(0,12,.tv)]⟩ .none .none)))))))) (.seq .none (.seq (.seq .none (.block (.loop ⟨[(91,.int .i64),(1,.int .i64),(2,.tv),(89,.tv),(90,.int .i64)],[(3,0,0)],[(0,13)],[(0,0,.int .i64),(0,1,.bool),(0,2,.bool),(0,3,.str),(0,4,.int .i64),(0,5,.int .i64),(0,6,.int .i64),(0,7,.int .i64),(0,8,.int .i64),(0,9,.str),(0,10,.tv),(0,11,.tv),(0,12,.tv)]⟩ .none))) (.seq (.seq .none (.block (.loop ⟨[(107,.int .i64),(1,.int .i64),(2,.tv),(105,.tv),(106,.int .i64)],[],[],[]⟩ .none))) .none))))))) mixed (fun _ _=>Tryd.call18 _ _) Tryd.func18 (by kernel_rfl) (by kernel_rfl) h
theorem LX (v_0:Int) (v_1:Bool) (v_2:Bool) (v_3:B8) (v_4:Int) (v_5:Int) (v_6:Int) (v_7:Int) (v_8:Int) (v_9:B8) (v_10:TV) (v_11:TV) (v_12:TV) (st:St) (K:V13 (St->Prop)) (h:CallT PR Cp [(.agg (cV v_0 v_1 v_2 v_3 v_4 v_5 v_6 v_7 v_8 v_9 v_10 v_11 v_12)),.int .i64 65536] [sV] st (fun (n1:Int) (b1 b2:Bool) (s1:B8) (n2 n3 n4 n5 n6:Int) (s2:B8) (v1 v2 v3:TV) a=>need (List.all (cV n1 b1 b2 s1 n2 n3 n4 n5 n6 s2 v1 v2 v3) At) (K n1 b1 b2 s1 n2 n3 n4 n5 n6 s2 v1 v2 v3 a))):CallT PR Df [(.agg (cV v_0 v_1 v_2 v_3 v_4 v_5 v_6 v_7 v_8 v_9 v_10 v_11 v_12))] [sV] st K:=
 Ag (cfg:=⟨[1,2],[],[]⟩) (h:= .none) mixed (fun _ _=>Tryd.call19 _ _) Tryd.func19 (by kernel_rfl) (by kernel_rfl) h
theorem Fy (b:Nat) (t:Nat) (st:St) (K:V13 (St->Prop)) (h:Ar (Ac st [] (.t (.box t 0)) 0) (fun (v1:TV)=>need (isSl v1) (∃(I1:Int->TV->TV->TV->Int->V13 (V13 (St->Prop))) (M1:Int->TV->TV->TV->Int->V13 (V13 (St->Nat))),(I1 0 ((.box b 0)) ((.box t 0)) v1 ((lenS v1:Int)) 0 false false [] 0 0 0 0 0 [] .nilSlice .nilSlice .nilSlice 7 false false [] 0 0 0 0 0 [] .nilSlice .nilSlice .nilSlice st)/\∀c j d e k n1 b1 b2 s1 n2 n3 n4 n5 n6 s2 v2 v3 v4 n7 b3 b4 s3 n8 n9 g f i s4 v5 v6 v7 a,I1 c j d e k n1 b1 b2 s1 n2 n3 n4 n5 n6 s2 v2 v3 v4 n7 b3 b4 s3 n8 n9 g f i s4 v5 v6 v7 a->(BId (c<k) (((0<=c/\c<(lenZ 1 e:Int))/\Ar (Ac a [] (.t (ixT 1 e c.toNat)) 0) (fun (x2:TV)=>Bj .str x2 (fun (s5:B8)=>need (isPtr d) (need (isPtr d) (Ar (Ac a [] (.t (AV d 1)) 0) (fun (v8:TV)=>Ar (Er a v8) (fun (es1:List (B8×TV))=>need (isPtr (Au .nilPtr (AA s5 es1))) (need (isPtr (Au .nilPtr (AA s5 es1))) (Ar ((Aj a [] (.t (AV (Au .nilPtr (AA s5 es1)) 2)) 0 13).map TV.agg) (fun (x4:TV)=>BF [.int .i64,.bool,.bool,.str,.int .i64,.int .i64,.int .i64,.int .i64,.int .i64,.str,.tv,.tv,.tv] x4 (fun (e3:Int) (b5 b6:Bool) (s6:B8) (g3 f1 f3 e5 f0:Int) (s7:B8) (v9 g0 g2:TV)=>need (List.all (cV e3 b5 b6 s6 g3 f1 f3 e5 f0 s7 v9 g0 g2) At) (need (isPtr (Au .nilPtr (AA s5 es1))) (need (isPtr (Au .nilPtr (AA s5 es1))) (Ar (Ac a [] (.t (AV (Au .nilPtr (AA s5 es1)) 0)) 0) (fun (h5:TV)=>need (FH h5) (BIf (!BT h5) (need (isPtr (Au .nilPtr (AA s5 es1))) (need (isPtr (Au .nilPtr (AA s5 es1))) (Ar (Ac a [] (.t (AV (Au .nilPtr (AA s5 es1)) 0)) 0) (fun (i7:TV)=>CallT PR Am [j,i7] [sV] a (fun (f8:Int) (b7 b8:Bool) (s8:B8) (e7 e9 f6 e6 f2:Int) (s9:B8) (e4 f9 g4:TV) i5=>need (List.all (cV f8 b7 b8 s8 e7 e9 f6 e6 f2 s9 e4 f9 g4) At) (need (List.all [.str s5,.int .i64 f8,.bool b7,.bool b8,.str s8,.int .i64 e7,.int .i64 e9,.int .i64 f6,.int .i64 e6,.int .i64 f2,.str s9,e4,f9,g4] At) (Cx 50 14 184 v7 1 [.str s5,.int .i64 f8,.bool b7,.bool b8,.str s8,.int .i64 e7,.int .i64 e9,.int .i64 f6,.int .i64 e6,.int .i64 f2,.str s9,e4,f9,g4] i5 (fun (f5:TV) h2=>need (List.all [f5] At) ((I1 ((i64.wrap (c+(1:Int)))) j d e k n1 b1 b2 s1 n2 n3 n4 n5 n6 s2 v2 v3 v4 n7 b3 b4 s3 n8 n9 g f i s4 v5 v6 f5 h2/\M1 ((i64.wrap (c+(1:Int)))) j d e k n1 b1 b2 s1 n2 n3 n4 n5 n6 s2 v2 v3 v4 n7 b3 b4 s3 n8 n9 g f i s4 v5 v6 f5 h2<M1 c j d e k n1 b1 b2 s1 n2 n3 n4 n5 n6 s2 v2 v3 v4 n7 b3 b4 s3 n8 n9 g f i s4 v5 v6 v7 a)))))))))) (need (isPtr (Au .nilPtr (AA s5 es1))) (need (isPtr (Au .nilPtr (AA s5 es1))) (Ar (Ac a [] (.t (AV (Au .nilPtr (AA s5 es1)) 1)) 0) (fun (h0:TV)=>need (isSl h0) (BId ((0:Int)<(lenS h0:Int)) (need (isPtr (Au .nilPtr (AA s5 es1))) (need (isPtr (Au .nilPtr (AA s5 es1))) (Ar (Ac a [] (.t (AV (Au .nilPtr (AA s5 es1)) 1)) 0) (fun (e8:TV)=>need (isSl e8) (∃(I2:Int->TV->TV->B8->TV->Int->Int->TV->Int->V13 (V13 (V13 (St->Prop)))) (M2:Int->TV->TV->B8->TV->Int->Int->TV->Int->V13 (V13 (V13 (St->Nat)))),(I2 0 j d s5 e k c e8 ((lenS e8:Int)) n1 b1 b2 s1 n2 n3 n4 n5 n6 s2 v2 v3 v4 n7 b3 b4 s3 n8 n9 g f i s4 v5 v6 v7 6 false false [] 0 0 0 0 0 [] .nilSlice .nilSlice .nilSlice a)/\∀l m a2 x a6 c7 d1 d3 e1 c2 b9 c4 w v d6 c0 a5 a3 z q c9 a0 p c1 d2 d8 d0 d5 r c3 c6 a9 d7 y e2 d4 u a4 b0 o c8 a8 n c5 a7 s e0 a1 d9,I2 l m a2 x a6 c7 d1 d3 e1 c2 b9 c4 w v d6 c0 a5 a3 z q c9 a0 p c1 d2 d8 d0 d5 r c3 c6 a9 d7 y e2 d4 u a4 b0 o c8 a8 n c5 a7 s e0 a1 d9->(BId (l<e1) (((0<=l/\l<(lenZ 1 d3:Int))/\Ar (Ac d9 [] (.t (ixT 1 d3 l.toNat)) 0) (fun (i6:TV)=>CallT PR Am [m,i6] [sV] d9 (fun (g9:Int) (h9 h6:Bool) (h7:B8) (h1 i0 g6 i1 h4:Int) (i3:B8) (i2 g7 h8:TV) i4=>need (List.all (cV g9 h9 h6 h7 h1 i0 g6 i1 h4 i3 i2 g7 h8) At) (Cx 37 13 168 e0 1 (cV g9 h9 h6 h7 h1 i0 g6 i1 h4 i3 i2 g7 h8) i4 (fun (f4:TV) g5=>need (List.all [f4] At) ((I2 ((i64.wrap (l+(1:Int)))) m a2 x a6 c7 d1 d3 e1 c2 b9 c4 w v d6 c0 a5 a3 z q c9 a0 p c1 d2 d8 d0 d5 r c3 c6 a9 d7 y e2 d4 u a4 b0 o c8 a8 n c5 a7 s f4 a1 g5/\M2 ((i64.wrap (l+(1:Int)))) m a2 x a6 c7 d1 d3 e1 c2 b9 c4 w v d6 c0 a5 a3 z q c9 a0 p c1 d2 d8 d0 d5 r c3 c6 a9 d7 y e2 d4 u a4 b0 o c8 a8 n c5 a7 s f4 a1 g5<M2 l m a2 x a6 c7 d1 d3 e1 c2 b9 c4 w v d6 c0 a5 a3 z q c9 a0 p c1 d2 d8 d0 d5 r c3 c6 a9 d7 y e2 d4 u a4 b0 o c8 a8 n c5 a7 s e0 a1 d9)))))))) (need (List.all [.str x,.int .i64 d4,.bool u,.bool a4,.str b0,.int .i64 o,.int .i64 c8,.int .i64 a8,.int .i64 n,.int .i64 c5,.str a7,s,e0,a1] At) (Cx 50 14 184 e2 1 [.str x,.int .i64 d4,.bool u,.bool a4,.str b0,.int .i64 o,.int .i64 c8,.int .i64 a8,.int .i64 n,.int .i64 c5,.str a7,s,e0,a1] d9 (fun (g1:TV) g8=>need (List.all [g1] At) ((I1 ((i64.wrap (d1+(1:Int)))) m a2 a6 c7 c2 b9 c4 w v d6 c0 a5 a3 z q c9 a0 p c1 d2 d8 d0 d5 r c3 c6 a9 d7 y g1 g8/\M1 ((i64.wrap (d1+(1:Int)))) m a2 a6 c7 c2 b9 c4 w v d6 c0 a5 a3 z q c9 a0 p c1 d2 d8 d0 d5 r c3 c6 a9 d7 y g1 g8<M1 c j d e k n1 b1 b2 s1 n2 n3 n4 n5 n6 s2 v2 v3 v4 n7 b3 b4 s3 n8 n9 g f i s4 v5 v6 v7 a))))))))))) (need (List.all [.str s5,.int .i64 e3,.bool b5,.bool b6,.str s6,.int .i64 g3,.int .i64 f1,.int .i64 f3,.int .i64 e5,.int .i64 f0,.str s7,v9,g0,g2] At) (Cx 50 14 184 v7 1 [.str s5,.int .i64 e3,.bool b5,.bool b6,.str s6,.int .i64 g3,.int .i64 f1,.int .i64 f3,.int .i64 e5,.int .i64 f0,.str s7,v9,g0,g2] a (fun (f7:TV) h3=>need (List.all [f7] At) ((I1 ((i64.wrap (c+(1:Int)))) j d e k n1 b1 b2 s1 n2 n3 n4 n5 n6 s2 v2 v3 v4 n7 b3 b4 s3 n8 n9 g f i s4 v5 v6 f7 h3/\M1 ((i64.wrap (c+(1:Int)))) j d e k n1 b1 b2 s1 n2 n3 n4 n5 n6 s2 v2 v3 v4 n7 b3 b4 s3 n8 n9 g f i s4 v5 v6 f7 h3<M1 c j d e k n1 b1 b2 s1 n2 n3 n4 n5 n6 s2 v2 v3 v4 n7 b3 b4 s3 n8 n9 g f i s4 v5 v6 v7 a))))))))))))))))))))))))))) (need (List.all (cV n7 b3 b4 s3 n8 n9 g f i s4 v5 v6 v7) At) (K n7 b3 b4 s3 n8 n9 g f i s4 v5 v6 v7 a)))))):CallT PR Am [(.box b 0),(.box t 0)] [sV] st K:=
 Ag (cfg:=⟨[4,5,9],[],[]⟩) (h:=(.seq .none (.seq .none (.seq (.seq .none (.block (.loop ⟨[(18,.int .i64),(0,.tv),(1,.tv),(16,.tv),(17,.int .i64)],[(4,0,0),(5,1,0)],[(0,13),(1,13)],[(0,0,.int .i64),(0,1,.bool),(0,2,.bool),(0,3,.str),(0,4,.int .i64),(0,5,.int .i64),(0,6,.int .i64),(0,7,.int .i64),(0,8,.int .i64),(0,9,.str),(0,10,.tv),(0,11,.tv),(0,12,.tv),(1,0,.int .i64),(1,1,.bool),(1,2,.bool),(1,3,.str),(1,4,.int .i64),(1,5,.int .i64),(1,6,.int .i64),(1,7,.int .i64),(1,8,.int .i64),(1,9,.str),(1,10,.tv),(1,11,.tv),(1,12,.tv)]⟩ (.seq .none (.seq .none (.seq (.block (.seq .none (.seq .none (.seq .none (.seq (.seq .none (.cond .none (.seq .none (.cond (.seq .none (.seq .none (.block (.loop ⟨[(55,.int .i64),(0,.tv),(1,.tv),(7,.str),(16,.tv),(17,.int .i64),(18,.int .i64),(53,.tv),(54,.int .i64)],[(4,0,0),(5,1,0),(9,2,0)],[(0,13),(1,13),(2,13)],[(0,0,.int .i64),(0,1,.bool),(0,2,.bool),(0,3,.str),(0,4,.int .i64),(0,5,.int .i64),(0,6,.int .i64),(0,7,.int .i64),(0,8,.int .i64),(0,9,.str),(0,10,.tv),(0,11,.tv),(0,12,.tv),(1,0,.int .i64),(1,1,.bool),(1,2,.bool),(1,3,.str),(1,4,.int .i64),(1,5,.int .i64),(1,6,.int .i64),(1,7,.int .i64),(1,8,.int .i64),(1,9,.str),(1,10,.tv),(1,11,.tv),(1,12,.tv),(2,0,.int .i64),(2,1,.bool),(2,2,.bool),(2,3,.str),(2,4,.int .i64),(2,5,.int .i64),(2,6,.int .i64),(2,7,.int .i64),(2,8,.int .i64),(2,9,.str),(2,10,.tv),(2,11,.tv),(2,12,.tv)]⟩ .none)))) .none)))) .none))))) .none)))))) .none)))) mixed (fun _ _=>Tryd.call20 _ _) Tryd.func20 (by kernel_rfl) (by kernel_rfl) h
theorem LS (a_0:Int) (a_1:Bool) (a_2:Bool) (a_3:B8) (a_4:Int) (a_5:Int) (a_6:Int) (a_7:Int) (a_8:Int) (a_9:B8) (a_10:TV) (a_11:TV) (a_12:TV) (b_0:Int) (b_1:Bool) (b_2:Bool) (b_3:B8) (b_4:Int) (b_5:Int) (b_6:Int) (b_7:Int) (b_8:Int) (b_9:B8) (b_10:TV) (b_11:TV) (b_12:TV) (exact:Bool) (left:Int) (st:St) (K:Bool->St->Prop) (h:BId (a_0≠b_0) (K false ((st.push (.cells [.bool exact]) (some 4)).push (.cells [.int .i64 left]) (some 3))) (BIf (!(a_1==b_1)) (K false ((st.push (.cells [.bool exact]) (some 4)).push (.cells [.int .i64 left]) (some 3))) (BIf (!((a_2==b_2)&&(decide (a_3=b_3)&&(decide (a_4=b_4)&&true)))) (K false ((st.push (.cells [.bool exact]) (some 4)).push (.cells [.int .i64 left]) (some 3))) (BIf (!(decide (a_5=b_5)&&(decide (a_6=b_6)&&(decide (a_7=b_7)&&(decide (a_8=b_8)&&true))))) (K false ((st.push (.cells [.bool exact]) (some 4)).push (.cells [.int .i64 left]) (some 3))) (BId (a_9≠b_9) (K false ((st.push (.cells [.bool exact]) (some 4)).push (.cells [.int .i64 left]) (some 3))) (CallT PR Bx [a_10,b_10] [.one .bool] ((st.push (.cells [.bool exact]) (some 4)).push (.cells [.int .i64 left]) (some 3)) (fun (b1:Bool) a=>BIf (!b1) (K false a) (Ar (Ac a [] (.t (.box (st.push (.cells [.bool exact]) (some 4)).nb 0)) 0) (fun (x1:TV)=>Bj (.int .i64) x1 (fun (n1:Int)=>BId (n1<1) (K false a) (Ar (Ac a [] (.t (.box st.nb 0)) 0) (fun (x2:TV)=>Bj .bool x2 (fun (b2:Bool)=>BIf (!b2) (CallT PR Co [(.agg (cV a_0 a_1 a_2 a_3 a_4 a_5 a_6 a_7 a_8 a_9 a_10 a_11 a_12))] [.one .tv] a (fun (v1:TV) i=>CallT PR Co [(.agg (cV b_0 b_1 b_2 b_3 b_4 b_5 b_6 b_7 b_8 b_9 b_10 b_11 b_12))] [.one .tv] i (fun (v2:TV) b=>stB (b.push (.cells [.nilFunc]) (some 47)) (.box b.nb 0) [(.func BX [(.box st.nb 0),(.box (st.push (.cells [.bool exact]) (some 4)).nb 0)])] (fun c=>Ar (Ac c [] (.t (.box b.nb 0)) 0) (fun (v3:TV)=>CallT PR Ap [a_11,b_11,v3] [.one .bool] c (fun (b3:Bool) f=>BIf b3 (CallT PR Aq [v1,v2,(.func Di [(.box b.nb 0)])] [.one .bool] f (fun (b4:Bool) g=>K b4 g)) (K false f))))))) (stB (a.push (.cells [.nilFunc]) (some 47)) (.box a.nb 0) [(.func BX [(.box st.nb 0),(.box (st.push (.cells [.bool exact]) (some 4)).nb 0)])] (fun e=>Ar (Ac e [] (.t (.box a.nb 0)) 0) (fun (v4:TV)=>CallT PR Ap [a_11,b_11,v4] [.one .bool] e (fun (b5:Bool) d=>BIf b5 (CallT PR Aq [a_12,b_12,(.func Di [(.box a.nb 0)])] [.one .bool] d (fun (b6:Bool) j=>K b6 j)) (K false d)))))))))))))))))):CallT PR DX [(.agg (cV a_0 a_1 a_2 a_3 a_4 a_5 a_6 a_7 a_8 a_9 a_10 a_11 a_12)),(.agg (cV b_0 b_1 b_2 b_3 b_4 b_5 b_6 b_7 b_8 b_9 b_10 b_11 b_12)),.bool exact,.int .i64 left] [.one .bool] st K:=
 Ag (cfg:=⟨[4,5],[],[]⟩) (h:= .none) mixed (fun _ _=>Tryd.call21 _ _) Tryd.func21 (by kernel_rfl) (by kernel_rfl) h
theorem Gp (st:St) (K:V13 (St->Prop)) (h:K 2 false false str5 0 0 0 0 0 [] .nilSlice .nilSlice .nilSlice st):CallT PR DD [] [sV] st K:=
 Ag (cfg:=⟨[0],[],[]⟩) (h:= .none) mixed (fun _ _=>Tryd.call22 _ _) Tryd.func22 (by kernel_rfl) (by kernel_rfl) h
theorem GV (st:St) (K:TV->St->Prop) (h:need (List.all [(.map st.nb)] At) (CallT PR AC [(.box (st.push (.pmap []) none).nb 0),.int .i64 1] [.one .tv] ((st.push (.pmap []) none).push (.cells [.nilPtr,.nilPtr,(.map st.nb),.int .i64 0]) (some 64)) (fun (v1:TV) c=>need (List.all [v1] At) (stB c (.box (st.push (.pmap []) none).nb 0) [v1] (fun a=>Ar (Ac a [] (.t (.box (st.push (.pmap []) none).nb 0)) 0) (fun (v2:TV)=>need (List.all [v2] At) (stB a (.box (st.push (.pmap []) none).nb 1) [v2] (fun b=>K ((.box (st.push (.pmap []) none).nb 0)) b)))))))):CallT PR Cv [] [.one .tv] st K:=
 Ag (cfg:=⟨[],[],[]⟩) (h:= .none) mixed (fun _ _=>Tryd.call23 _ _) Tryd.func23 (by kernel_rfl) (by kernel_rfl) h
theorem Fh (b:Nat) (a_0:Bool) (a_1:Bool) (a_2:TV) (a_3:Int) (a_4:Bool) (a_5:Bool) (a_6:B8) (a_7:Int) (a_8:Int) (a_9:Int) (a_10:Int) (a_11:Int) (a_12:B8) (a_13:TV) (a_14:TV) (a_15:TV) (atx:Int) (st:St) (K:Int->St->Prop) (h:CallT PR CC [(.agg [.bool a_0,.bool a_1,a_2,.int .i64 a_3,.bool a_4,.bool a_5,.str a_6,.int .i64 a_7,.int .i64 a_8,.int .i64 a_9,.int .i64 a_10,.int .i64 a_11,.str a_12,a_13,a_14,a_15])] [.one .bool] st (fun (b1:Bool) j=>BIf (!b1) (K 1 j) (Ar (Ac j [] (.t (.box b 1)) 0) (fun (v1:TV)=>∃(C1:TV->TV->Int->Bool->Bool->TV->V13 (St->Prop)),(BIf a_0 (Ar (Ac j [] (.t (.box b 0)) 0) (fun (v2:TV)=>C1 v2 ((.box b 0)) atx a_0 a_1 a_2 a_3 a_4 a_5 a_6 a_7 a_8 a_9 a_10 a_11 a_12 a_13 a_14 a_15 j)) (C1 v1 ((.box b 0)) atx a_0 a_1 a_2 a_3 a_4 a_5 a_6 a_7 a_8 a_9 a_10 a_11 a_12 a_13 a_14 a_15 j))/\∀i a o b2 b3 v3 n1 b4 b5 s1 n2 n3 n4 n5 n6 s2 v4 v5 v6 r,C1 i a o b2 b3 v3 n1 b4 b5 s1 n2 n3 n4 n5 n6 s2 v4 v5 v6 r->(CallT PR B3 [a,i,(.agg [.bool b2,.bool b3,v3,.int .i64 n1,.bool b4,.bool b5,.str s1,.int .i64 n2,.int .i64 n3,.int .i64 n4,.int .i64 n5,.int .i64 n6,.str s2,v4,v5,v6])] [.one .tv,.one .bool] r (fun (v7:TV) (b6:Bool) c=>BIf (!b6) (K 8 c) (need (isSl v3) (((0<=(i64.wrap ((lenS v3:Int)-(1:Int)))/\(i64.wrap ((lenS v3:Int)-(1:Int)))<(lenZ 1 v3:Int))/\Ar (Ac c [] (.t (ixT 1 v3 (Int.toNat (i64.wrap ((lenS v3:Int)-(1:Int)))))) 0) (fun (x3:TV)=>Bj .str x3 (fun (s3:B8)=>need (isPtr v7) (need (isPtr v7) (Ar (Ac c [] (.t (AV v7 2)) 0) (fun (x4:TV)=>Bj (.int .i64) x4 (fun (n7:Int)=>BIf b3 (CallT PR BP [a,v7,.str s3] [.one (.int .i64)] c (fun (n8:Int) f=>BId (n8≠0) (K n8 f) (BId ((48:Int)<(i64.wrap (n7+(2:Int)))) (need (isPtr a) (need (isPtr a) (Ar (Ac f [] (.t (AV a 0)) 0) (fun (v8:TV)=>CallT PR Am [a,v8] [sV] f (fun (n9:Int) (b7 b8:Bool) (s4:B8) (j5 e9 k5 c2 q1:Int) (s5:B8) (v9 o6 q0:TV) g7=>CallT PR AE [(.agg (cV n9 b7 b8 s4 j5 e9 k5 c2 q1 s5 v9 o6 q0))] [.one (.int .i64)] g7 (fun (i4:Int) c6=>K i4 c6)))))) (need (isPtr a) (need (isPtr a) (Ar (Ac f [] (.t (AV a 3)) 0) (fun (x6:TV)=>Bj (.int .i64) x6 (fun (j1:Int)=>BId ((65536:Int)<j1) (need (isPtr a) (need (isPtr a) (Ar (Ac f [] (.t (AV a 0)) 0) (fun (o9:TV)=>CallT PR Am [a,o9] [sV] f (fun (d7:Int) (b9 o7:Bool) (s6:B8) (h7 m1 g3 h1 k0:Int) (s7:B8) (r2 c3 m2:TV) f8=>CallT PR AE [(.agg (cV d7 b9 o7 s6 h7 m1 g3 h1 k0 s7 r2 c3 m2))] [.one (.int .i64)] f8 (fun (e0:Int) o2=>K e0 o2)))))) (CallT PR Ax [v3,(.func Bh [])] [.one .bool] f (fun (m8:Bool) m=>BIf m8 (need (isPtr a) (need (isPtr a) (Ar (Ac m [] (.t (AV a 0)) 0) (fun (r6:TV)=>CallT PR Am [a,r6] [sV] m (fun (i7:Int) (q9 e1:Bool) (s8:B8) (o1 e7 r7 m4 k1:Int) (s9:B8) (j7 h2 g4:TV) a3=>CallT PR AE [(.agg (cV i7 q9 e1 s8 o1 e7 r7 m4 k1 s9 j7 h2 g4))] [.one (.int .i64)] a3 (fun (j3:Int) a7=>K j3 a7)))))) (K 0 m))))))))))) (BIf b2 (CallT PR BU [a,v7,.str s3] [.one (.int .i64)] c (fun (q:Int) d=>BId (q≠0) (K q d) (BId ((48:Int)<(i64.wrap (n7+(2:Int)))) (need (isPtr a) (need (isPtr a) (Ar (Ac d [] (.t (AV a 0)) 0) (fun (c7:TV)=>CallT PR Am [a,c7] [sV] d (fun (q8:Int) (j8 p5:Bool) (f2:B8) (r4 d8 o4 p8 r3:Int) (h3:B8) (q5 h8 r8:TV) y=>CallT PR AE [(.agg (cV q8 j8 p5 f2 r4 d8 o4 p8 r3 h3 q5 h8 r8))] [.one (.int .i64)] y (fun (c5:Int) b0=>K c5 b0)))))) (need (isPtr a) (need (isPtr a) (Ar (Ac d [] (.t (AV a 3)) 0) (fun (j9:TV)=>Bj (.int .i64) j9 (fun (q2:Int)=>BId ((65536:Int)<q2) (need (isPtr a) (need (isPtr a) (Ar (Ac d [] (.t (AV a 0)) 0) (fun (g6:TV)=>CallT PR Am [a,g6] [sV] d (fun (l2:Int) (p0 o5:Bool) (r9:B8) (c1 p7 g5 h6 p9:Int) (m0:B8) (l1 d9 f6:TV) x=>CallT PR AE [(.agg (cV l2 p0 o5 r9 c1 p7 g5 h6 p9 m0 l1 d9 f6))] [.one (.int .i64)] x (fun (d1:Int) a8=>K d1 a8)))))) (CallT PR Ax [v3,(.func Bh [])] [.one .bool] d (fun (k9:Bool) l=>BIf k9 (need (isPtr a) (need (isPtr a) (Ar (Ac l [] (.t (AV a 0)) 0) (fun (i2:TV)=>CallT PR Am [a,i2] [sV] l (fun (q6:Int) (j0 k2:Bool) (m3:B8) (o3 l0 i5 l3 d4:Int) (k8:B8) (p6 s0 d5:TV) w=>CallT PR AE [(.agg (cV q6 j0 k2 m3 o3 l0 i5 l3 d4 k8 p6 s0 d5))] [.one (.int .i64)] w (fun (r0:Int) v=>K r0 v)))))) (K 0 l))))))))))) (need (isPtr v7) (need (isPtr v7) (Ar (Ac c [] (.t (AV v7 1)) 0) (fun (p4:TV)=>Ar (Er c p4) (fun (es1:List (B8×TV))=>need (FH (Au .nilPtr (AA s3 es1))) (BIf (!BT (Au .nilPtr (AA s3 es1))) (K 8 c) (CallT PR AS [v7,.str s3,(.box c.nb 0)] [] (c.push (.cells [.nilPtr,.nilSlice,.int .i64 n1,.bool b4,.bool b5,.str s1,.int .i64 n2,.int .i64 n3,.int .i64 n4,.int .i64 n5,.int .i64 n6,.str s2,v4,v5,v6,.int .i64 o]) (some 81)) (fun (a9:St)=>CallT PR AE [(.agg (cV n1 b4 b5 s1 n2 n3 n4 n5 n6 s2 v4 v5 v6))] [.one (.int .i64)] a9 (fun (h4:Int) g=>BId (h4≠0) (need (isPtr a) (need (isPtr a) (Ar (Ac g [] (.t (AV a 0)) 0) (fun (j2:TV)=>CallT PR Am [a,j2] [sV] g (fun (t1:Int) (i9 i6:Bool) (p1:B8) (t2 e2 i1 g9 h0:Int) (t0:B8) (p2 k7 l7:TV) a0=>CallT PR AE [(.agg (cV t1 i9 i6 p1 t2 e2 i1 g9 h0 t0 p2 k7 l7))] [.one (.int .i64)] a0 (fun (e3:Int) a2=>K e3 a2)))))) (need (isPtr a) (need (isPtr a) (Ar (Ac g [] (.t (AV a 3)) 0) (fun (c8:TV)=>Bj (.int .i64) c8 (fun (u:Int)=>CallT PR FK [(.agg (cV n1 b4 b5 s1 n2 n3 n4 n5 n6 s2 v4 v5 v6))] [.one (.int .i64)] g (fun (d0:Int) n=>(Ac n [] (.t (AV a 3)) 0=some (.int .i64 u)/\need (isPtr a) (need (isPtr a) (stB n (AV a 3) [(.int .i64 (i64.wrap (u+d0)))] (fun p=>need (isPtr v7) (need (isPtr v7) (Ar (Ac p [] (.t (AV v7 2)) 0) (fun (p3:TV)=>Bj (.int .i64) p3 (fun (s:Int)=>CallT PR E0 [(.agg (cV n1 b4 b5 s1 n2 n3 n4 n5 n6 s2 v4 v5 v6))] [.one (.int .i64)] p (fun (m5:Int) e=>(Ac e [] (.t (AV v7 2)) 0=some (.int .i64 s)/\BId ((48:Int)<(i64.wrap (s+m5))) (need (isPtr a) (need (isPtr a) (Ar (Ac e [] (.t (AV a 0)) 0) (fun (k3:TV)=>CallT PR Am [a,k3] [sV] e (fun (f0:Int) (e5 o0:Bool) (c9:B8) (g2 g1 l9 l5 c4:Int) (l8:B8) (q7 i0 t3:TV) z=>CallT PR AE [(.agg (cV f0 e5 o0 c9 g2 g1 l9 l5 c4 l8 q7 i0 t3))] [.one (.int .i64)] z (fun (q3:Int) a5=>K q3 a5)))))) (need (isPtr a) (need (isPtr a) (Ar (Ac e [] (.t (AV a 3)) 0) (fun (e4:TV)=>Bj (.int .i64) e4 (fun (m6:Int)=>BId ((65536:Int)<m6) (need (isPtr a) (need (isPtr a) (Ar (Ac e [] (.t (AV a 0)) 0) (fun (d6:TV)=>CallT PR Am [a,d6] [sV] e (fun (l4:Int) (q4 i3:Bool) (f1:B8) (d3 f3 m9 d2 l6:Int) (k6:B8) (h5 h9 g0:TV) a6=>CallT PR AE [(.agg (cV l4 q4 i3 f1 d3 f3 m9 d2 l6 k6 h5 h9 g0))] [.one (.int .i64)] a6 (fun (f9:Int) a1=>K f9 a1)))))) (CallT PR Ax [v3,(.func Bh [])] [.one .bool] e (fun (e6:Bool) k=>BIf e6 (need (isPtr a) (need (isPtr a) (Ar (Ac k [] (.t (AV a 0)) 0) (fun (j6:TV)=>CallT PR Am [a,j6] [sV] k (fun (j4:Int) (k4 m7:Bool) (i8:B8) (f7 r5 r1 n0 g8:Int) (t4:B8) (e8 o8 f5:TV) a4=>CallT PR AE [(.agg (cV j4 k4 m7 i8 f7 r5 r1 n0 g8 t4 e8 o8 f5))] [.one (.int .i64)] a4 (fun (f4:Int) c0=>K f4 c0)))))) (K 0 k))))))))))))))))))))))))))))))))))))))))))))))))):CallT PR BV [(.box b 0),(.agg [.bool a_0,.bool a_1,a_2,.int .i64 a_3,.bool a_4,.bool a_5,.str a_6,.int .i64 a_7,.int .i64 a_8,.int .i64 a_9,.int .i64 a_10,.int .i64 a_11,.str a_12,a_13,a_14,a_15]),.int .i64 atx] [.one (.int .i64)] st K:=
 Ag (cfg:=⟨[4],[],[71,81]⟩) (h:=(.seq .none (.seq .none (.seq .none (.cut ⟨[(7,.tv),(0,.tv),(2,.int .i64)],[(4,0,0)],[(0,16)],[(0,0,.bool),(0,1,.bool),(0,2,.tv),(0,3,.int .i64),(0,4,.bool),(0,5,.bool),(0,6,.str),(0,7,.int .i64),(0,8,.int .i64),(0,9,.int .i64),(0,10,.int .i64),(0,11,.int .i64),(0,12,.str),(0,13,.tv),(0,14,.tv),(0,15,.tv)]⟩ .none .none))))) mixed (fun _ _=>Tryd.call24 _ _) Tryd.func24 (by kernel_rfl) (by kernel_rfl) h
theorem Kr (v_0:Int) (v_1:Bool) (v_2:Bool) (v_3:B8) (v_4:Int) (v_5:Int) (v_6:Int) (v_7:Int) (v_8:Int) (v_9:B8) (v_10:TV) (v_11:TV) (v_12:TV) (st:St) (K:Bool->St->Prop) (h:BId (v_0=6) (need (isSl v_11) (BId ((0:Int)<(lenS v_11:Int)) (CallT PR AT [v_11,(.func Ft [])] [.one .bool] st (fun (b1:Bool) a=>K ((!b1)) a)) (K false st))) (K false st)):CallT PR Dj [(.agg (cV v_0 v_1 v_2 v_3 v_4 v_5 v_6 v_7 v_8 v_9 v_10 v_11 v_12))] [.one .bool] st K:=
 Ag (cfg:=⟨[1],[],[]⟩) (h:= .none) mixed (fun _ _=>Tryd.call25 _ _) Tryd.func25 (by kernel_rfl) (by kernel_rfl) h
theorem Dx (s:TV) (st:St) (K:TV->St->Prop) (h:need (isSl s) (BIf (BT s) (K .nilSlice st) (Ar (DH st 1 s) (fun (q1:Nat×List TV)=>need (List.all q1.2 At) (Cx 9 1 16 (.list 1 .full 0 []) q1.1 q1.2 st (fun (v1:TV) a=>K v1 a)))))):CallT PR AR [s] [.one .tv] st K:=
 Ag (cfg:=⟨[],[],[]⟩) (h:= .none) mixed (fun _ _=>Tryd.call26 _ _) Tryd.func26 (by kernel_rfl) (by kernel_rfl) h
theorem KJ (v_0:Int) (v_1:Bool) (v_2:Bool) (v_3:B8) (v_4:Int) (v_5:Int) (v_6:Int) (v_7:Int) (v_8:Int) (v_9:B8) (v_10:TV) (v_11:TV) (v_12:TV) (st:St) (K:Bool->St->Prop) (h:BId (v_0≠1) (BIf v_1 (K true st) (BId (v_0≠2) (BIf (!((v_2==false)&&(decide (v_3=([]:B8))&&(decide (v_4=(0:Int))&&true)))) (K true st) (BId (v_0≠3) (BIf (!(decide (v_5=(0:Int))&&(decide (v_6=(0:Int))&&(decide (v_7=(0:Int))&&(decide (v_8=(0:Int))&&true))))) (K true st) (BId (v_0≠4) (BId (v_9≠([]:B8)) (K true st) (BId (v_0≠5) (need (isSl v_10) (BId ((0:Int)<(lenS v_10:Int)) (K true st) (BId (v_0≠6) (need (isSl v_11) (BId ((0:Int)<(lenS v_11:Int)) (K true st) (BId (v_0≠7) (need (isSl v_12) (K ((decide ((0:Int)<(lenS v_12:Int)))) st)) (K false st)))) (BId (v_0≠7) (need (isSl v_12) (K ((decide ((0:Int)<(lenS v_12:Int)))) st)) (K false st))))) (BId (v_0≠6) (need (isSl v_11) (BId ((0:Int)<(lenS v_11:Int)) (K true st) (BId (v_0≠7) (need (isSl v_12) (K ((decide ((0:Int)<(lenS v_12:Int)))) st)) (K false st)))) (BId (v_0≠7) (need (isSl v_12) (K ((decide ((0:Int)<(lenS v_12:Int)))) st)) (K false st))))) (BId (v_0≠5) (need (isSl v_10) (BId ((0:Int)<(lenS v_10:Int)) (K true st) (BId (v_0≠6) (need (isSl v_11) (BId ((0:Int)<(lenS v_11:Int)) (K true st) (BId (v_0≠7) (need (isSl v_12) (K ((decide ((0:Int)<(lenS v_12:Int)))) st)) (K false st)))) (BId (v_0≠7) (need (isSl v_12) (K ((decide ((0:Int)<(lenS v_12:Int)))) st)) (K false st))))) (BId (v_0≠6) (need (isSl v_11) (BId ((0:Int)<(lenS v_11:Int)) (K true st) (BId (v_0≠7) (need (isSl v_12) (K ((decide ((0:Int)<(lenS v_12:Int)))) st)) (K false st)))) (BId (v_0≠7) (need (isSl v_12) (K ((decide ((0:Int)<(lenS v_12:Int)))) st)) (K false st)))))) (BId (v_0≠4) (BId (v_9≠([]:B8)) (K true st) (BId (v_0≠5) (need (isSl v_10) (BId ((0:Int)<(lenS v_10:Int)) (K true st) (BId (v_0≠6) (need (isSl v_11) (BId ((0:Int)<(lenS v_11:Int)) (K true st) (BId (v_0≠7) (need (isSl v_12) (K ((decide ((0:Int)<(lenS v_12:Int)))) st)) (K false st)))) (BId (v_0≠7) (need (isSl v_12) (K ((decide ((0:Int)<(lenS v_12:Int)))) st)) (K false st))))) (BId (v_0≠6) (need (isSl v_11) (BId ((0:Int)<(lenS v_11:Int)) (K true st) (BId (v_0≠7) (need (isSl v_12) (K ((decide ((0:Int)<(lenS v_12:Int)))) st)) (K false st)))) (BId (v_0≠7) (need (isSl v_12) (K ((decide ((0:Int)<(lenS v_12:Int)))) st)) (K false st))))) (BId (v_0≠5) (need (isSl v_10) (BId ((0:Int)<(lenS v_10:Int)) (K true st) (BId (v_0≠6) (need (isSl v_11) (BId ((0:Int)<(lenS v_11:Int)) (K true st) (BId (v_0≠7) (need (isSl v_12) (K ((decide ((0:Int)<(lenS v_12:Int)))) st)) (K false st)))) (BId (v_0≠7) (need (isSl v_12) (K ((decide ((0:Int)<(lenS v_12:Int)))) st)) (K false st))))) (BId (v_0≠6) (need (isSl v_11) (BId ((0:Int)<(lenS v_11:Int)) (K true st) (BId (v_0≠7) (need (isSl v_12) (K ((decide ((0:Int)<(lenS v_12:Int)))) st)) (K false st)))) (BId (v_0≠7) (need (isSl v_12) (K ((decide ((0:Int)<(lenS v_12:Int)))) st)) (K false st))))))) (BId (v_0≠3) (BIf (!(decide (v_5=(0:Int))&&(decide (v_6=(0:Int))&&(decide (v_7=(0:Int))&&(decide (v_8=(0:Int))&&true))))) (K true st) (BId (v_0≠4) (BId (v_9≠([]:B8)) (K true st) (BId (v_0≠5) (need (isSl v_10) (BId ((0:Int)<(lenS v_10:Int)) (K true st) (BId (v_0≠6) (need (isSl v_11) (BId ((0:Int)<(lenS v_11:Int)) (K true st) (BId (v_0≠7) (need (isSl v_12) (K ((decide ((0:Int)<(lenS v_12:Int)))) st)) (K false st)))) (BId (v_0≠7) (need (isSl v_12) (K ((decide ((0:Int)<(lenS v_12:Int)))) st)) (K false st))))) (BId (v_0≠6) (need (isSl v_11) (BId ((0:Int)<(lenS v_11:Int)) (K true st) (BId (v_0≠7) (need (isSl v_12) (K ((decide ((0:Int)<(lenS v_12:Int)))) st)) (K false st)))) (BId (v_0≠7) (need (isSl v_12) (K ((decide ((0:Int)<(lenS v_12:Int)))) st)) (K false st))))) (BId (v_0≠5) (need (isSl v_10) (BId ((0:Int)<(lenS v_10:Int)) (K true st) (BId (v_0≠6) (need (isSl v_11) (BId ((0:Int)<(lenS v_11:Int)) (K true st) (BId (v_0≠7) (need (isSl v_12) (K ((decide ((0:Int)<(lenS v_12:Int)))) st)) (K false st)))) (BId (v_0≠7) (need (isSl v_12) (K ((decide ((0:Int)<(lenS v_12:Int)))) st)) (K false st))))) (BId (v_0≠6) (need (isSl v_11) (BId ((0:Int)<(lenS v_11:Int)) (K true st) (BId (v_0≠7) (need (isSl v_12) (K ((decide ((0:Int)<(lenS v_12:Int)))) st)) (K false st)))) (BId (v_0≠7) (need (isSl v_12) (K ((decide ((0:Int)<(lenS v_12:Int)))) st)) (K false st)))))) (BId (v_0≠4) (BId (v_9≠([]:B8)) (K true st) (BId (v_0≠5) (need (isSl v_10) (BId ((0:Int)<(lenS v_10:Int)) (K true st) (BId (v_0≠6) (need (isSl v_11) (BId ((0:Int)<(lenS v_11:Int)) (K true st) (BId (v_0≠7) (need (isSl v_12) (K ((decide ((0:Int)<(lenS v_12:Int)))) st)) (K false st)))) (BId (v_0≠7) (need (isSl v_12) (K ((decide ((0:Int)<(lenS v_12:Int)))) st)) (K false st))))) (BId (v_0≠6) (need (isSl v_11) (BId ((0:Int)<(lenS v_11:Int)) (K true st) (BId (v_0≠7) (need (isSl v_12) (K ((decide ((0:Int)<(lenS v_12:Int)))) st)) (K false st)))) (BId (v_0≠7) (need (isSl v_12) (K ((decide ((0:Int)<(lenS v_12:Int)))) st)) (K false st))))) (BId (v_0≠5) (need (isSl v_10) (BId ((0:Int)<(lenS v_10:Int)) (K true st) (BId (v_0≠6) (need (isSl v_11) (BId ((0:Int)<(lenS v_11:Int)) (K true st) (BId (v_0≠7) (need (isSl v_12) (K ((decide ((0:Int)<(lenS v_12:Int)))) st)) (K false st)))) (BId (v_0≠7) (need (isSl v_12) (K ((decide ((0:Int)<(lenS v_12:Int)))) st)) (K false st))))) (BId (v_0≠6) (need (isSl v_11) (BId ((0:Int)<(lenS v_11:Int)) (K true st) (BId (v_0≠7) (need (isSl v_12) (K ((decide ((0:Int)<(lenS v_12:Int)))) st)) (K false st)))) (BId (v_0≠7) (need (isSl v_12) (K ((decide ((0:Int)<(lenS v_12:Int)))) st)) (K false st)))))))) (BId (v_0≠2) (BIf (!((v_2==false)&&(decide (v_3=([]:B8))&&(decide (v_4=(0:Int))&&true)))) (K true st) (BId (v_0≠3) (BIf (!(decide (v_5=(0:Int))&&(decide (v_6=(0:Int))&&(decide (v_7=(0:Int))&&(decide (v_8=(0:Int))&&true))))) (K true st) (BId (v_0≠4) (BId (v_9≠([]:B8)) (K true st) (BId (v_0≠5) (need (isSl v_10) (BId ((0:Int)<(lenS v_10:Int)) (K true st) (BId (v_0≠6) (need (isSl v_11) (BId ((0:Int)<(lenS v_11:Int)) (K true st) (BId (v_0≠7) (need (isSl v_12) (K ((decide ((0:Int)<(lenS v_12:Int)))) st)) (K false st)))) (BId (v_0≠7) (need (isSl v_12) (K ((decide ((0:Int)<(lenS v_12:Int)))) st)) (K false st))))) (BId (v_0≠6) (need (isSl v_11) (BId ((0:Int)<(lenS v_11:Int)) (K true st) (BId (v_0≠7) (need (isSl v_12) (K ((decide ((0:Int)<(lenS v_12:Int)))) st)) (K false st)))) (BId (v_0≠7) (need (isSl v_12) (K ((decide ((0:Int)<(lenS v_12:Int)))) st)) (K false st))))) (BId (v_0≠5) (need (isSl v_10) (BId ((0:Int)<(lenS v_10:Int)) (K true st) (BId (v_0≠6) (need (isSl v_11) (BId ((0:Int)<(lenS v_11:Int)) (K true st) (BId (v_0≠7) (need (isSl v_12) (K ((decide ((0:Int)<(lenS v_12:Int)))) st)) (K false st)))) (BId (v_0≠7) (need (isSl v_12) (K ((decide ((0:Int)<(lenS v_12:Int)))) st)) (K false st))))) (BId (v_0≠6) (need (isSl v_11) (BId ((0:Int)<(lenS v_11:Int)) (K true st) (BId (v_0≠7) (need (isSl v_12) (K ((decide ((0:Int)<(lenS v_12:Int)))) st)) (K false st)))) (BId (v_0≠7) (need (isSl v_12) (K ((decide ((0:Int)<(lenS v_12:Int)))) st)) (K false st)))))) (BId (v_0≠4) (BId (v_9≠([]:B8)) (K true st) (BId (v_0≠5) (need (isSl v_10) (BId ((0:Int)<(lenS v_10:Int)) (K true st) (BId (v_0≠6) (need (isSl v_11) (BId ((0:Int)<(lenS v_11:Int)) (K true st) (BId (v_0≠7) (need (isSl v_12) (K ((decide ((0:Int)<(lenS v_12:Int)))) st)) (K false st)))) (BId (v_0≠7) (need (isSl v_12) (K ((decide ((0:Int)<(lenS v_12:Int)))) st)) (K false st))))) (BId (v_0≠6) (need (isSl v_11) (BId ((0:Int)<(lenS v_11:Int)) (K true st) (BId (v_0≠7) (need (isSl v_12) (K ((decide ((0:Int)<(lenS v_12:Int)))) st)) (K false st)))) (BId (v_0≠7) (need (isSl v_12) (K ((decide ((0:Int)<(lenS v_12:Int)))) st)) (K false st))))) (BId (v_0≠5) (need (isSl v_10) (BId ((0:Int)<(lenS v_10:Int)) (K true st) (BId (v_0≠6) (need (isSl v_11) (BId ((0:Int)<(lenS v_11:Int)) (K true st) (BId (v_0≠7) (need (isSl v_12) (K ((decide ((0:Int)<(lenS v_12:Int)))) st)) (K false st)))) (BId (v_0≠7) (need (isSl v_12) (K ((decide ((0:Int)<(lenS v_12:Int)))) st)) (K false st))))) (BId (v_0≠6) (need (isSl v_11) (BId ((0:Int)<(lenS v_11:Int)) (K true st) (BId (v_0≠7) (need (isSl v_12) (K ((decide ((0:Int)<(lenS v_12:Int)))) st)) (K false st)))) (BId (v_0≠7) (need (isSl v_12) (K ((decide ((0:Int)<(lenS v_12:Int)))) st)) (K false st))))))) (BId (v_0≠3) (BIf (!(decide (v_5=(0:Int))&&(decide (v_6=(0:Int))&&(decide (v_7=(0:Int))&&(decide (v_8=(0:Int))&&true))))) (K true st) (BId (v_0≠4) (BId (v_9≠([]:B8)) (K true st) (BId (v_0≠5) (need (isSl v_10) (BId ((0:Int)<(lenS v_10:Int)) (K true st) (BId (v_0≠6) (need (isSl v_11) (BId ((0:Int)<(lenS v_11:Int)) (K true st) (BId (v_0≠7) (need (isSl v_12) (K ((decide ((0:Int)<(lenS v_12:Int)))) st)) (K false st)))) (BId (v_0≠7) (need (isSl v_12) (K ((decide ((0:Int)<(lenS v_12:Int)))) st)) (K false st))))) (BId (v_0≠6) (need (isSl v_11) (BId ((0:Int)<(lenS v_11:Int)) (K true st) (BId (v_0≠7) (need (isSl v_12) (K ((decide ((0:Int)<(lenS v_12:Int)))) st)) (K false st)))) (BId (v_0≠7) (need (isSl v_12) (K ((decide ((0:Int)<(lenS v_12:Int)))) st)) (K false st))))) (BId (v_0≠5) (need (isSl v_10) (BId ((0:Int)<(lenS v_10:Int)) (K true st) (BId (v_0≠6) (need (isSl v_11) (BId ((0:Int)<(lenS v_11:Int)) (K true st) (BId (v_0≠7) (need (isSl v_12) (K ((decide ((0:Int)<(lenS v_12:Int)))) st)) (K false st)))) (BId (v_0≠7) (need (isSl v_12) (K ((decide ((0:Int)<(lenS v_12:Int)))) st)) (K false st))))) (BId (v_0≠6) (need (isSl v_11) (BId ((0:Int)<(lenS v_11:Int)) (K true st) (BId (v_0≠7) (need (isSl v_12) (K ((decide ((0:Int)<(lenS v_12:Int)))) st)) (K false st)))) (BId (v_0≠7) (need (isSl v_12) (K ((decide ((0:Int)<(lenS v_12:Int)))) st)) (K false st)))))) (BId (v_0≠4) (BId (v_9≠([]:B8)) (K true st) (BId (v_0≠5) (need (isSl v_10) (BId ((0:Int)<(lenS v_10:Int)) (K true st) (BId (v_0≠6) (need (isSl v_11) (BId ((0:Int)<(lenS v_11:Int)) (K true st) (BId (v_0≠7) (need (isSl v_12) (K ((decide ((0:Int)<(lenS v_12:Int)))) st)) (K false st)))) (BId (v_0≠7) (need (isSl v_12) (K ((decide ((0:Int)<(lenS v_12:Int)))) st)) (K false st))))) (BId (v_0≠6) (need (isSl v_11) (BId ((0:Int)<(lenS v_11:Int)) (K true st) (BId (v_0≠7) (need (isSl v_12) (K ((decide ((0:Int)<(lenS v_12:Int)))) st)) (K false st)))) (BId (v_0≠7) (need (isSl v_12) (K ((decide ((0:Int)<(lenS v_12:Int)))) st)) (K false st))))) (BId (v_0≠5) (need (isSl v_10) (BId ((0:Int)<(lenS v_10:Int)) (K true st) (BId (v_0≠6) (need (isSl v_11) (BId ((0:Int)<(lenS v_11:Int)) (K true st) (BId (v_0≠7) (need (isSl v_12) (K ((decide ((0:Int)<(lenS v_12:Int)))) st)) (K false st)))) (BId (v_0≠7) (need (isSl v_12) (K ((decide ((0:Int)<(lenS v_12:Int)))) st)) (K false st))))) (BId (v_0≠6) (need (isSl v_11) (BId ((0:Int)<(lenS v_11:Int)) (K true st) (BId (v_0≠7) (need (isSl v_12) (K ((decide ((0:Int)<(lenS v_12:Int)))) st)) (K false st)))) (BId (v_0≠7) (need (isSl v_12) (K ((decide ((0:Int)<(lenS v_12:Int)))) st)) (K false st)))))))):CallT PR EY [(.agg (cV v_0 v_1 v_2 v_3 v_4 v_5 v_6 v_7 v_8 v_9 v_10 v_11 v_12))] [.one .bool] st K:=
 Ag (cfg:=⟨[1],[],[]⟩) (h:= .none) mixed (fun _ _=>Tryd.call27 _ _) Tryd.func27 (by kernel_rfl) (by kernel_rfl) h
theorem Jv (d_0:Bool) (d_1:B8) (d_2:Int) (st:St) (K:Bool->St->Prop) (h:BId (d_1=([]:B8)) (K (((d_0==false)&&(decide (d_1=([]:B8))&&(decide (d_2=(0:Int))&&true)))) st) (CallT PR Ej [.str d_1] [.one .bool] st (fun (b1:Bool) b=>BIf b1 (BId ((d_1.length:Int)<=(120:Int)) (CallT PR Ei [.str d_1] [.one (.int .i64)] b (fun (n1:Int) a=>BId (n1=0) (BId ((-400:Int)<=d_2) (K ((decide (d_2<=400))) a) (K false a)) (K false a))) (K false b)) (K false b)))):CallT PR DS [(.agg [.bool d_0,.str d_1,.int .i64 d_2])] [.one .bool] st K:=
 Ag (cfg:=⟨[1],[],[]⟩) (h:= .none) mixed (fun _ _=>Tryd.call28 _ _) Tryd.func28 (by kernel_rfl) (by kernel_rfl) h
theorem Ks (t_0:Int) (t_1:Int) (t_2:Int) (t_3:Int) (st:St) (K:Bool->St->Prop) (h:BId (t_0<1) (K false st) (BId ((4:Int)<t_0) (K false st) (BId (t_1<0) (K false st) (BId ((3652058:Int)<t_1) (K false st) (BId (t_2<0) (K false st) (BId ((86399999999999:Int)<t_2) (K false st) (BId (t_3<(-1439:Int)) (K false st) (BId ((1439:Int)<t_3) (K false st) (BId (t_0=2) (BId (t_1=0) (K ((decide (t_3=0))) st) (K false st)) (BId (t_0=1) (BId (t_2=0) (K ((decide (t_3=0))) st) (K false st)) (BId (t_0=3) (K ((decide (t_3=0))) st) (K true st)))))))))))):CallT PR Dk [(.agg [.int .i64 t_0,.int .i64 t_1,.int .i64 t_2,.int .i64 t_3])] [.one .bool] st K:=
 Ag (cfg:=⟨[1],[],[]⟩) (h:= .none) mixed (fun _ _=>Tryd.call29 _ _) Tryd.func29 (by kernel_rfl) (by kernel_rfl) h
theorem M9 (s:B8) (st:St) (K:Bool->St->Prop) (h:CallT PR IF [.str s] [.one (.int .i64),.one (.int .i64)] st (fun (n1 n2:Int) a=>K ((decide (n2=0))) a)):CallT PR EF [.str s] [.one .bool] st K:=
 Ag (cfg:=⟨[],[],[]⟩) (h:= .none) mixed (fun _ _=>Tryd.call30 _ _) Tryd.func30 (by kernel_rfl) (by kernel_rfl) h
theorem LU (l:TV) (st:St) (K:Int->St->Prop) (h:need (isSl l) (∃(I1:Int->TV->TV->Int->St->Prop) (M1:Int->TV->TV->Int->St->Nat),(I1 0 ((.map st.nb)) l ((lenS l:Int)) (st.push (.map []) none))/\∀b a c d e,I1 b a c d e->(BId (b<d) (((0<=b/\b<(lenZ 14 c:Int))/\Ar ((Aj e [] (.t (ixT 14 c b.toNat)) 0 14).map TV.agg) (fun (x1:TV)=>BF [.str,.int .i64,.bool,.bool,.str,.int .i64,.int .i64,.int .i64,.int .i64,.int .i64,.str,.tv,.tv,.tv] x1 (fun (s1:B8) (n1:Int) (b1 b2:Bool) (s2:B8) (n2 n3 n4 n5 n6:Int) (s3:B8) (v1 v2 v3:TV)=>need (List.all [.str s1,.int .i64 n1,.bool b1,.bool b2,.str s2,.int .i64 n2,.int .i64 n3,.int .i64 n4,.int .i64 n5,.int .i64 n6,.str s3,v1,v2,v3] At) (CallT PR GG [.str s1] [.one (.int .i64)] e (fun (n7:Int) f=>BId (n7≠0) (K n7 f) (Ar (Er f a) (fun (es1:List (B8×TV))=>Bj .bool (Au (.bool false) (AA s1 es1)) (fun (b3:Bool)=>BIf b3 (K 8 f) (muK a s1 (.bool true) f (fun g=>(I1 ((i64.wrap (b+(1:Int)))) a c d g/\M1 ((i64.wrap (b+(1:Int)))) a c d g<M1 b a c d e)))))))))))) (K 0 e)))):CallT PR FJ [l] [.one (.int .i64)] st K:=
 Ag (cfg:=⟨[5],[],[]⟩) (h:=(.seq .none (.seq .none (.seq (.seq .none (.block (.loop ⟨[(10,.int .i64),(3,.tv),(8,.tv),(9,.int .i64)],[],[],[]⟩ .none))) .none)))) mixed (fun _ _=>Tryd.call31 _ _) Tryd.func31 (by kernel_rfl) (by kernel_rfl) h
theorem Kp (v_0:Int) (b:Bool) (d:Bool) (v_3:B8) (v_4:Int) (v_5:Int) (v_6:Int) (v_7:Int) (v_8:Int) (v_9:B8) (v_10:TV) (v_11:TV) (v_12:TV) (left:Int) (st:St) (K:V13 (St->Prop)) (h:CallT PR By [v_10] [.one .tv] st (fun (v1:TV) f4=>need (List.all [v1] At) (BId (left<1) (need (List.all (cV v_0 b d v_3 v_4 v_5 v_6 v_7 v_8 v_9 v1 .nilSlice .nilSlice) At) (K v_0 b d v_3 v_4 v_5 v_6 v_7 v_8 v_9 v1 .nilSlice .nilSlice f4)) (need (isSl v_11) (∃(I1:TV->Int->Int->TV->Int->V13 (V13 (St->Prop))) (M1:TV->Int->Int->TV->Int->V13 (V13 (St->Nat))),(I1 .nilSlice 0 left v_11 ((lenS v_11:Int)) v_0 b d v_3 v_4 v_5 v_6 v_7 v_8 v_9 v1 v_11 v_12 0 false false [] 0 0 0 0 0 [] .nilSlice .nilSlice .nilSlice f4)/\∀a6 e a b y n1 b1 b2 s1 n2 n3 n4 n5 n6 s2 v2 v3 v4 n7 b3 b4 s3 n8 n9 w s x s4 v5 v6 v7 v,I1 a6 e a b y n1 b1 b2 s1 n2 n3 n4 n5 n6 s2 v2 v3 v4 n7 b3 b4 s3 n8 n9 w s x s4 v5 v6 v7 v->(BId (e<y) (((0<=e/\e<(lenZ 13 b:Int))/\Ar ((Aj v [] (.t (ixT 13 b e.toNat)) 0 13).map TV.agg) (fun (x1:TV)=>BF [.int .i64,.bool,.bool,.str,.int .i64,.int .i64,.int .i64,.int .i64,.int .i64,.str,.tv,.tv,.tv] x1 (fun (c7:Int) (b5 b6:Bool) (s5:B8) (g5 e5 e7 d2 e3:Int) (s6:B8) (v8 v9 f7:TV)=>need (List.all (cV c7 b5 b6 s5 g5 e5 e7 d2 e3 s6 v8 v9 f7) At) (CallT PR Cp [(.agg (cV c7 b5 b6 s5 g5 e5 e7 d2 e3 s6 v8 v9 f7)),(.int .i64 (i64.wrap (a-(1:Int))))] [sV] v (fun (f3:Int) (b7 b8:Bool) (s7:B8) (d8 e1 e9 d4 e6:Int) (s8:B8) (g4 f8 g9:TV) h4=>need (List.all (cV f3 b7 b8 s7 d8 e1 e9 d4 e6 s8 g4 f8 g9) At) (HT 37 13 168 a6 1 (cV f3 b7 b8 s7 d8 e1 e9 d4 e6 s8 g4 f8 g9) h4 (fun (c8:TV) c9=>(I1 c8 ((i64.wrap (e+(1:Int)))) a b y n1 b1 b2 s1 n2 n3 n4 n5 n6 s2 v2 v3 v4 n7 b3 b4 s3 n8 n9 w s x s4 v5 v6 v7 c9/\M1 c8 ((i64.wrap (e+(1:Int)))) a b y n1 b1 b2 s1 n2 n3 n4 n5 n6 s2 v2 v3 v4 n7 b3 b4 s3 n8 n9 w s x s4 v5 v6 v7 c9<M1 a6 e a b y n1 b1 b2 s1 n2 n3 n4 n5 n6 s2 v2 v3 v4 n7 b3 b4 s3 n8 n9 w s x s4 v5 v6 v7 v))))))))) (need (isSl v4) (∃(I2:TV->Int->Int->TV->TV->Int->V13 (V13 (St->Prop))) (M2:TV->Int->Int->TV->TV->Int->V13 (V13 (St->Nat))),(I2 .nilSlice 0 a a6 v4 ((lenS v4:Int)) n1 b1 b2 s1 n2 n3 n4 n5 n6 s2 v2 v3 v4 n7 b3 b4 s3 n8 n9 w s x s4 v5 v6 v7 v)/\∀o f c g d z n b9 p s9 i q m l k j r c3 a7 a0 a8 c1 a4 c0 c2 a2 a9 b0 c4 a5 a3 a1 u,I2 o f c g d z n b9 p s9 i q m l k j r c3 a7 a0 a8 c1 a4 c0 c2 a2 a9 b0 c4 a5 a3 a1 u->(BId (f<z) (((0<=f/\f<(lenZ 14 d:Int))/\Ar ((Aj u [] (.t (ixT 14 d f.toNat)) 0 14).map TV.agg) (fun (x2:TV)=>BF [.str,.int .i64,.bool,.bool,.str,.int .i64,.int .i64,.int .i64,.int .i64,.int .i64,.str,.tv,.tv,.tv] x2 (fun (c5:B8) (h0:Int) (d5 e8:Bool) (f5:B8) (d0 g6 f2 c6 g2:Int) (f0:B8) (g7 e4 h1:TV)=>need (List.all [.str c5,.int .i64 h0,.bool d5,.bool e8,.str f5,.int .i64 d0,.int .i64 g6,.int .i64 f2,.int .i64 c6,.int .i64 g2,.str f0,g7,e4,h1] At) (CallT PR Cp [(.agg (cV h0 d5 e8 f5 d0 g6 f2 c6 g2 f0 g7 e4 h1)),(.int .i64 (i64.wrap (c-(1:Int))))] [sV] u (fun (d9:Int) (g1 f9:Bool) (g0:B8) (e2 g3 d1 g8 f6:Int) (h2:B8) (e0 f1 d3:TV) h3=>need (List.all [.str c5,.int .i64 d9,.bool g1,.bool f9,.str g0,.int .i64 e2,.int .i64 g3,.int .i64 d1,.int .i64 g8,.int .i64 f6,.str h2,e0,f1,d3] At) (HT 50 14 184 o 1 [.str c5,.int .i64 d9,.bool g1,.bool f9,.str g0,.int .i64 e2,.int .i64 g3,.int .i64 d1,.int .i64 g8,.int .i64 f6,.str h2,e0,f1,d3] h3 (fun (d6:TV) d7=>(I2 d6 ((i64.wrap (f+(1:Int)))) c g d z n b9 p s9 i q m l k j r c3 a7 a0 a8 c1 a4 c0 c2 a2 a9 b0 c4 a5 a3 a1 d7/\M2 d6 ((i64.wrap (f+(1:Int)))) c g d z n b9 p s9 i q m l k j r c3 a7 a0 a8 c1 a4 c0 c2 a2 a9 b0 c4 a5 a3 a1 d7<M2 o f c g d z n b9 p s9 i q m l k j r c3 a7 a0 a8 c1 a4 c0 c2 a2 a9 b0 c4 a5 a3 a1 u))))))))) (need (List.all [g] At) (need (List.all [o] At) (need (List.all (cV n b9 p s9 i q m l k j r g o) At) (K n b9 p s9 i q m l k j r g o u))))))))))))):CallT PR Cp [(.agg (cV v_0 b d v_3 v_4 v_5 v_6 v_7 v_8 v_9 v_10 v_11 v_12)),.int .i64 left] [sV] st K:=
 Ag (cfg:=⟨[2,4,7,10],[33,52],[]⟩) (h:=(.seq .none (.seq .none (.seq .none (.seq .none (.seq (.seq .none (.block (.loop ⟨[(5,.tv),(23,.int .i64),(1,.int .i64),(21,.tv),(22,.int .i64)],[(2,0,0),(4,1,0)],[(0,13),(1,13)],[(0,0,.int .i64),(0,1,.bool),(0,2,.bool),(0,3,.str),(0,4,.int .i64),(0,5,.int .i64),(0,6,.int .i64),(0,7,.int .i64),(0,8,.int .i64),(0,9,.str),(0,10,.tv),(0,11,.tv),(0,12,.tv),(1,0,.int .i64),(1,1,.bool),(1,2,.bool),(1,3,.str),(1,4,.int .i64),(1,5,.int .i64),(1,6,.int .i64),(1,7,.int .i64),(1,8,.int .i64),(1,9,.str),(1,10,.tv),(1,11,.tv),(1,12,.tv)]⟩ .none))) (.seq .none (.seq (.seq .none (.block (.loop ⟨[(8,.tv),(38,.int .i64),(1,.int .i64),(5,.tv),(36,.tv),(37,.int .i64)],[(2,0,0),(4,1,0)],[(0,13),(1,13)],[(0,0,.int .i64),(0,1,.bool),(0,2,.bool),(0,3,.str),(0,4,.int .i64),(0,5,.int .i64),(0,6,.int .i64),(0,7,.int .i64),(0,8,.int .i64),(0,9,.str),(0,10,.tv),(0,11,.tv),(0,12,.tv),(1,0,.int .i64),(1,1,.bool),(1,2,.bool),(1,3,.str),(1,4,.int .i64),(1,5,.int .i64),(1,6,.int .i64),(1,7,.int .i64),(1,8,.int .i64),(1,9,.str),(1,10,.tv),(1,11,.tv),(1,12,.tv)]⟩ .none))) .none)))))))) mixed (fun _ _=>Tryd.call32 _ _) Tryd.func32 (by kernel_rfl) (by kernel_rfl) h
theorem Ef (s:TV) (sq:TV) (st:St) (K:Bool->St->Prop) (h:need (isSl s) (need (isSl sq) (BId ((lenS s:Int)≠(lenS sq:Int)) (K false st) (need (isSl s) (∃(I1:Int->TV->TV->Int->St->Prop) (M1:Int->TV->TV->Int->St->Nat),(I1 0 s sq ((lenS s:Int)) st)/\∀a c d e b,I1 a c d e b->(BId (a<e) (((0<=a/\a<(lenZ 1 c:Int))/\Ar (Ac b [] (.t (ixT 1 c a.toNat)) 0) (fun (x1:TV)=>Bj (.int .u8) x1 (fun (n1:Int)=>((0<=a/\a<(lenZ 1 d:Int))/\Ar (Ac b [] (.t (ixT 1 d a.toNat)) 0) (fun (x2:TV)=>Bj (.int .u8) x2 (fun (n2:Int)=>BId (n1≠n2) (K false b) ((I1 ((i64.wrap (a+(1:Int)))) c d e b/\M1 ((i64.wrap (a+(1:Int)))) c d e b<M1 a c d e b))))))))) (K true b))))))):CallT PR Bx [s,sq] [.one .bool] st K:=
 Ag (cfg:=⟨[],[],[]⟩) (h:=(.seq .none (.seq .none (.seq (.seq .none (.block (.loop ⟨[(13,.int .i64),(0,.tv),(1,.tv),(12,.int .i64)],[],[],[]⟩ .none))) .none)))) mixed (fun _ _=>Tryd.call33 _ _) Tryd.func33 (by kernel_rfl) (by kernel_rfl) h
theorem Kl (v_0:Int) (v_1:Bool) (v_2:Bool) (v_3:B8) (v_4:Int) (v_5:Int) (v_6:Int) (v_7:Int) (v_8:Int) (v_9:B8) (v_10:TV) (v_11:TV) (v_12:TV) (st:St) (K:TV->St->Prop) (h:CallT PR Bu [v_12] [.one .tv] st (fun (v1:TV) b=>CallT PR AF [v1,(.func CB [])] [] b (fun (a:St)=>K v1 a))):CallT PR Co [(.agg (cV v_0 v_1 v_2 v_3 v_4 v_5 v_6 v_7 v_8 v_9 v_10 v_11 v_12))] [.one .tv] st K:=
 Ag (cfg:=⟨[1],[],[]⟩) (h:= .none) mixed (fun _ _=>Tryd.call34 _ _) Tryd.func34 (by kernel_rfl) (by kernel_rfl) h
theorem Ko (x_0:Int) (x_1:Bool) (x_2:Bool) (x_3:B8) (x_4:Int) (x_5:Int) (x_6:Int) (x_7:Int) (x_8:Int) (x_9:B8) (x_10:TV) (x_11:TV) (x_12:TV) (y_0:Int) (y_1:Bool) (y_2:Bool) (y_3:B8) (y_4:Int) (y_5:Int) (y_6:Int) (y_7:Int) (y_8:Int) (y_9:B8) (y_10:TV) (y_11:TV) (y_12:TV) (free0:TV) (free1:TV) (st:St) (K:Bool->St->Prop) (h:Ar (Ac st [] (.t free0) 0) (fun (x1:TV)=>Bj .bool x1 (fun (b1:Bool)=>Ar (Ac st [] (.t free1) 0) (fun (x2:TV)=>Bj (.int .i64) x2 (fun (n1:Int)=>CallT PR DX [(.agg (cV x_0 x_1 x_2 x_3 x_4 x_5 x_6 x_7 x_8 x_9 x_10 x_11 x_12)),(.agg (cV y_0 y_1 y_2 y_3 y_4 y_5 y_6 y_7 y_8 y_9 y_10 y_11 y_12)),.bool b1,(.int .i64 (i64.wrap (n1-(1:Int))))] [.one .bool] st (fun (b2:Bool) a=>K b2 a)))))):CallT PR BX [(.agg (cV x_0 x_1 x_2 x_3 x_4 x_5 x_6 x_7 x_8 x_9 x_10 x_11 x_12)),(.agg (cV y_0 y_1 y_2 y_3 y_4 y_5 y_6 y_7 y_8 y_9 y_10 y_11 y_12)),free0,free1] [.one .bool] st K:=
 Ag (cfg:=⟨[4,5],[],[]⟩) (h:= .none) mixed (fun _ _=>Tryd.call35 _ _) Tryd.func35 (by kernel_rfl) (by kernel_rfl) h
theorem Bd (s:TV) (sq:TV) (eq:TV) (st:St) (K:Bool->St->Prop) (h:need (isSl s) (need (isSl sq) (BId ((lenS s:Int)≠(lenS sq:Int)) (K false st) (need (isSl s) (∃(I1:Int->TV->TV->TV->Int->St->Prop) (M1:Int->TV->TV->TV->Int->St->Nat),(I1 0 sq eq s ((lenS s:Int)) st)/\∀a c b d f e,I1 a c b d f e->(BId (a<f) (((0<=a/\a<(lenZ 13 d:Int))/\Ar ((Aj e [] (.t (ixT 13 d a.toNat)) 0 13).map TV.agg) (fun (x1:TV)=>BF [.int .i64,.bool,.bool,.str,.int .i64,.int .i64,.int .i64,.int .i64,.int .i64,.str,.tv,.tv,.tv] x1 (fun (n1:Int) (b1 b2:Bool) (s1:B8) (n2 n3 n4 n5 n6:Int) (s2:B8) (v1 v2 v3:TV)=>need (List.all (cV n1 b1 b2 s1 n2 n3 n4 n5 n6 s2 v1 v2 v3) At) (((0<=a/\a<(lenZ 13 c:Int))/\Ar ((Aj e [] (.t (ixT 13 c a.toNat)) 0 13).map TV.agg) (fun (x2:TV)=>BF [.int .i64,.bool,.bool,.str,.int .i64,.int .i64,.int .i64,.int .i64,.int .i64,.str,.tv,.tv,.tv] x2 (fun (n7:Int) (b3 b4:Bool) (s3:B8) (n8 n9 j k i:Int) (s4:B8) (v4 v5 v6:TV)=>need (List.all (cV n7 b3 b4 s3 n8 n9 j k i s4 v4 v5 v6) At) (Et PR b [(.agg (cV n1 b1 b2 s1 n2 n3 n4 n5 n6 s2 v1 v2 v3)),(.agg (cV n7 b3 b4 s3 n8 n9 j k i s4 v4 v5 v6))] [.one .bool] e (fun (b5:Bool) g=>BIf (!b5) (K false g) ((I1 ((i64.wrap (a+(1:Int)))) c b d f g/\M1 ((i64.wrap (a+(1:Int)))) c b d f g<M1 a c b d f e)))))))))))) (K true e))))))):CallT PR Ap [s,sq,eq] [.one .bool] st K:=
 Ag (cfg:=⟨[8,9],[],[]⟩) (h:=(.seq .none (.seq .none (.seq (.seq .none (.block (.loop ⟨[(17,.int .i64),(1,.tv),(2,.tv),(15,.tv),(16,.int .i64)],[],[],[]⟩ .none))) .none)))) mixed (fun _ _=>Tryd.call36 _ _) Tryd.func36 (by kernel_rfl) (by kernel_rfl) h
theorem Be (s:TV) (sq:TV) (eq:TV) (st:St) (K:Bool->St->Prop) (h:need (isSl s) (need (isSl sq) (BId ((lenS s:Int)≠(lenS sq:Int)) (K false st) (need (isSl s) (∃(I1:Int->TV->TV->TV->Int->St->Prop) (M1:Int->TV->TV->TV->Int->St->Nat),(I1 0 sq eq s ((lenS s:Int)) st)/\∀a c b d f e,I1 a c b d f e->(BId (a<f) (((0<=a/\a<(lenZ 14 d:Int))/\Ar ((Aj e [] (.t (ixT 14 d a.toNat)) 0 14).map TV.agg) (fun (x1:TV)=>BF [.str,.int .i64,.bool,.bool,.str,.int .i64,.int .i64,.int .i64,.int .i64,.int .i64,.str,.tv,.tv,.tv] x1 (fun (s1:B8) (n1:Int) (b1 b2:Bool) (s2:B8) (n2 n3 n4 n5 n6:Int) (s3:B8) (v1 v2 v3:TV)=>need (List.all [.str s1,.int .i64 n1,.bool b1,.bool b2,.str s2,.int .i64 n2,.int .i64 n3,.int .i64 n4,.int .i64 n5,.int .i64 n6,.str s3,v1,v2,v3] At) (((0<=a/\a<(lenZ 14 c:Int))/\Ar ((Aj e [] (.t (ixT 14 c a.toNat)) 0 14).map TV.agg) (fun (x2:TV)=>BF [.str,.int .i64,.bool,.bool,.str,.int .i64,.int .i64,.int .i64,.int .i64,.int .i64,.str,.tv,.tv,.tv] x2 (fun (s4:B8) (n7:Int) (b3 b4:Bool) (s5:B8) (n8 n9 j k i:Int) (s6:B8) (v4 v5 v6:TV)=>need (List.all [.str s4,.int .i64 n7,.bool b3,.bool b4,.str s5,.int .i64 n8,.int .i64 n9,.int .i64 j,.int .i64 k,.int .i64 i,.str s6,v4,v5,v6] At) (Et PR b [(.agg [.str s1,.int .i64 n1,.bool b1,.bool b2,.str s2,.int .i64 n2,.int .i64 n3,.int .i64 n4,.int .i64 n5,.int .i64 n6,.str s3,v1,v2,v3]),(.agg [.str s4,.int .i64 n7,.bool b3,.bool b4,.str s5,.int .i64 n8,.int .i64 n9,.int .i64 j,.int .i64 k,.int .i64 i,.str s6,v4,v5,v6])] [.one .bool] e (fun (b5:Bool) g=>BIf (!b5) (K false g) ((I1 ((i64.wrap (a+(1:Int)))) c b d f g/\M1 ((i64.wrap (a+(1:Int)))) c b d f g<M1 a c b d f e)))))))))))) (K true e))))))):CallT PR Aq [s,sq,eq] [.one .bool] st K:=
 Ag (cfg:=⟨[8,9],[],[]⟩) (h:=(.seq .none (.seq .none (.seq (.seq .none (.block (.loop ⟨[(17,.int .i64),(1,.tv),(2,.tv),(15,.tv),(16,.int .i64)],[],[],[]⟩ .none))) .none)))) mixed (fun _ _=>Tryd.call37 _ _) Tryd.func37 (by kernel_rfl) (by kernel_rfl) h
theorem Km (x_0:B8) (x_1:Int) (x_2:Bool) (x_3:Bool) (x_4:B8) (x_5:Int) (x_6:Int) (x_7:Int) (x_8:Int) (x_9:Int) (x_10:B8) (x_11:TV) (x_12:TV) (x_13:TV) (y_0:B8) (y_1:Int) (y_2:Bool) (y_3:Bool) (y_4:B8) (y_5:Int) (y_6:Int) (y_7:Int) (y_8:Int) (y_9:Int) (y_10:B8) (y_11:TV) (y_12:TV) (y_13:TV) (free0:TV) (st:St) (K:Bool->St->Prop) (h:BId (x_0=y_0) (Ar (Ac st [] (.t free0) 0) (fun (v1:TV)=>Et PR v1 [(.agg (cV x_1 x_2 x_3 x_4 x_5 x_6 x_7 x_8 x_9 x_10 x_11 x_12 x_13)),(.agg (cV y_1 y_2 y_3 y_4 y_5 y_6 y_7 y_8 y_9 y_10 y_11 y_12 y_13))] [.one .bool] st (fun (b1:Bool) a=>K b1 a))) (K false st)):CallT PR Di [(.agg [.str x_0,.int .i64 x_1,.bool x_2,.bool x_3,.str x_4,.int .i64 x_5,.int .i64 x_6,.int .i64 x_7,.int .i64 x_8,.int .i64 x_9,.str x_10,x_11,x_12,x_13]),(.agg [.str y_0,.int .i64 y_1,.bool y_2,.bool y_3,.str y_4,.int .i64 y_5,.int .i64 y_6,.int .i64 y_7,.int .i64 y_8,.int .i64 y_9,.str y_10,y_11,y_12,y_13]),free0] [.one .bool] st K:=
 Ag (cfg:=⟨[3,4],[],[]⟩) (h:= .none) mixed (fun _ _=>Tryd.call38 _ _) Tryd.func38 (by kernel_rfl) (by kernel_rfl) h
theorem Fz (b:Nat) (depth:Int) (st:St) (K:TV->St->Prop) (h:need (List.all [(.map st.nb)] At) (Ar (Ac ((st.push (.map []) none).push (.cells [.nilSlice,(.map st.nb),.int .i64 depth]) (some 77)) [] (.t (.box b 2)) 0) (fun (v1:TV)=>puK v1 (.box (st.push (.map []) none).nb 0) (.bool true) ((st.push (.map []) none).push (.cells [.nilSlice,(.map st.nb),.int .i64 depth]) (some 77)) (fun a=>Ar (Ac a [] (.t (.box b 3)) 0) (fun (x2:TV)=>Bj (.int .i64) x2 (fun (n1:Int)=>stB a (.box b 3) [(.int .i64 (i64.wrap (n1+(1:Int))))] (fun c=>K ((.box (st.push (.map []) none).nb 0)) c))))))):CallT PR AC [(.box b 0),.int .i64 depth] [.one .tv] st K:=
 Ag (cfg:=⟨[],[],[]⟩) (h:= .none) mixed (fun _ _=>Tryd.call39 _ _) Tryd.func39 (by kernel_rfl) (by kernel_rfl) h
theorem IL (a_0:Bool) (a_1:Bool) (a_2:TV) (a_3:Int) (a_4:Bool) (a_5:Bool) (a_6:B8) (a_7:Int) (a_8:Int) (a_9:Int) (a_10:Int) (a_11:Int) (a_12:B8) (a_13:TV) (a_14:TV) (a_15:TV) (st:St) (K:Bool->St->Prop) (h:need (isSl a_2) (BId ((0:Int)<(lenS a_2:Int)) (BIf a_0 (BIf (!a_0) (K true st) (CallT PR Cq [(.agg (cV a_3 a_4 a_5 a_6 a_7 a_8 a_9 a_10 a_11 a_12 a_13 a_14 a_15))] [.one .bool] st (fun (b1:Bool) b=>K b1 b))) (BIf (!a_1) (BIf (!a_0) (K true st) (CallT PR Cq [(.agg (cV a_3 a_4 a_5 a_6 a_7 a_8 a_9 a_10 a_11 a_12 a_13 a_14 a_15))] [.one .bool] st (fun (b2:Bool) a=>K b2 a))) (K false st))) (K false st))):CallT PR CC [(.agg [.bool a_0,.bool a_1,a_2,.int .i64 a_3,.bool a_4,.bool a_5,.str a_6,.int .i64 a_7,.int .i64 a_8,.int .i64 a_9,.int .i64 a_10,.int .i64 a_11,.str a_12,a_13,a_14,a_15])] [.one .bool] st K:=
 Ag (cfg:=⟨[1],[],[]⟩) (h:= .none) mixed (fun _ _=>Tryd.call40 _ _) Tryd.func40 (by kernel_rfl) (by kernel_rfl) h
theorem FA (b:Nat) (t:Nat) (a_0:Bool) (a_1:Bool) (a_2:TV) (a_3:Int) (a_4:Bool) (a_5:Bool) (a_6:B8) (a_7:Int) (a_8:Int) (a_9:Int) (a_10:Int) (a_11:Int) (a_12:B8) (a_13:TV) (a_14:TV) (a_15:TV) (st:St) (K:TV->Bool->St->Prop) (h:need (isSl a_2) (((H9 1 a_2=true/\0<=(i64.wrap ((lenS a_2:Int)-(1:Int)))/\(i64.wrap ((lenS a_2:Int)-(1:Int)))<=(lenS a_2:Int))/\need (isSl (slT 1 .non a_2 0 (Int.toNat (i64.wrap ((lenS a_2:Int)-(1:Int)))))) (∃(I1:TV->Int->TV->TV->Int->Bool->Bool->TV->V13 (St->Prop)) (M1:TV->Int->TV->TV->Int->Bool->Bool->TV->V13 (St->Nat)),(I1 ((.box t 0)) 0 ((.box b 0)) ((slT 1 .non a_2 0 (Int.toNat (i64.wrap ((lenS a_2:Int)-(1:Int)))))) ((lenS (slT 1 .non a_2 0 (Int.toNat (i64.wrap ((lenS a_2:Int)-(1:Int))))):Int)) a_0 a_1 a_2 a_3 a_4 a_5 a_6 a_7 a_8 a_9 a_10 a_11 a_12 a_13 a_14 a_15 st)/\∀d c g e f b1 b2 v1 n1 b3 b4 s1 n2 n3 n4 n5 n6 s2 v2 v3 v4 a,I1 d c g e f b1 b2 v1 n1 b3 b4 s1 n2 n3 n4 n5 n6 s2 v2 v3 v4 a->(BId (c<f) (((0<=c/\c<(lenZ 1 e:Int))/\Ar (Ac a [] (.t (ixT 1 e c.toNat)) 0) (fun (x1:TV)=>Bj .str x1 (fun (s3:B8)=>need (isPtr d) (need (isPtr d) (Ar (Ac a [] (.t (AV d 1)) 0) (fun (v5:TV)=>Ar (Er a v5) (fun (es1:List (B8×TV))=>need (FH (Au .nilPtr (AA s3 es1))) (BIf (BT (Au .nilPtr (AA s3 es1))) (need (isPtr d) (need (isPtr d) (Ar (Ac a [] (.t (AV d 2)) 0) (fun (x3:TV)=>Bj (.int .i64) x3 (fun (n7:Int)=>CallT PR AC [g,(.int .i64 (i64.wrap (n7+(1:Int))))] [.one .tv] a (fun (v6:TV) k=>need (List.all [v6] At) (CallT PR AS [d,.str s3,(.box k.nb 0)] [] (k.push (.cells [v6,.nilSlice,.int .i64 0,.bool false,.bool false,(.str []),.int .i64 0,.int .i64 0,.int .i64 0,.int .i64 0,.int .i64 0,(.str []),.nilSlice,.nilSlice,.nilSlice,.int .i64 0]) (some 81)) (fun (l:St)=>(I1 v6 ((i64.wrap (c+(1:Int)))) g e f b1 b2 v1 n1 b3 b4 s1 n2 n3 n4 n5 n6 s2 v2 v3 v4 l/\M1 v6 ((i64.wrap (c+(1:Int)))) g e f b1 b2 v1 n1 b3 b4 s1 n2 n3 n4 n5 n6 s2 v2 v3 v4 l<M1 d c g e f b1 b2 v1 n1 b3 b4 s1 n2 n3 n4 n5 n6 s2 v2 v3 v4 a))))))))) (need (isPtr (Au .nilPtr (AA s3 es1))) (need (isPtr (Au .nilPtr (AA s3 es1))) (Ar (Ac a [] (.t (AV (Au .nilPtr (AA s3 es1)) 0)) 0) (fun (v7:TV)=>need (FH v7) (BIf (!BT v7) (need (isPtr (Au .nilPtr (AA s3 es1))) (need (isPtr (Au .nilPtr (AA s3 es1))) (Ar (Ac a [] (.t (AV (Au .nilPtr (AA s3 es1)) 0)) 0) (fun (v8:TV)=>(I1 v8 ((i64.wrap (c+(1:Int)))) g e f b1 b2 v1 n1 b3 b4 s1 n2 n3 n4 n5 n6 s2 v2 v3 v4 a/\M1 v8 ((i64.wrap (c+(1:Int)))) g e f b1 b2 v1 n1 b3 b4 s1 n2 n3 n4 n5 n6 s2 v2 v3 v4 a<M1 d c g e f b1 b2 v1 n1 b3 b4 s1 n2 n3 n4 n5 n6 s2 v2 v3 v4 a))))) (need (isPtr (Au .nilPtr (AA s3 es1))) (need (isPtr (Au .nilPtr (AA s3 es1))) (Ar (Ac a [] (.t (AV (Au .nilPtr (AA s3 es1)) 1)) 0) (fun (v9:TV)=>need (isSl v9) (BId ((0:Int)<(lenS v9:Int)) (BIf b1 (need (isPtr (Au .nilPtr (AA s3 es1))) (need (isPtr (Au .nilPtr (AA s3 es1))) (Ar (Ac a [] (.t (AV (Au .nilPtr (AA s3 es1)) 1)) 0) (fun (m:TV)=>need (isPtr (Au .nilPtr (AA s3 es1))) (need (isPtr (Au .nilPtr (AA s3 es1))) (Ar (Ac a [] (.t (AV (Au .nilPtr (AA s3 es1)) 1)) 0) (fun (i:TV)=>need (isSl i) (((0<=(i64.wrap ((lenS i:Int)-(1:Int)))/\(i64.wrap ((lenS i:Int)-(1:Int)))<(lenZ 1 m:Int))/\Ar (Ac a [] (.t (ixT 1 m (Int.toNat (i64.wrap ((lenS i:Int)-(1:Int)))))) 0) (fun (j:TV)=>(I1 j ((i64.wrap (c+(1:Int)))) g e f b1 b2 v1 n1 b3 b4 s1 n2 n3 n4 n5 n6 s2 v2 v3 v4 a/\M1 j ((i64.wrap (c+(1:Int)))) g e f b1 b2 v1 n1 b3 b4 s1 n2 n3 n4 n5 n6 s2 v2 v3 v4 a<M1 d c g e f b1 b2 v1 n1 b3 b4 s1 n2 n3 n4 n5 n6 s2 v2 v3 v4 a))))))))))) (K .nilPtr false a)) (K .nilPtr false a)))))))))))))))))))) (K d true a)))))):CallT PR B3 [(.box b 0),(.box t 0),(.agg [.bool a_0,.bool a_1,a_2,.int .i64 a_3,.bool a_4,.bool a_5,.str a_6,.int .i64 a_7,.int .i64 a_8,.int .i64 a_9,.int .i64 a_10,.int .i64 a_11,.str a_12,a_13,a_14,a_15])] [.one .tv,.one .bool] st K:=
 Ag (cfg:=⟨[5],[],[]⟩) (h:=(.seq .none (.seq (.seq .none (.block (.loop ⟨[(1,.tv),(20,.int .i64),(0,.tv),(18,.tv),(19,.int .i64)],[(5,0,0)],[(0,16)],[(0,0,.bool),(0,1,.bool),(0,2,.tv),(0,3,.int .i64),(0,4,.bool),(0,5,.bool),(0,6,.str),(0,7,.int .i64),(0,8,.int .i64),(0,9,.int .i64),(0,10,.int .i64),(0,11,.int .i64),(0,12,.str),(0,13,.tv),(0,14,.tv),(0,15,.tv)]⟩ .none))) .none))) mixed (fun _ _=>Tryd.call41 _ _) Tryd.func41 (by kernel_rfl) (by kernel_rfl) h
theorem ER (b:Nat) (t:Nat) (key:B8) (st:St) (K:Int->St->Prop) (h:Ar (Ac st [] (.t (.box t 1)) 0) (fun (v1:TV)=>Ar (Er st v1) (fun (es1:List (B8×TV))=>need (FH (Au .nilPtr (AA key es1))) (BIf (BT (Au .nilPtr (AA key es1))) (CallT PR AS [(.box t 0),.str key,(.box st.nb 0)] [] (st.push (.cells [.nilPtr,.nilSlice,.int .i64 0,.bool false,.bool false,(.str []),.int .i64 0,.int .i64 0,.int .i64 0,.int .i64 0,.int .i64 0,(.str []),.nilSlice,.nilSlice,.nilSlice,.int .i64 0]) (some 81)) (fun (f:St)=>Ar (Ac f [] (.t (.box b 3)) 0) (fun (x2:TV)=>Bj (.int .i64) x2 (fun (n1:Int)=>stB f (.box b 3) [(.int .i64 (i64.wrap (n1+(1:Int))))] (fun d=>Ar (Ac d [] (.t (.box t 2)) 0) (fun (x3:TV)=>Bj (.int .i64) x3 (fun (n2:Int)=>CallT PR AC [(.box b 0),(.int .i64 (i64.wrap (n2+(2:Int))))] [.one .tv] d (fun (v2:TV) l=>need (List.all [v2] At) (stB l (.box b 1) [v2] (fun a=>Ar (Ac a [] (.t (.box st.nb 1)) 0) (fun (v3:TV)=>Ar (Ac a [] (.t (.box b 1)) 0) (fun (v4:TV)=>need (List.all [v4] At) (need (List.all [v4] At) (Cx 61 1 8 v3 1 [v4] a (fun (v5:TV) k=>need (List.all [v5] At) (stB k (.box st.nb 1) [v5] (fun i=>K 0 i))))))))))))))))) (need (isPtr (Au .nilPtr (AA key es1))) (need (isPtr (Au .nilPtr (AA key es1))) (Ar (Ac st [] (.t (AV (Au .nilPtr (AA key es1)) 1)) 0) (fun (v6:TV)=>need (isSl v6) (BId ((lenS v6:Int)=(0:Int)) (K 6 st) (Ar (Ac st [] (.t (.box t 2)) 0) (fun (x7:TV)=>Bj (.int .i64) x7 (fun (n3:Int)=>CallT PR AC [(.box b 0),(.int .i64 (i64.wrap (n3+(2:Int))))] [.one .tv] st (fun (v7:TV) j=>need (List.all [v7] At) (stB j (.box b 1) [v7] (fun c=>need (isPtr (Au .nilPtr (AA key es1))) (need (isPtr (Au .nilPtr (AA key es1))) (Ar (Ac c [] (.t (AV (Au .nilPtr (AA key es1)) 1)) 0) (fun (v8:TV)=>Ar (Ac c [] (.t (.box b 1)) 0) (fun (v9:TV)=>need (List.all [v9] At) (need (List.all [v9] At) (Cx 61 1 8 v8 1 [v9] c (fun (e:TV) m=>need (isPtr (Au .nilPtr (AA key es1))) (need (isPtr (Au .nilPtr (AA key es1))) (need (List.all [e] At) (stB m (AV (Au .nilPtr (AA key es1)) 1) [e] (fun g=>K 0 g)))))))))))))))))))))))))):CallT PR BP [(.box b 0),(.box t 0),.str key] [.one (.int .i64)] st K:=
 Ag (cfg:=⟨[],[],[]⟩) (h:= .none) mixed (fun _ _=>Tryd.call42 _ _) Tryd.func42 (by kernel_rfl) (by kernel_rfl) h
theorem Fg (b:Nat) (t:Nat) (key:B8) (st:St) (K:Int->St->Prop) (h:Ar (Ac st [] (.t (.box t 1)) 0) (fun (v1:TV)=>Ar (Er st v1) (fun (es1:List (B8×TV))=>need (FH (Au .nilPtr (AA key es1))) (BIf (BT (Au .nilPtr (AA key es1))) (Ar (Ac st [] (.t (.box t 2)) 0) (fun (x2:TV)=>Bj (.int .i64) x2 (fun (n1:Int)=>CallT PR AC [(.box b 0),(.int .i64 (i64.wrap (n1+(1:Int))))] [.one .tv] st (fun (v2:TV) c=>need (List.all [v2] At) (CallT PR AS [(.box t 0),.str key,(.box c.nb 0)] [] (c.push (.cells [v2,.nilSlice,.int .i64 0,.bool false,.bool false,(.str []),.int .i64 0,.int .i64 0,.int .i64 0,.int .i64 0,.int .i64 0,(.str []),.nilSlice,.nilSlice,.nilSlice,.int .i64 0]) (some 81)) (fun (a:St)=>Ar (Ac a [] (.t (.box c.nb 0)) 0) (fun (v3:TV)=>need (FH v3) (BIf (BT v3) (K 8 a) (Ar (Ac a [] (.t (.box b 2)) 0) (fun (v4:TV)=>Ar (Ac a [] (.t (.box c.nb 0)) 0) (fun (v5:TV)=>Ar (plook a v4 v5 false (.bool false)) (fun (x6:TV)=>Bj .bool x6 (fun (b1:Bool)=>BIf (!b1) (K 8 a) (Ar (Ac a [] (.t (.box b 2)) 0) (fun (v6:TV)=>Ar (Ac a [] (.t (.box c.nb 0)) 0) (fun (v7:TV)=>pdK v6 v7 a (fun f=>Ar (Ac f [] (.t (.box c.nb 0)) 0) (fun (v8:TV)=>need (List.all [v8] At) (stB f (.box b 1) [v8] (fun l=>K 0 l)))))))))))))))))))) (need (isPtr (Au .nilPtr (AA key es1))) (need (isPtr (Au .nilPtr (AA key es1))) (Ar (Ac st [] (.t (AV (Au .nilPtr (AA key es1)) 0)) 0) (fun (v9:TV)=>need (FH v9) (BIf (BT v9) (K 8 st) (Ar (Ac st [] (.t (.box b 2)) 0) (fun (n:TV)=>need (isPtr (Au .nilPtr (AA key es1))) (need (isPtr (Au .nilPtr (AA key es1))) (Ar (Ac st [] (.t (AV (Au .nilPtr (AA key es1)) 0)) 0) (fun (g:TV)=>Ar (plook st n g false (.bool false)) (fun (m:TV)=>Bj .bool m (fun (b2:Bool)=>BIf (!b2) (K 8 st) (Ar (Ac st [] (.t (.box b 2)) 0) (fun (i:TV)=>need (isPtr (Au .nilPtr (AA key es1))) (need (isPtr (Au .nilPtr (AA key es1))) (Ar (Ac st [] (.t (AV (Au .nilPtr (AA key es1)) 0)) 0) (fun (k:TV)=>pdK i k st (fun e=>need (isPtr (Au .nilPtr (AA key es1))) (need (isPtr (Au .nilPtr (AA key es1))) (Ar (Ac e [] (.t (AV (Au .nilPtr (AA key es1)) 0)) 0) (fun (d:TV)=>need (List.all [d] At) (stB e (.box b 1) [d] (fun j=>K 0 j))))))))))))))))))))))))))):CallT PR BU [(.box b 0),(.box t 0),.str key] [.one (.int .i64)] st K:=
 Ag (cfg:=⟨[],[],[]⟩) (h:= .none) mixed (fun _ _=>Tryd.call43 _ _) Tryd.func43 (by kernel_rfl) (by kernel_rfl) h
theorem G1 (t:Nat) (key:B8) (e:Nat) (st:St) (K:St->Prop) (h:Ar (Ac st [] (.t (.box t 0)) 0) (fun (v1:TV)=>Cx 9 1 16 v1 1 [.str key] st (fun (v2:TV) c=>need (List.all [v2] At) (stB c (.box t 0) [v2] (fun a=>Ar (Ac a [] (.t (.box t 1)) 0) (fun (v3:TV)=>muK v3 key (.box e 0) a (fun b=>K b))))))):CallT PR AS [(.box t 0),.str key,(.box e 0)] [] st K:=
 Ag (cfg:=⟨[],[],[]⟩) (h:= .none) mixed (fun _ _=>Tryd.call44 _ _) Tryd.func44 (by kernel_rfl) (by kernel_rfl) h
theorem LW (v_0:Int) (v_1:Bool) (v_2:Bool) (v_3:B8) (v_4:Int) (v_5:Int) (v_6:Int) (v_7:Int) (v_8:Int) (v_9:B8) (v_10:TV) (v_11:TV) (v_12:TV) (st:St) (K:Int->St->Prop) (h:CallT PR DW [(.agg (cV v_0 v_1 v_2 v_3 v_4 v_5 v_6 v_7 v_8 v_9 v_10 v_11 v_12)),.int .i64 65536] [.one (.int .i64)] st (fun (n1:Int) a=>K n1 a)):CallT PR FK [(.agg (cV v_0 v_1 v_2 v_3 v_4 v_5 v_6 v_7 v_8 v_9 v_10 v_11 v_12))] [.one (.int .i64)] st K:=
 Ag (cfg:=⟨[1],[],[]⟩) (h:= .none) mixed (fun _ _=>Tryd.call45 _ _) Tryd.func45 (by kernel_rfl) (by kernel_rfl) h
theorem KM (v_0:Int) (v_1:Bool) (v_2:Bool) (v_3:B8) (v_4:Int) (v_5:Int) (v_6:Int) (v_7:Int) (v_8:Int) (v_9:B8) (v_10:TV) (v_11:TV) (v_12:TV) (st:St) (K:Int->St->Prop) (h:CallT PR DZ [(.agg (cV v_0 v_1 v_2 v_3 v_4 v_5 v_6 v_7 v_8 v_9 v_10 v_11 v_12)),.int .i64 65536] [.one (.int .i64)] st (fun (n1:Int) a=>K n1 a)):CallT PR E0 [(.agg (cV v_0 v_1 v_2 v_3 v_4 v_5 v_6 v_7 v_8 v_9 v_10 v_11 v_12))] [.one (.int .i64)] st K:=
 Ag (cfg:=⟨[1],[],[]⟩) (h:= .none) mixed (fun _ _=>Tryd.call46 _ _) Tryd.func46 (by kernel_rfl) (by kernel_rfl) h
theorem CE (s:TV) (f:TV) (st:St) (K:Bool->St->Prop) (h:CallT PR BC [s,f] [.one (.int .i64)] st (fun (n1:Int) a=>K ((decide ((0:Int)<=n1))) a)):CallT PR Ax [s,f] [.one .bool] st K:=
 Ag (cfg:=⟨[],[],[]⟩) (h:= .none) mixed (fun _ _=>Tryd.call47 _ _) Tryd.func47 (by kernel_rfl) (by kernel_rfl) h
theorem KO (s:B8) (st:St) (K:Bool->St->Prop) (h:CallT PR Es [.str s] [.one .bool] st (fun (b1:Bool) a=>BIf (!b1) (K true a) (K ((decide ((1024:Int)<(s.length:Int)))) a))):CallT PR Bh [.str s] [.one .bool] st K:=
 Ag (cfg:=⟨[],[],[]⟩) (h:= .none) mixed (fun _ _=>Tryd.call48 _ _) Tryd.func48 (by kernel_rfl) (by kernel_rfl) h
theorem B4 (s:TV) (f:TV) (st:St) (K:Bool->St->Prop) (h:CallT PR Bg [s,f] [.one (.int .i64)] st (fun (n1:Int) a=>K ((decide ((0:Int)<=n1))) a)):CallT PR AT [s,f] [.one .bool] st K:=
 Ag (cfg:=⟨[],[],[]⟩) (h:= .none) mixed (fun _ _=>Tryd.call49 _ _) Tryd.func49 (by kernel_rfl) (by kernel_rfl) h
theorem IM (x_0:Int) (x_1:Bool) (x_2:Bool) (x_3:B8) (x_4:Int) (x_5:Int) (x_6:Int) (x_7:Int) (x_8:Int) (x_9:B8) (x_10:TV) (x_11:TV) (x_12:TV) (st:St) (K:Bool->St->Prop) (h:K ((decide (x_0≠7))) st):CallT PR Ft [(.agg (cV x_0 x_1 x_2 x_3 x_4 x_5 x_6 x_7 x_8 x_9 x_10 x_11 x_12))] [.one .bool] st K:=
 Ag (cfg:=⟨[1],[],[]⟩) (h:= .none) mixed (fun _ _=>Tryd.call50 _ _) Tryd.func50 (by kernel_rfl) (by kernel_rfl) h
theorem Ku (s:B8) (st:St) (K:Bool->St->Prop) (h:BId ((s.length:Int)<=(600:Int)) (CallT PR FN [.str s] [.one .bool] st (fun (b1:Bool) a=>BIf b1 (BId (s=([]:B8)) (K true a) (((0<=(0:Int)/\(0:Int)<(s.length:Int))/\K ((decide (((List.getD s (Int.toNat (0:Int)) 0).toNat:Int)≠(48:Int)))) a))) (K false a))) (K false st)):CallT PR Ej [.str s] [.one .bool] st K:=
 Ag (cfg:=⟨[],[],[]⟩) (h:= .none) mixed (fun _ _=>Tryd.call51 _ _) Tryd.func51 (by kernel_rfl) (by kernel_rfl) h
theorem Kt (a:B8) (st:St) (K:Int->St->Prop) (h:CallT PR D9 [.str a,.str str6] [.one .str] st (fun (s1:B8) b=>K ((i64.wrap ((a.length:Int)-(s1.length:Int)))) b)):CallT PR Ei [.str a] [.one (.int .i64)] st K:=
 Ag (cfg:=⟨[],[],[]⟩) (h:= .none) mixed (fun _ _=>Tryd.call52 _ _) Tryd.func52 (by kernel_rfl) (by kernel_rfl) h
theorem PC (s:B8) (st:St) (K:Int->Int->St->Prop) (h:∃(I1:Int->Int->B8->St->Prop) (M1:Int->Int->B8->St->Nat),(I1 0 0 s st)/\∀c a b d,I1 c a b d->(BId (a<(b.length:Int)) (CallT PR FM [.str b,.int .i64 a] [.one (.int .i64),.one (.int .i64)] d (fun (n1 n2:Int) e=>BId (n2=0) (K 0 5 e) ((I1 ((i64.wrap (c+(1:Int)))) ((i64.wrap (a+n2))) b e/\M1 ((i64.wrap (c+(1:Int)))) ((i64.wrap (a+n2))) b e<M1 c a b d)))) (K c 0 d))):CallT PR IF [.str s] [.one (.int .i64),.one (.int .i64)] st K:=
 Ag (cfg:=⟨[],[],[]⟩) (h:=(.seq .none (.seq .none (.seq (.seq .none (.block (.loop ⟨[(4,.int .i64),(5,.int .i64),(0,.str)],[],[],[]⟩ .none))) .none)))) mixed (fun _ _=>Tryd.call53 _ _) Tryd.func53 (by kernel_rfl) (by kernel_rfl) h
theorem M7 (s:B8) (st:St) (K:Int->St->Prop) (h:CallT PR EF [.str s] [.one .bool] st (fun (b1:Bool) a=>BIf (!b1) (K 5 a) (BId ((1024:Int)<(s.length:Int)) (K 10 a) (K 0 a)))):CallT PR GG [.str s] [.one (.int .i64)] st K:=
 Ag (cfg:=⟨[],[],[]⟩) (h:= .none) mixed (fun _ _=>Tryd.call54 _ _) Tryd.func54 (by kernel_rfl) (by kernel_rfl) h
theorem Eg (s:TV) (st:St) (K:TV->St->Prop) (h:need (isSl s) (BIf (BT s) (K .nilSlice st) (Ar (DH st 1 s) (fun (q1:Nat×List TV)=>need (List.all q1.2 At) (HT 5 1 1 (.list 1 .full 0 []) q1.1 q1.2 st (fun (v1:TV) a=>K v1 a)))))):CallT PR By [s] [.one .tv] st K:=
 Ag (cfg:=⟨[],[7],[]⟩) (h:= .none) mixed (fun _ _=>Tryd.call55 _ _) Tryd.func55 (by kernel_rfl) (by kernel_rfl) h
theorem CH (s:TV) (st:St) (K:TV->St->Prop) (h:need (isSl s) (BIf (BT s) (K .nilSlice st) (Ar (DH st 14 s) (fun (q1:Nat×List TV)=>need (List.all q1.2 At) (HT 50 14 184 (.list 14 .full 0 []) q1.1 q1.2 st (fun (v1:TV) a=>K v1 a)))))):CallT PR Bu [s] [.one .tv] st K:=
 Ag (cfg:=⟨[],[7],[]⟩) (h:= .none) mixed (fun _ _=>Tryd.call56 _ _) Tryd.func56 (by kernel_rfl) (by kernel_rfl) h
theorem A6 (x:TV) (cmp:TV) (st:St) (K:St->Prop) (h:need (isSl x) (CallT PR AU [x,(.int .i64 (lenS x:Int)),cmp] [] st (fun (a:St)=>K a))):CallT PR AF [x,cmp] [] st K:=
 Ag (cfg:=⟨[],[],[]⟩) (h:= .none) mixed (fun _ _=>Tryd.call57 _ _) Tryd.func57 (by kernel_rfl) (by kernel_rfl) h
theorem IK (a_0:B8) (a_1:Int) (a_2:Bool) (a_3:Bool) (a_4:B8) (a_5:Int) (a_6:Int) (a_7:Int) (a_8:Int) (a_9:Int) (a_10:B8) (a_11:TV) (a_12:TV) (a_13:TV) (b_0:B8) (b_1:Int) (b_2:Bool) (b_3:Bool) (b_4:B8) (b_5:Int) (b_6:Int) (b_7:Int) (b_8:Int) (b_9:Int) (b_10:B8) (b_11:TV) (b_12:TV) (b_13:TV) (st:St) (K:Int->St->Prop) (h:CallT PR E3 [.str a_0,.str b_0] [.one (.int .i64)] st (fun (n1:Int) a=>K n1 a)):CallT PR CB [(.agg [.str a_0,.int .i64 a_1,.bool a_2,.bool a_3,.str a_4,.int .i64 a_5,.int .i64 a_6,.int .i64 a_7,.int .i64 a_8,.int .i64 a_9,.str a_10,a_11,a_12,a_13]),(.agg [.str b_0,.int .i64 b_1,.bool b_2,.bool b_3,.str b_4,.int .i64 b_5,.int .i64 b_6,.int .i64 b_7,.int .i64 b_8,.int .i64 b_9,.str b_10,b_11,b_12,b_13])] [.one (.int .i64)] st K:=
 Ag (cfg:=⟨[2,3],[],[]⟩) (h:= .none) mixed (fun _ _=>Tryd.call58 _ _) Tryd.func58 (by kernel_rfl) (by kernel_rfl) h
theorem Kq (v_0:Int) (v_1:Bool) (v_2:Bool) (v_3:B8) (v_4:Int) (v_5:Int) (v_6:Int) (v_7:Int) (v_8:Int) (v_9:B8) (v_10:TV) (v_11:TV) (v_12:TV) (st:St) (K:Bool->St->Prop) (h:BId (v_0=0) (BIf (!v_1) (BIf ((v_2==false)&&(decide (v_3=([]:B8))&&(decide (v_4=(0:Int))&&true))) (BIf (decide (v_5=(0:Int))&&(decide (v_6=(0:Int))&&(decide (v_7=(0:Int))&&(decide (v_8=(0:Int))&&true)))) (BId (v_9=([]:B8)) (need (isSl v_10) (BId ((lenS v_10:Int)=(0:Int)) (need (isSl v_11) (BId ((lenS v_11:Int)=(0:Int)) (need (isSl v_12) (K ((decide ((lenS v_12:Int)=(0:Int)))) st)) (K false st))) (K false st))) (K false st)) (K false st)) (K false st)) (K false st)) (K false st)):CallT PR Cq [(.agg (cV v_0 v_1 v_2 v_3 v_4 v_5 v_6 v_7 v_8 v_9 v_10 v_11 v_12))] [.one .bool] st K:=
 Ag (cfg:=⟨[1],[],[]⟩) (h:= .none) mixed (fun _ _=>Tryd.call60 _ _) Tryd.func60 (by kernel_rfl) (by kernel_rfl) h
theorem LR (v_0:Int) (b:Bool) (v_2:Bool) (v_3:B8) (v_4:Int) (v_5:Int) (v_6:Int) (v_7:Int) (v_8:Int) (v_9:B8) (v_10:TV) (v_11:TV) (v_12:TV) (left:Int) (st:St) (K:Int->St->Prop) (h:BId (left<1) (K 1 st) (CallT PR DY [(.agg (cV v_0 b v_2 v_3 v_4 v_5 v_6 v_7 v_8 v_9 v_10 v_11 v_12))] [.one .tv] st (fun (v1:TV) i=>need (isSl v1) (∃(I1:Int->Int->Int->TV->Int->St->Prop) (M1:Int->Int->Int->TV->Int->St->Nat),(I1 1 0 left v1 ((lenS v1:Int)) i)/\∀d c a b f e,I1 d c a b f e->(BId (c<f) (((0<=c/\c<(lenZ 13 b:Int))/\Ar ((Aj e [] (.t (ixT 13 b c.toNat)) 0 13).map TV.agg) (fun (x1:TV)=>BF [.int .i64,.bool,.bool,.str,.int .i64,.int .i64,.int .i64,.int .i64,.int .i64,.str,.tv,.tv,.tv] x1 (fun (n1:Int) (b1 b2:Bool) (s1:B8) (n2 n3 n4 n5 n6:Int) (s2:B8) (v2 v3 v4:TV)=>need (List.all (cV n1 b1 b2 s1 n2 n3 n4 n5 n6 s2 v2 v3 v4) At) (CallT PR DW [(.agg (cV n1 b1 b2 s1 n2 n3 n4 n5 n6 s2 v2 v3 v4)),(.int .i64 (i64.wrap (a-(1:Int))))] [.one (.int .i64)] e (fun (n7:Int) g=>(I1 ((i64.wrap (d+n7))) ((i64.wrap (c+(1:Int)))) a b f g/\M1 ((i64.wrap (d+n7))) ((i64.wrap (c+(1:Int)))) a b f g<M1 d c a b f e))))))) (K d e)))))):CallT PR DW [(.agg (cV v_0 b v_2 v_3 v_4 v_5 v_6 v_7 v_8 v_9 v_10 v_11 v_12)),.int .i64 left] [.one (.int .i64)] st K:=
 Ag (cfg:=⟨[2,7],[],[]⟩) (h:=(.seq .none (.seq .none (.seq .none (.seq (.seq .none (.block (.loop ⟨[(5,.int .i64),(14,.int .i64),(1,.int .i64),(12,.tv),(13,.int .i64)],[],[],[]⟩ .none))) .none))))) mixed (fun _ _=>Tryd.call61 _ _) Tryd.func61 (by kernel_rfl) (by kernel_rfl) h
end Go.TVF
