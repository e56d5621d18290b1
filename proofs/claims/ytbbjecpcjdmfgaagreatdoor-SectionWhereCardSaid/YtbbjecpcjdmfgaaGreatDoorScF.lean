/- What the laws below rest on: a framework for Go programs, and contracts of the functions that they reach. -/
import Derived.Test.YtbbjecpcjdmfgaaGreatDoorScE
import Derived.Shelf.Unicode.ValidAny
import Derived.Test.YtbbjecpcjdmfgaaGreatDoorProg
import Derived.Lib.ValidU
set_option maxRecDepth 20000
set_option linter.unusedVariables false
set_option linter.unusedSimpArgs false
namespace Go.TVF
open Go.IntKind(i64 u8)
open Go Go.Proofs
def z13:List TV:=Aq scO .nilSlice .nilSlice .nilSlice
def Ln (σ:Nat->TV) (st:St) (eb:Nat):ShE->Prop
 | .opn b=>st.box eb= .cells (.box b 0:: .nilSlice::(z13++[.int .i64 0]))/\Bd (σ eb)=none
 | .lst bs=>Dw (σ eb) (bs.map fun b=> .box b 0)/\bs≠ []/\st.box eb= .cells (.nilPtr::σ eb::(z13++[.int .i64 0]))
 | .clo v i=>∃cs,VlR St.zero v cs/\cs.length=13/\st.box eb= .cells (.nilPtr:: .nilSlice::(cs++[.int .i64 i]))/\Bd (σ eb)=none
structure MT (σ:Nat->TV) (st:St) (s:Sh):Prop where
 cell:st.box s.b= .cells [σ s.b,.map s.m,.int .i64 s.d]
 row:Dw (σ s.b) ((s.es.map fun x=>x.1).map TV.str)
 mp:∃mp,st.box s.m= .map mp/\∀k,Av k mp=(EE k s.es).map fun p=> .box p.1 0
 en:∀x,x∈s.es->Ln σ st x.2.1 x.2.2
structure HP (σ:Nat->TV) (st:St) (L:List Sh):Prop where
 nd:(bxL L).Nodup
 lt:∀x,x∈bxL L->x<st.nb
 sh:∀s,s∈L->MT σ st s
 tip:∀x,x∈bxL L->∀id,Bd (σ x)=some id->id<st.nt/\st.live id=true
 td:∀x,x∈bxL L->∀y,y∈bxL L->x≠y->∀id,Bd (σ x)=some id->Bd (σ y)≠some id
theorem Ln.fr {σ σ':Nat->TV} {st st':St} {eb:Nat} {e:ShE} (h:Ln σ st eb e) (hb:st'.box eb=st.box eb) (hs:σ' eb=σ eb):Ln σ' st' eb e:=by
 cases e with
 | opn b=>unfold Ln at h⊢;rw[hb,hs];exact h
 | lst bs=>unfold Ln at h⊢;rw[hb,hs];exact h
 | clo v i=>unfold Ln at h⊢;rw[hb,hs];exact h
theorem Fc {s:Sh} {x:B8×Nat×ShE} (h:x∈s.es):x.2.1∈bxS s:= .tail _ (.tail _ (List.mem_map.2 ⟨x,h,rfl⟩))
theorem MT.fr {σ σ':Nat->TV} {st st':St} {s:Sh} (h:MT σ st s) (hb:∀x,x∈bxS s->st'.box x=st.box x/\σ' x=σ x):MT σ' st' s:=by
 have h1:=hb s.b (.head _)
 have h2:=hb s.m (.tail _ (.head _))
 exact⟨by rw[h1.1,h1.2];exact h.cell,by rw[h1.2];exact h.row,by rw[h2.1];exact h.mp,fun x hx=>(h.en x hx).fr (hb _ (Fc hx)).1 (hb _ (Fc hx)).2⟩
theorem J4 {A X B:List Sh} (h:(bxL (A++(X++B))).Nodup):(bxL A++bxL B).Nodup/\(bxL X).Nodup/\∀x,x∈bxL X->x∉bxL A/\x∉bxL B:=by
 rw[AJ,AJ]at h
 obtain⟨h1,h2,h3⟩:=List.nodup_append.1 h
 obtain⟨h4,h5,h6⟩:=List.nodup_append.1 h2
 exact⟨List.nodup_append.2 ⟨h1,h5,fun a ha b hb=>h3 a ha b (List.mem_append_right _ hb)⟩,h4,fun x hx=>⟨fun ha=>h3 x ha x (List.mem_append_left _ hx) rfl,fun hb=>h6 x hx x hb rfl⟩⟩
theorem HP.upd {σ σ':Nat->TV} {st st':St} {A X X' B:List Sh} (h:HP σ st (A++(X++B))) (hnb:st.nb<=st'.nb)
  (hbx:∀x,x∈bxL A∨x∈bxL B->st'.box x=st.box x/\σ' x=σ x)
  (hlv:∀x,x∈bxL A∨x∈bxL B->∀id,Bd (σ x)=some id->id<st'.nt/\st'.live id=true)
  (hX:∀s,s∈X'->MT σ' st' s) (hnd:(bxL X').Nodup) (hnew:∀x,x∈bxL X'->x<st'.nb/\(x∈bxL X∨st.nb<=x))
  (htip:∀x,x∈bxL X'->∀id,Bd (σ' x)=some id->id<st'.nt/\st'.live id=true/\((∃y,y∈bxL X/\Bd (σ y)=some id)∨st.nt<=id))
  (htd:∀x,x∈bxL X'->∀y,y∈bxL X'->x≠y->∀id,Bd (σ' x)=some id->Bd (σ' y)≠some id):HP σ' st' (A++(X'++B)):=by
 obtain⟨n1,n2,n3⟩:=J4 h.nd
 have mA:∀{x},x∈bxL A->x∈bxL (A++(X++B)):=fun hx=>by rw[AJ];exact List.mem_append_left _ hx
 have mB:∀{x},x∈bxL B->x∈bxL (A++(X++B)):=fun hx=>by rw[AJ,AJ];exact List.mem_append_right _ (List.mem_append_right _ hx)
 have mX:∀{x},x∈bxL X->x∈bxL (A++(X++B)):=fun hx=>by rw[AJ,AJ];exact List.mem_append_right _ (List.mem_append_left _ hx)
 have mAB:∀{x},x∈bxL A∨x∈bxL B->x∈bxL (A++(X++B)):=fun hx=>hx.elim mA mB
 have dAB:∀{x},x∈bxL X'->¬(x∈bxL A∨x∈bxL B):=fun {x} hx hm=>by
  rcases (hnew x hx).2 with h1 | h1
  ·exact hm.elim (n3 x h1).1 (n3 x h1).2
  ·have:=h.lt x (mAB hm);omega
 have tAB:∀{x y},x∈bxL X'->(y∈bxL A∨y∈bxL B)->∀{id},Bd (σ' x)=some id->Bd (σ y)=some id->False:=fun {x y} hx hy {id} h1 h2=>by
  rcases (htip x hx id h1).2.2 with⟨z,hz,h3⟩ | h3
  ·exact h.td z (mX hz) y (mAB hy) (fun e=>by subst e;exact hy.elim (n3 z hz).1 (n3 z hz).2) id h3 h2
  ·have:=(h.tip y (mAB hy) id h2).1;omega
 have spl:∀{x},x∈bxL (A++(X'++B))->(x∈bxL A∨x∈bxL B)∨x∈bxL X':=fun {x} hx=>by
  rw[AJ,AJ]at hx
  rcases List.mem_append.1 hx with h1 | h1
  ·exact .inl (.inl h1)
  ·rcases List.mem_append.1 h1 with h2 | h2
   ·exact .inr h2
   ·exact .inl (.inr h2)
 refine⟨?_,fun x hx=>?_,fun s hs=>?_,fun x hx id hid=>?_,fun x hx y hy hne id h1 h2=>?_⟩
 ·rw[AJ,AJ]
  obtain⟨a1,a2,a3⟩:=List.nodup_append.1 n1
  refine List.nodup_append.2 ⟨a1,List.nodup_append.2 ⟨hnd,a2,fun x hx y hy e=>dAB hx (.inr (by rw[e];exact hy))⟩,fun x hx y hy e=>?_⟩
  rcases List.mem_append.1 hy with h1 | h1
  ·exact dAB h1 (.inl (by rw[<-e];exact hx))
  ·exact a3 x hx y h1 e
 ·rcases spl hx with h1 | h1
  ·exact Nat.lt_of_lt_of_le (h.lt x (mAB h1)) hnb
  ·exact(hnew x h1).1
 ·rcases List.mem_append.1 hs with h1 | h1
  ·exact(h.sh s (List.mem_append_left _ h1)).fr fun x hx=>hbx x (.inl (Bj h1 hx))
  ·rcases List.mem_append.1 h1 with h2 | h2
   ·exact hX s h2
   ·exact(h.sh s (List.mem_append_right _ (List.mem_append_right _ h2))).fr fun x hx=>hbx x (.inr (Bj h2 hx))
 ·rcases spl hx with h1 | h1
  ·exact hlv x h1 id ((hbx x h1).2▸hid)
  ·exact⟨(htip x h1 id hid).1,(htip x h1 id hid).2.1⟩
 ·rcases spl hx with h3 | h3<;>rcases spl hy with h4 | h4
  ·exact h.td x (mAB h3) y (mAB h4) hne id ((hbx x h3).2▸h1) ((hbx y h4).2▸h2)
  ·exact tAB h4 h3 h2 ((hbx x h3).2▸h1)
  ·exact tAB h3 h4 h1 ((hbx y h4).2▸h2)
  ·exact htd x h3 y h4 hne id h1 h2
theorem HP.add {σ σ':Nat->TV} {st st':St} {A R N B:List Sh} {s:Sh} {k:B8} {eb:Nat} {e:ShE} (h:HP σ st (A++((s::R)++B))) (hnb:st.nb<=st'.nb)
  (hbx:∀x,x∈bxL (A++((s::R)++B))->x≠s.b->x≠s.m->st'.box x=st.box x/\σ' x=σ x)
  (hlv:∀x,x∈bxL (A++((s::R)++B))->x≠s.b->∀id,Bd (σ x)=some id->id<st'.nt/\st'.live id=true)
  (hc:st'.box s.b= .cells [σ' s.b,.map s.m,.int .i64 s.d]) (hr:Dw (σ' s.b) (((s.es++[(k,eb,e)]).map fun x=>x.1).map TV.str))
  (hm:∃mp,st.box s.m= .map mp/\st'.box s.m= .map (Gh k (.box eb 0) mp)) (hsm:σ' s.m=σ s.m) (hk:EE k s.es=none) (he:Ln σ' st' eb e)
  (hN:∀s',s'∈N->MT σ' st' s') (hnd:(eb::bxL N).Nodup) (hnew:∀x,x∈eb::bxL N->st.nb<=x/\x<st'.nb)
  (htip:∀x,x∈s.b::eb::bxL N->∀id,Bd (σ' x)=some id->st.nt<=id/\id<st'.nt/\st'.live id=true)
  (htd:∀x,x∈s.b::eb::bxL N->∀y,y∈s.b::eb::bxL N->x≠y->∀id,Bd (σ' x)=some id->Bd (σ' y)≠some id):
  HP σ' st' (A++((⟨s.b,s.m,s.hd,s.d,s.es++[(k,eb,e)]⟩::(R++N))++B)):=by
 obtain⟨n1,n2,n3⟩:=J4 h.nd
 have hin:∀{x},x∈bxL (s::R)->x∈bxL (A++((s::R)++B)):=fun hx=>by rw[AJ,AJ];exact List.mem_append_right _ (List.mem_append_left _ hx)
 have hsR:s∈A++((s::R)++B):=List.mem_append_right _ (List.mem_append_left _ (.head _))
 have hsb:s.b∈bxL (s::R):=by rw[A5];exact List.mem_append_left _ (.head _)
 have hsmm:s.m∈bxL (s::R):=by rw[A5];exact List.mem_append_left _ (.tail _ (.head _))
 have hS:=h.sh s hsR
 rw[A5]at n2
 obtain⟨m1,m2,m3⟩:=List.nodup_append.1 n2
 have hbm:s.m≠s.b:=fun e=>by
  have:=hS.cell;obtain⟨mp,h1,_⟩:=hS.mp;rw[e,this]at h1;cases h1
 have eE:bxL (⟨s.b,s.m,s.hd,s.d,s.es++[(k,eb,e)]⟩::(R++N))=(s.b::s.m::(s.es.map (fun x=>x.2.1)++[eb]))++(bxL R++bxL N):=by
  rw[A5,AJ]
  show(s.b::s.m::(s.es++[(k,eb,e)]).map (fun x=>x.2.1))++_=_
  rw[List.map_append];rfl
 have mem':∀{x},x∈bxL (⟨s.b,s.m,s.hd,s.d,s.es++[(k,eb,e)]⟩::(R++N))->x∈bxL (s::R)∨x∈eb::bxL N:=fun {x} hx=>by
  rw[eE]at hx
  rw[A5]
  rcases List.mem_append.1 hx with h1 | h1
  ·rcases List.mem_cons.1 h1 with rfl | h1
   ·exact .inl (List.mem_append_left _ (.head _))
   ·rcases List.mem_cons.1 h1 with rfl | h1
    ·exact .inl (List.mem_append_left _ (.tail _ (.head _)))
    ·rcases List.mem_append.1 h1 with h2 | h2
     ·exact .inl (List.mem_append_left _ (.tail _ (.tail _ h2)))
     ·rw[List.mem_singleton.1 h2];exact .inr (.head _)
  ·rcases List.mem_append.1 h1 with h2 | h2
   ·exact .inl (List.mem_append_right _ h2)
   ·exact .inr (.tail _ h2)
 have old:∀{x},x∈bxL (s::R)->x≠s.b->σ' x=σ x:=fun {x} hx hne=>by
  by_cases hxm:x=s.m
  ·rw[hxm];exact hsm
  ·exact(hbx x (hin hx) hne hxm).2
 have hRes:∀s',s'∈R->∀x,x∈bxS s'->st'.box x=st.box x/\σ' x=σ x:=fun s' hs' x hx=>by
  have hxR:x∈bxL R:=Bj hs' hx
  refine hbx x (hin (by rw[A5];exact List.mem_append_right _ hxR)) (fun e=>?_) fun e=>?_
  ·exact m3 s.b (.head _) x hxR e.symm
  ·exact m3 s.m (.tail _ (.head _)) x hxR e.symm
 refine h.upd hnb (fun x hx=>?_) (fun x hx id hid=>?_) (fun s' hs'=>?_) ?_ (fun x hx=>?_) (fun x hx id hid=>?_) fun x hx y hy hne id h1 h2=>?_
 ·have hx':x∈bxL (A++((s::R)++B)):=by
   rw[AJ,AJ];exact hx.elim (fun h=>List.mem_append_left _ h) fun h=>List.mem_append_right _ (List.mem_append_right _ h)
  refine hbx x hx' (fun e=>?_) fun e=>?_
  ·subst e;exact hx.elim (n3 _ hsb).1 (n3 _ hsb).2
  ·subst e;exact hx.elim (n3 _ hsmm).1 (n3 _ hsmm).2
 ·have hx':x∈bxL (A++((s::R)++B)):=by
   rw[AJ,AJ];exact hx.elim (fun h=>List.mem_append_left _ h) fun h=>List.mem_append_right _ (List.mem_append_right _ h)
  exact hlv x hx' (fun e=>by subst e;exact hx.elim (n3 _ hsb).1 (n3 _ hsb).2) id hid
 ·rcases List.mem_cons.1 hs' with rfl | hs'
  ·refine⟨hc,hr,?_,fun x hx=>?_⟩
   ·obtain⟨mp,h1,h2⟩:=hm
    obtain⟨mp2,h3,h4⟩:=hS.mp
    rw[h3]at h1;cases h1
    refine⟨_,h2,fun k2=>?_⟩
    rw[JE,h4 k2,NM]
    by_cases hkk:k2=k
    ·subst hkk;rw[if_pos rfl,hk,if_pos rfl];rfl
    ·rw[if_neg hkk,if_neg hkk]
     cases EE k2 s.es<;>rfl
   ·rcases List.mem_append.1 hx with h1 | h1
    ·have hxb:x.2.1∈s.es.map fun x=>x.2.1:=List.mem_map.2 ⟨x,h1,rfl⟩
     have hxn:x.2.1≠s.b:=fun e=>by
      have:=(List.nodup_cons.1 m1).1
      exact this (.tail _ (e▸hxb))
     have hxm:x.2.1≠s.m:=fun e=>by
      have:=(List.nodup_cons.1 (List.nodup_cons.1 m1).2).1
      exact this (e▸hxb)
     have:=hbx x.2.1 (Bj hsR (Fc h1)) hxn hxm
     exact(hS.en x h1).fr this.1 this.2
    ·rw[List.mem_singleton.1 h1];exact he
  ·rcases List.mem_append.1 hs' with h1 | h1
   ·exact(h.sh s' (List.mem_append_right _ (List.mem_append_left _ (.tail _ h1)))).fr (hRes s' h1)
   ·exact hN s' h1
 ·have hlt:∀{x},x∈bxS s++bxL R->x<st.nb:=fun hx=>h.lt _ (hin (by rw[A5];exact hx))
  obtain⟨q1,q2⟩:=List.nodup_cons.1 hnd
  have e2:bxS s=s.b::s.m::s.es.map fun x=>x.2.1:=rfl
  rw[eE]
  refine List.nodup_append.2 ⟨?_,List.nodup_append.2 ⟨m2,q2,fun x hx y hy e=>?_⟩,fun x hx y hy e=>?_⟩
  ·have e3:s.b::s.m::(s.es.map (fun x=>x.2.1)++[eb])=bxS s++[eb]:=rfl
   rw[e3]
   refine List.nodup_append.2 ⟨m1,by simp,fun x hx y hy e=>?_⟩
   rw[List.mem_singleton.1 hy]at e
   have h1:=hlt (List.mem_append_left _ hx)
   have h2:=(hnew eb (.head _)).1
   omega
  ·have h1:=hlt (List.mem_append_right _ hx)
   have h2:=(hnew y (.tail _ hy)).1
   omega
  ·have e3:s.b::s.m::(s.es.map (fun x=>x.2.1)++[eb])=bxS s++[eb]:=rfl
   rw[e3]at hx
   subst e
   rcases List.mem_append.1 hx with h1 | h1
   ·rcases List.mem_append.1 hy with h2 | h2
    ·exact m3 x h1 x h2 rfl
    ·have h3:=hlt (List.mem_append_left _ h1)
     have h4:=(hnew x (.tail _ h2)).1
     omega
   ·have h5:=List.mem_singleton.1 h1
    subst h5
    rcases List.mem_append.1 hy with h2 | h2
    ·have h3:=hlt (List.mem_append_right _ h2)
     have h4:=(hnew x (.head _)).1
     omega
    ·exact q1 h2
 ·rcases mem' hx with h1 | h1
  ·exact⟨Nat.lt_of_lt_of_le (h.lt x (hin h1)) hnb,.inl h1⟩
  ·exact⟨(hnew x h1).2,.inr (hnew x h1).1⟩
 ·rcases mem' hx with h1 | h1
  ·by_cases hxb:x=s.b
   ·subst hxb
    have:=htip _ (.head _) id hid
    exact⟨this.2.1,this.2.2,.inr this.1⟩
   ·rw[old h1 hxb]at hid
    have:=hlv x (hin h1) hxb id hid
    exact⟨this.1,this.2,.inl ⟨x,h1,hid⟩⟩
  ·have:=htip x (.tail _ h1) id hid
   exact⟨this.2.1,this.2.2,.inr this.1⟩
 ·have cl:∀{x},x∈bxL (s::R)∨x∈eb::bxL N->(x∈s.b::eb::bxL N)∨(x∈bxL (s::R)/\x≠s.b):=fun {x} hx=>by
   rcases hx with h3 | h3
   ·by_cases hxb:x=s.b
    ·rw[hxb];exact .inl (.head _)
    ·exact .inr ⟨h3,hxb⟩
   ·exact .inl (.tail _ h3)
  rcases cl (mem' hx)with h3 | ⟨h3,h3'⟩<;>rcases cl (mem' hy)with h4 | ⟨h4,h4'⟩
  ·exact htd x h3 y h4 hne id h1 h2
  ·have g1:=(htip x h3 id h1).1
   rw[old h4 h4']at h2
   have g2:=(h.tip y (hin h4) id h2).1
   omega
  ·have g1:=(htip y h4 id h2).1
   rw[old h3 h3']at h1
   have g2:=(h.tip x (hin h3) id h1).1
   omega
  ·rw[old h3 h3']at h1
   rw[old h4 h4']at h2
   exact h.td x (hin h3) y (hin h4) hne id h1 h2
end Go.TVF
section
namespace Go.TVF
open Go.IntKind(i64 u8)
structure Chg (v v' u u':Vl) (g:Nat):Prop where
 cnt:v'.cnt+u.cnt=v.cnt+u'.cnt
 sz:v'.sz+u.sz=v.sz+u'.sz
 lv:lvV v'<=max (lvV v) (g+lvV u')
 lvu:g+lvV u<=lvV v
 vu:AZ v->AZ u
 va:AZ v->AZ u'->AZ v'
theorem Chg.refl (u u':Vl):Chg u u' u u' 0:=⟨by omega,by omega,by omega,by omega,id,fun _ h=>h⟩
theorem Chg.trans {v v' w w' u u':Vl} {g h:Nat} (a:Chg v v' w w' g) (b:Chg w w' u u' h):Chg v v' u u' (g+h):=
 ⟨by have:=a.cnt;have:=b.cnt;omega,by have:=a.sz;have:=b.sz;omega,by have:=a.lv;have:=b.lv;have:=a.lvu;omega,by have:=a.lvu;have:=b.lvu;omega,fun x=>b.vu (a.vu x),fun x y=>a.va x (b.va (a.vu x) y)⟩
theorem Mm (l m:List Fd):Fe (l++m)=max (Fe l) (Fe m):=by
 induction l with
 | nil=>simp[Fe]
 | cons d r ih=>simp only[List.cons_append,Fe,ih];omega
theorem Ml (l m:List Vl):FB (l++m)=max (FB l) (FB m):=by
 induction l with
 | nil=>simp[FB]
 | cons d r ih=>simp only[List.cons_append,FB,ih];omega
theorem Fv (l m:List Fd):Cw (l++m)↔Cw l/\Cw m:=by
 induction l with
 | nil=>simp[Cw]
 | cons d r ih=>simp only[List.cons_append,Cw,ih,and_assoc]
theorem G0 (l m:List Vl):Cv (l++m)↔Cv l/\Cv m:=by
 induction l with
 | nil=>simp[Cv]
 | cons d r ih=>simp only[List.cons_append,Cv,ih,and_assoc]
theorem NS:∀(f f':List Fd) (seen:List B8),f.map Fd.key=f'.map Fd.key->Cq seen f=Cq seen f'
 | [],[],_,_=>rfl
 | [],d::r,_,h=>by simp at h
 | d::r,[],_,h=>by simp at h
 | d::r,d'::r',seen,h=>by
  rw[List.map_cons,List.map_cons,List.cons.injEq]at h
  unfold Cq
  rw[h.1,NS r r' _ h.2]
theorem PU {f f':List Fd} (h:Oi scM [] f) (hk:Cq [] f'=0):Oi scM [] f':=
 ⟨⟨h.own.k0,h.own.k7,h.own.bo,h.own.nu,h.own.ti,h.own.tx,h.own.by_,h.own.ls,fun h=>absurd rfl h⟩,h.dec,h.time,h.text,h.tlen,h.blen,hk⟩
theorem T7 {l l':List Vl} (h:Oi scL l []):Oi scL l' []:=
 ⟨⟨h.own.k0,h.own.k7,h.own.bo,h.own.nu,h.own.ti,h.own.tx,h.own.by_,fun h=>absurd rfl h,h.own.fs⟩,h.dec,h.time,h.text,h.tlen,h.blen,h.keys⟩
theorem Chg.fld (F G:List Fd) (k:B8) (u u':Vl):Chg (.mk scM [] (F++ .mk k u::G)) (.mk scM [] (F++ .mk k u'::G)) u u' 1:=by
 refine⟨?_,?_,?_,?_,fun h=>?_,fun h g=>?_⟩
 ·simp only[Vl.cnt,D2,AI,Fd.cnt];omega
 ·simp only[Vl.sz,Ka,Bv,Fd.sz];omega
 ·simp only[lvV,Mm,Fe,lvD];omega
 ·simp only[lvV,Mm,Fe,lvD];omega
 ·unfold AZ at h
  have:=((Fv _ _).1 h.2.2).2
  unfold Cw Hp at this
  exact this.1
 ·unfold AZ at h⊢
  obtain⟨h1,h2,h3⟩:=h
  obtain⟨h4,h5⟩:=(Fv _ _).1 h3
  refine⟨PU h1 ?_,h2,(Fv _ _).2 ⟨h4,?_⟩⟩
  ·rw[<-h1.keys];exact NS _ _ _ (by simp[Fd.key])
  ·unfold Cw Hp at h5⊢;exact⟨g,h5.2⟩
theorem Chg.lst (A B:List Vl) (u u':Vl):Chg (.mk scL (A++u::B) []) (.mk scL (A++u'::B) []) u u' 1:=by
 refine⟨?_,?_,?_,?_,fun h=>?_,fun h g=>?_⟩
 ·simp only[Vl.cnt,Ei,AF];omega
 ·simp only[Vl.sz,JL,BB];omega
 ·simp only[lvV,Ml,FB];omega
 ·simp only[lvV,Ml,FB];omega
 ·unfold AZ at h
  have:=((G0 _ _).1 h.2.1).2
  unfold Cv at this
  exact this.1
 ·unfold AZ at h⊢
  obtain⟨h1,h2,h3⟩:=h
  obtain⟨h4,h5⟩:=(G0 _ _).1 h2
  refine⟨T7 h1,(G0 _ _).2 ⟨h4,?_⟩,h3⟩
  unfold Cv at h5⊢;exact⟨g,h5.2⟩
theorem CD {k:B8}:∀{es:List Kn} {eb:Nat} {e:En},Ag k es=some (eb,e)->∃F G,AD es=F++ .mk k (AA e)::G/\∀x,AD (BR k x es)=F++ .mk k (AA x)::G
 | .mk k' eb' e'::r,eb,e,h=>by
  unfold Ag at h
  by_cases hk:k=k'
  ·rw[if_pos hk]at h
   cases h
   subst hk
   exact⟨[],AD r,by rw[AD,List.nil_append],fun x=>by rw[BR,if_pos rfl,AD,List.nil_append]⟩
  ·rw[if_neg hk]at h
   obtain⟨F,G,h1,h2⟩:=CD h
   exact⟨.mk k' (AA e')::F,G,by rw[AD,h1];rfl,fun x=>by rw[BR,if_neg hk,AD,h2 x];rfl⟩
theorem NU:∀{l:List Tb} {i:Nat} {u:Tb},l[i]? =some u->∃A B,A1 l=A++Ae u::B/\∀x,A1 (l.set i x)=A++Ae x::B
 | t::r,0,u,h=>by cases h;exact⟨[],A1 r,by rw[A1,List.nil_append],fun x=>by rw[List.set_cons_zero,A1,List.nil_append]⟩
 | t::r,i+1,u,h=>by
  obtain⟨A,B,h1,h2⟩:=NU (l:=r) (i:=i) (u:=u) (by simpa using h)
  exact⟨Ae t::A,B,by rw[A1,h1];rfl,fun x=>by rw[List.set_cons_succ,A1,h2 x];rfl⟩
theorem DV:∀(h:List Hop) {T t:Tb},atT T h=some t->∀t',Chg (Ae T) (Ae (Ax T h t')) (Ae t) (Ae t') (dpH h)
 | [],T,t,hA,t'=>by cases T;cases hA;exact Chg.refl _ _
 | (k,none)::h,.mk b m hd es,t,hA,t'=>by
  rw[atT]at hA
  rcases hl:Ag k es with _ | ⟨eb,u | l | ⟨v,i⟩⟩<;>rw[hl]at hA<;>simp only at hA<;>try (cases hA;done)
  obtain⟨F,G,h1,h2⟩:=CD hl
  have:=(Chg.fld F G k (Ae u) (Ae (Ax u h t'))).trans (DV h hA t')
  rw[Ax,hl]
  simp only
  rw[Ae,Ae,h1,h2,AA,AA,dpH,Nat.add_comm]
  exact this
 | (k,some j)::h,.mk b m hd es,t,hA,t'=>by
  rw[atT]at hA
  rcases hl:Ag k es with _ | ⟨eb,u | l | ⟨v,i⟩⟩<;>rw[hl]at hA<;>simp only at hA<;>try (cases hA;done)
  cases hj:l[j]? with
  | none=>simp[hj]at hA
  | some u=>
  rw[hj]at hA
  simp only at hA
  obtain⟨F,G,h1,h2⟩:=CD hl
  obtain⟨A,B,h3,h4⟩:=NU hj
  have:=((Chg.fld F G k (.mk scL (A++Ae u::B) []) (.mk scL (A++Ae (Ax u h t')::B) [])).trans (Chg.lst A B _ _)).trans (DV h hA t')
  rw[Ax,hl]
  simp only[hj]
  rw[Ae,Ae,h1,h2,AA,AA,h3,h4,dpH,show dpH h+2=1+1+dpH h by omega]
  exact this
theorem B1 (t:Tb):Ae t= .mk scM [] (AD t.es):=by cases t;rw[Ae];rfl
theorem JO (t:Tb) (k:B8) (eb:Nat) (e:En):Ae (AS t k eb e)= .mk scM [] (AD t.es++[.mk k (AA e)]):=by
 unfold AS
 rw[Ae,Ks,AD,AD]
theorem LH (t:Tb) (k:B8) (eb:Nat) (e:En):(Ae (AS t k eb e)).cnt=(Ae t).cnt+(AA e).cnt:=by
 rw[JO,B1 t]
 simp only[Vl.cnt,D2,AI,Fd.cnt];omega
theorem QZ (t:Tb) (k:B8) (eb:Nat) (e:En):(Ae (AS t k eb e)).sz=(Ae t).sz+k.length+(AA e).sz:=by
 rw[JO,B1 t]
 simp only[Vl.sz,Ka,Bv,Fd.sz];omega
theorem Ro (t:Tb) (k:B8) (eb:Nat) (e:En):lvV (Ae (AS t k eb e))=max (lvV (Ae t)) (1+lvV (AA e)):=by
 rw[JO,B1 t]
 simp only[lvV,Mm,Fe,lvD];omega
theorem Up (es:List Kn):(AD es).map Fd.key=es.map Kn.key:=by
 rw[IA,List.map_map];rfl
theorem Nz {t:Tb} {k:B8} {eb:Nat} {e:En} (h:AZ (Ae t)) (hl:Ag k t.es=none) (h8:U8 k) (hk:k.length<=1024) (he:AZ (AA e)):AZ (Ae (AS t k eb e)):=by
 rw[B1]at h
 rw[JO]
 unfold AZ at h⊢
 obtain⟨h1,h2,h3⟩:=h
 obtain⟨k1,k2⟩:=P9 _ _ h1.keys
 refine⟨PU h1 (P8 _ _ ?_ fun d hd=>?_),h2,(Fv _ _).2 ⟨h3,?_⟩⟩
 ·unfold MU at k1⊢
  rw[List.map_append]
  refine List.nodup_append.2 ⟨k1,by simp,fun x hx y hy e=>?_⟩
  rw[Up]at hx
  obtain⟨d,hd,rfl⟩:=List.mem_map.1 hx
  simp only[List.map_cons,List.map_nil,List.mem_singleton]at hy
  subst hy
  exact Jy hl d hd e
 ·rcases List.mem_append.1 hd with h4 | h4
  ·exact k2 d h4
  ·rw[List.mem_singleton.1 h4];exact⟨by simp,h8,hk⟩
 ·unfold Cw Hp Cw;exact⟨he,trivial⟩
theorem ON (t:Tb):t.es.length<(Ae t).cnt:=by
 rw[B1]
 have:∀es:List Kn,es.length<=AI (AD es):=by
  intro es
  induction es with
  | nil=>simp
  | cons d r ih=>
   obtain⟨k,eb,e⟩:=d
   rw[AD,AI,Fd.cnt,List.length_cons]
   have:1<=(AA e).cnt:=by cases AA e;unfold Vl.cnt;omega
   omega
 have:=this t.es
 unfold Vl.cnt
 omega
theorem Ob {T t:Tb} {h:List Hop} (hA:atT T h=some t):(Ae t).cnt<=(Ae T).cnt/\(Ae t).sz<=(Ae T).sz:=by
 have:=DV h hA (.mk 0 0 false [])
 have h1:=this.cnt
 have h2:=this.sz
 have h3:(Ae (.mk 0 0 false [])).cnt=1:=by rw[Ae,AD];simp[Vl.cnt,AF,AI]
 have h4:(Ae (.mk 0 0 false [])).sz=1:=by rw[Ae,AD];simp[Vl.sz,BB,Bv,scM]
 have h5:1<=(Ae (Ax T h (.mk 0 0 false []))).cnt:=by cases Ae (Ax T h (.mk 0 0 false []));unfold Vl.cnt;omega
 have h6:=(Ae (Ax T h (.mk 0 0 false []))).sz_pos
 omega
end Go.TVF
end
namespace Go.TVF
open Go.IntKind(i64 u8)
open Go Go.Proofs
theorem OL {a b:Nat} (h:a≠b):Nat.beq a b=false:=by rw[Bool.eq_false_iff];exact fun e=>h (Nat.eq_of_beq_eq_true e)
theorem Et (k k':Nat) (v:TV):∀es:List (Nat×TV),BF k (E8 k' v es)=if k=k' then some v else BF k es
 | []=>by
  unfold E8 BF
  by_cases h:k=k'
  ·subst h;simp[BF]
  ·have:Nat.beq k k'=false:=OL (h)
   rw[this,if_neg h];rfl
 | (k2,v2)::es=>by
  unfold E8
  by_cases h2:k'=k2
  ·subst h2
   rw[Nat.beq_refl]
   by_cases h:k=k'
   ·subst h;simp[BF]
   ·have:Nat.beq k k'=false:=OL (h)
    simp only[BF,this,if_neg h]
  ·have e:Nat.beq k' k2=false:=OL (h2)
   rw[e]
   simp only[BF]
   by_cases h:k=k2
   ·subst h;rw[Nat.beq_refl,if_neg (fun g=>h2 g.symm)]
   ·have:Nat.beq k k2=false:=OL (h)
    rw[this]
    simp only
    exact Et k k' v es
theorem JV (k:Nat) (v:TV):∀es:List (Nat×TV),∀p,p∈E8 k v es->p=(k,v)∨p∈es
 | [],p,h=> .inl (List.mem_singleton.1 h)
 | (k2,v2)::es,p,h=>by
  unfold E8 at h
  cases hb:Nat.beq k k2 with
  | true=>
   rw[hb]at h
   rcases List.mem_cons.1 h with rfl | h
   ·exact .inl rfl
   ·exact .inr (.tail _ h)
  | false=>
   rw[hb]at h
   rcases List.mem_cons.1 h with rfl | h
   ·exact .inr (.head _)
   ·exact(JV k v es p h).imp id (.tail _)
theorem IE (k:Nat) (v:TV):∀es:List (Nat×TV),(∀p,p∈es->p.1≠k)->(E8 k v es).map Prod.fst=es.map Prod.fst++[k]
 | [],_=>rfl
 | (k2,v2)::es,h=>by
  have h2:=h (k2,v2) (.head _)
  have e:Nat.beq k k2=false:=OL (Ne.symm h2)
  unfold E8
  rw[e]
  simp only[List.map_cons,List.cons_append]
  rw[IE k v es fun p hp=>h p (.tail _ hp)]
theorem MH (k:Nat):∀es:List (Nat×TV),∀p,p∈Hj k es->p∈es
 | [],p,h=>by cases h
 | (k2,v2)::es,p,h=>by
  unfold Hj at h
  cases hb:Nat.beq k k2 with
  | true=>rw[hb]at h;exact .tail _ h
  | false=>
   rw[hb]at h
   rcases List.mem_cons.1 h with rfl | h
   ·exact .head _
   ·exact .tail _ (MH k es p h)
theorem SC (k:Nat):∀es:List (Nat×TV),(es.map Prod.fst).Nodup->((Hj k es).map Prod.fst).Nodup
 | [],_=>List.nodup_nil
 | (k2,v2)::es,h=>by
  rw[List.map_cons,List.nodup_cons]at h
  unfold Hj
  cases hb:Nat.beq k k2 with
  | true=>exact h.2
  | false=>
   simp only[List.map_cons,List.nodup_cons]
   refine⟨fun hm=>?_,SC k es h.2⟩
   obtain⟨p,hp,he⟩:=List.mem_map.1 hm
   exact h.1 (List.mem_map.2 ⟨p,MH k es p hp,he⟩)
theorem MB {k:Nat}:∀{es:List (Nat×TV)},k∉es.map Prod.fst->BF k es=none
 | [],_=>rfl
 | (k2,v2)::es,h=>by
  rw[List.map_cons,List.mem_cons,not_or]at h
  have:Nat.beq k k2=false:=OL (h.1)
  simp only[BF,this]
  exact MB h.2
theorem KX (k k':Nat):∀es:List (Nat×TV),(es.map Prod.fst).Nodup->BF k (Hj k' es)=if k=k' then none else BF k es
 | [],_=>by unfold Hj BF;split<;>rfl
 | (k2,v2)::es,h=>by
  rw[List.map_cons,List.nodup_cons]at h
  unfold Hj
  by_cases h2:k'=k2
  ·subst h2
   rw[Nat.beq_refl]
   by_cases hk:k=k'
   ·subst hk;rw[if_pos rfl];exact MB h.1
   ·have:Nat.beq k k'=false:=OL (hk)
    simp only[BF,this,if_neg hk]
  ·have e:Nat.beq k' k2=false:=OL (h2)
   rw[e]
   simp only[BF]
   by_cases hk:k=k2
   ·subst hk;rw[Nat.beq_refl,if_neg (fun g=>h2 g.symm)]
   ·have:Nat.beq k k2=false:=OL (hk)
    rw[this]
    simp only
    exact KX k k' es h.2
structure Un (ub:Nat) (L:List Sh) (st:St) (up:List (Nat×TV)):Prop where
 box:st.box ub= .pmap up
 nd:(up.map Prod.fst).Nodup
 ok:∀p,p∈up->Ap st p.1=true/\p.1<st.nb
 fd:∀s,s∈L->BF s.b up=if s.hd=true then none else some (.bool true)
structure BH (bb ub:Nat) (now:TV) (T:Tb) (nodes:Nat) (σ:Nat->TV) (st:St):Prop where
 hp:HP σ st (shT 1 T)
 cell:st.box bb= .cells [.box T.b 0,now,.map ub,.int .i64 nodes]
 un:∃up,Un ub (shT 1 T) st up
 bl:bb<st.nb
 ul:ub<st.nb
 bx:bb∉bxL (shT 1 T)
 ux:ub∉bxL (shT 1 T)
theorem Sj {A R N B:List Sh} {s s':Sh} {eb:Nat} (hs:bxS s'=bxS s++[eb]) {x:Nat} (h:x∈bxL (A++((s'::(R++N))++B))):x∈bxL (A++((s::R)++B))∨x=eb∨x∈bxL N:=by
 simp only[AJ,A5,List.mem_append,hs,List.mem_singleton]at h⊢
 rcases h with h | (((h | h) | h | h) | h)
 ·exact .inl (.inl h)
 ·exact .inl (.inr (.inl (.inl h)))
 ·exact .inr (.inl h)
 ·exact .inl (.inr (.inl (.inr h)))
 ·exact .inr (.inr h)
 ·exact .inl (.inr (.inr h))
theorem PT {bb ub:Nat} {now:TV} {T t:Tb} {nodes:Nat} {σ:Nat->TV} {st:St} {h:List Hop} {k:B8} (H:BH bb ub now T nodes σ st) (hA:atT T h=some t) (hl:Ag k t.es=none) (hn:nodes<900000) (hcn:(Ae T).cnt=nodes)
  {K:TV->St->St->Prop}
  (hk:∀nu σ' st2 st',nu.eb=st2.nb->BH bb ub now (Ax T h (AS t k nu.eb (.opn (AB nu false)))) (nodes+1) σ' st'->K (.box nu.b 0) st2 st'):
  CallT PR AC [.box bb 0,.int .i64 ((1+dpH h+1:Nat):Int)] [.one .tv] st fun v st2=>need (List.all [v] Ah)
   (CallT PR AO [.box t.b 0,.str k,.box st2.nb 0] [] (st2.push (.cells (v:: .nilSlice::(z13++[.int .i64 0]))) (some 92)) fun st3=>K v st2 st3):=by
 obtain⟨A,B,e1,e2⟩:=I6 h hA 1
 rw[E0 (1+dpH h) t]at e1
 have hp:=H.hp
 rw[e1]at hp
 obtain⟨up,hup⟩:=H.un
 have ht':=e2 (AS t k (st.nb+2) (.opn (AB ⟨st.nb+1,st.nb,st.nb+2⟩ false))) rfl
 rw[Ox]at ht'
 have hS:=hp.sh _ (List.mem_append_right A (List.mem_append_left B (List.mem_cons_self ..)))
 have hin:∀{x},x∈bxS ⟨t.b,t.m,t.hd,1+dpH h,t.es.map shK⟩->x∈bxL (A++((⟨t.b,t.m,t.hd,1+dpH h,t.es.map shK⟩::B2 (1+dpH h) t.es)++B)):=fun hx=>
  Bj (List.mem_append_right A (List.mem_append_left B (List.mem_cons_self ..))) hx
 have itb:=hin (x:=t.b) (.head _)
 have itm:=hin (x:=t.m) (.tail _ (.head _))
 have ltb:t.b<st.nb:=hp.lt _ itb
 have ltm:t.m<st.nb:=hp.lt _ itm
 have bx:=H.bx
 have ux:=H.ux
 rw[e1]at bx ux
 have nb1:t.b≠bb:=fun e=>bx (e▸itb)
 have nb2:t.b≠ub:=fun e=>ux (e▸itb)
 have nm1:t.m≠bb:=fun e=>bx (e▸itm)
 have nm2:t.m≠ub:=fun e=>ux (e▸itm)
 have hbl:=H.bl
 have hul:=H.ul
 have hbu:bb≠ub:=fun e=>by have:=H.cell;rw[e,hup.box]at this;cases this
 obtain⟨mp,hm1,hm2⟩:=hS.mp
 have hmt:t.m≠t.b:=fun e=>by have:=hS.cell;simp only at this hm1;rw[e,this]at hm1;cases hm1
 refine IT H.cell hup.box hbl hul hup.ok ⟨by omega,by omega⟩ fun st1 hnb hbox hnt hlive=>Aa rfl ?_
 have k1:∀x,x<st.nb->x≠bb->x≠ub->st1.box x=st.box x:=fun x h1 h2 h3=>by
  rw[hbox];simp only;rw[if_neg h2,if_neg h3,if_neg (by omega),if_neg (by omega)]
 have hlen:(t.es.map shK).length<=1000000:=by
  rw[List.length_map];have:=ON t;have:=(Ob hA).1;omega
 refine Ov (kv:=σ t.b) (d:=1+dpH h) (m:=t.m) (ks:=(t.es.map shK).map fun x=>x.1) (es:=mp) ?_ ?_ hS.row ?_ (by rw[List.length_map];exact hlen) fun kv' st' r1 r2 r3 r4 r5 r6 r7 r8=>?_
 ·show(if t.b=st1.nb then _ else st1.box t.b)=_
  rw[if_neg (by omega),k1 _ ltb nb1 nb2];exact hS.cell
 ·show(if t.m=st1.nb then _ else st1.box t.m)=_
  rw[if_neg (by omega),k1 _ ltm nm1 nm2];exact hm1
 ·intro id hid
  obtain⟨q1,q2⟩:=hp.tip t.b itb id hid
  show id<st1.nt/\st1.live id=true
  rw[hnt,hlive];exact⟨q1,q2⟩
 have bx':∀x,st'.box x=if x=t.m then .map (Gh k (.box (st.nb+2) 0) mp)else if x=t.b then .cells [kv',.map t.m,.int .i64 ((1+dpH h:Nat):Int)]else if x=st.nb+2 then .cells (.box (st.nb+1) 0:: .nilSlice::(z13++[.int .i64 0]))else st1.box x:=fun x=>by
  rw[r3];simp only[St.push,hnb]
 have nb':st'.nb=st.nb+3:=by rw[r4];simp only[St.push,hnb]
 have nt':st'.nt=st.nt+1:=by rw[r6];simp only[St.push,hnt]
 have lv':∀i,i<st.nt->Bd (σ t.b)≠some i->st'.live i=st.live i:=fun i h1 h2=>by
  rw[r8 i (by simp only[St.push,hnt];exact h1) h2];simp only[St.push,hlive]
 have tip':Bd kv'=some st.nt/\st'.live st.nt=true:=by
  simp only[St.push,hnt]at r2 r7;exact⟨r2,r7⟩
 have k2:∀x,x<st.nb->x≠bb->x≠ub->x≠t.b->x≠t.m->st'.box x=st.box x:=fun x h1 h2 h3 h4 h5=>by
  rw[bx',if_neg h5,if_neg h4,if_neg (by omega),k1 x h1 h2 h3]
 have kbb:st'.box bb= .cells [.box T.b 0,now,.map ub,.int .i64 ((nodes:Int)+1)]:=by
  rw[bx',if_neg (Ne.symm nm1),if_neg (Ne.symm nb1),if_neg (by omega),hbox];simp only;rw[if_pos trivial]
 have kub:st'.box ub= .pmap (E8 (st.nb+1) (.bool true) up):=by
  rw[bx',if_neg (Ne.symm nm2),if_neg (Ne.symm nb2),if_neg (by omega),hbox];simp only;rw[if_neg (Ne.symm hbu),if_pos trivial]
 have kb1:st'.box (st.nb+1)= .cells [.nilSlice,.map st.nb,.int .i64 ((1+dpH h+1:Nat):Int)]:=by
  rw[bx',if_neg (by omega),if_neg (by omega),if_neg (by omega),hbox];simp only;rw[if_neg (by omega),if_neg (by omega),if_pos trivial]
 have kb0:st'.box st.nb= .map []:=by
  rw[bx',if_neg (by omega),if_neg (by omega),if_neg (by omega),hbox];simp only;rw[if_neg (by omega),if_neg (by omega),if_neg (by omega),if_pos trivial]
 have kb2:st'.box (st.nb+2)= .cells (.box (st.nb+1) 0:: .nilSlice::(z13++[.int .i64 0])):=by
  rw[bx',if_neg (by omega),if_neg (by omega),if_pos rfl]
 have eN:Bb (1+dpH h) (.opn (AB ⟨st.nb+1,st.nb,st.nb+2⟩ false))=[⟨st.nb+1,st.nb,false,1+dpH h+1,[]⟩]:=by
  rw[Bb,AB,shT,B2];rfl
 rw[eN]at ht'
 have bN:bxL [⟨st.nb+1,st.nb,false,1+dpH h+1,[]⟩]=[st.nb+1,st.nb]:=rfl
 let σ':Nat->TV:=fun x=>if x=t.b then kv' else if x<st.nb then σ x else .nilSlice
 have s1:σ' t.b=kv':=if_pos rfl
 have s2:∀x,x<st.nb->x≠t.b->σ' x=σ x:=fun x h1 h2=>by simp only[σ'];rw[if_neg h2,if_pos h1]
 have s3:∀x,st.nb<=x->σ' x= .nilSlice:=fun x h1=>by simp only[σ'];rw[if_neg (by omega),if_neg (by omega)]
 have HP':HP σ' st' (A++((⟨t.b,t.m,t.hd,1+dpH h,t.es.map shK++[(k,st.nb+2,.opn (st.nb+1))]⟩::(B2 (1+dpH h) t.es++[⟨st.nb+1,st.nb,false,1+dpH h+1,[]⟩]))++B)):=by
  refine HP.add hp (by omega) (fun x hx h2 h3=>?_) (fun x hx hne id hid=>?_) ?_ ?_ ⟨mp,hm1,?_⟩ (s2 _ ltm hmt) ?_ ⟨kb2,by rw[s3 _ (by omega)];rfl⟩ (fun s' hs'=>?_) ?_ (fun x hx=>?_) (fun x hx id hid=>?_) fun x hx y hy hne id g1 g2=>?_
  ·exact⟨k2 x (hp.lt x hx) (fun e=>bx (e▸hx)) (fun e=>ux (e▸hx)) h2 h3,s2 x (hp.lt x hx) h2⟩
  ·have hq:=hp.tip x hx id hid
   refine⟨by omega,?_⟩
   rw[lv' id hq.1 fun e=>hp.td x hx t.b itb hne id hid e]
   exact hq.2
  ·rw[s1,bx',if_neg (Ne.symm hmt),if_pos rfl]
  ·rw[s1];simp only[List.map_append]at r1⊢;exact r1
  ·rw[bx',if_pos rfl]
  ·rw[GI,hl];rfl
  ·rw[List.mem_singleton.1 hs']
   have s4:σ' (st.nb+1)= .nilSlice:=s3 _ (by omega)
   exact⟨by show st'.box (st.nb+1)= .cells [σ' (st.nb+1),_,_];rw[s4];exact kb1,by show Dw (σ' (st.nb+1)) _;rw[s4];exact Dw.nil,⟨[],kb0,fun _=>rfl⟩,fun x hx=>by cases hx⟩
  ·rw[bN];simp
  ·rw[bN]at hx
   rcases List.mem_cons.1 hx with rfl | hx
   ·omega
   ·rcases List.mem_cons.1 hx with rfl | hx
    ·omega
    ·rw[List.mem_singleton.1 hx];omega
  ·by_cases hxb:x=t.b
   ·rw[hxb,s1,tip'.1]at hid
    cases hid
    exact⟨Nat.le_refl _,by omega,tip'.2⟩
   ·rw[s3 x ?_]at hid
    ·cases hid
    ·rw[bN]at hx
     rcases List.mem_cons.1 hx with h1 | hx
     ·exact absurd h1 hxb
     ·rcases List.mem_cons.1 hx with rfl | hx
      ·omega
      ·rcases List.mem_cons.1 hx with rfl | hx
       ·omega
       ·rw[List.mem_singleton.1 hx];exact Nat.le_refl _
  ·have nn:∀{z},z∈t.b::(st.nb+2)::bxL [⟨st.nb+1,st.nb,false,1+dpH h+1,[]⟩]->z≠t.b->st.nb<=z:=fun {z} hz hne=>by
    rw[bN]at hz
    rcases List.mem_cons.1 hz with h1 | hz
    ·exact absurd h1 hne
    ·rcases List.mem_cons.1 hz with rfl | hz
     ·omega
     ·rcases List.mem_cons.1 hz with rfl | hz
      ·omega
      ·rw[List.mem_singleton.1 hz];exact Nat.le_refl _
   by_cases hxb:x=t.b
   ·have:=nn hy (fun e=>hne (hxb.trans e.symm))
    rw[s3 y this]at g2;cases g2
   ·rw[s3 x (nn hx hxb)]at g1;cases g1
 have memb:∀x,x∈bxL (A++((⟨t.b,t.m,t.hd,1+dpH h,t.es.map shK++[(k,st.nb+2,.opn (st.nb+1))]⟩::(B2 (1+dpH h) t.es++[⟨st.nb+1,st.nb,false,1+dpH h+1,[]⟩]))++B))->
   x∈bxL (A++((⟨t.b,t.m,t.hd,1+dpH h,t.es.map shK⟩::B2 (1+dpH h) t.es)++B))∨st.nb<=x:=fun x hx=>by
  rcases Sj (s:=⟨t.b,t.m,t.hd,1+dpH h,t.es.map shK⟩) (eb:=st.nb+2) (by simp[bxS]) hx with h1 | h1 | h1
  ·exact .inl h1
  ·exact .inr (by omega)
  ·rw[bN]at h1
   rcases List.mem_cons.1 h1 with rfl | h1
   ·exact .inr (by omega)
   ·rw[List.mem_singleton.1 h1];exact .inr (Nat.le_refl _)
 have fdo:∀s,s∈A++((⟨t.b,t.m,t.hd,1+dpH h,t.es.map shK⟩::B2 (1+dpH h) t.es)++B)->BF s.b (E8 (st.nb+1) (.bool true) up)=if s.hd=true then none else some (.bool true):=fun s hs=>by
  have hlt:s.b<st.nb:=hp.lt _ (Bj hs (.head _))
  rw[Et,if_neg (by omega)]
  refine hup.fd s ?_
  rw[e1];exact hs
 refine hk ⟨st.nb+1,st.nb,st.nb+2⟩ σ' st1 st' hnb.symm ⟨by rw[ht'];exact HP',by rw[FW h (x:=AS t k (st.nb+2) (.opn (AB ⟨st.nb+1,st.nb,st.nb+2⟩ false))) hA rfl,kbb];simp,⟨_,kub,?_,fun p hp'=>?_,fun s hs=>?_⟩,by omega,by omega,fun hx=>?_,fun hx=>?_⟩
 ·rw[IE _ _ _ fun p hp' e=>by have:=(hup.ok p hp').2;omega]
  refine List.nodup_append.2 ⟨hup.nd,by simp,fun x hx y hy e=>?_⟩
  obtain⟨p,hp',rfl⟩:=List.mem_map.1 hx
  have:=(hup.ok p hp').2
  rw[List.mem_singleton.1 hy]at e
  omega
 ·rcases JV _ _ _ p hp' with rfl | hp'
  ·exact⟨by simp[Ap,kb1],by show st.nb+1<st'.nb;omega⟩
  ·obtain⟨q1,q2⟩:=hup.ok p hp'
   refine⟨?_,by omega⟩
   by_cases c1:p.1=t.m
   ·have hm1':st.box t.m= .map mp:=hm1
    rw[c1]at q1;simp[Ap,hm1']at q1
   ·by_cases c2:p.1=t.b
    ·rw[c2];simp only[Ap,bx',if_neg (Ne.symm hmt),if_pos trivial]
    ·by_cases c3:p.1=bb
     ·rw[c3];simp[Ap,kbb]
     ·by_cases c4:p.1=ub
      ·rw[c4]at q1;simp[Ap,hup.box]at q1
      ·simp only[Ap,k2 _ q2 c3 c4 c2 c1]at q1⊢;exact q1
 ·rw[ht']at hs
  rcases List.mem_append.1 hs with h1 | h1
  ·exact fdo s (List.mem_append_left _ h1)
  ·rcases List.mem_append.1 h1 with h1 | h1
   ·rcases List.mem_cons.1 h1 with rfl | h1
    ·exact fdo ⟨t.b,t.m,t.hd,1+dpH h,t.es.map shK⟩ (List.mem_append_right _ (List.mem_append_left _ (.head _)))
    ·rcases List.mem_append.1 h1 with h1 | h1
     ·exact fdo s (List.mem_append_right _ (List.mem_append_left _ (.tail _ h1)))
     ·rw[List.mem_singleton.1 h1,Et,if_pos rfl];rfl
   ·exact fdo s (List.mem_append_right _ (List.mem_append_right _ h1))
 ·rw[ht']at hx
  rcases memb bb hx with h1 | h1
  ·exact bx h1
  ·omega
 ·rw[ht']at hx
  rcases memb ub hx with h1 | h1
  ·exact ux h1
  ·omega
section
theorem JC {hd:Bool}:∀(ks:List B8) {nu nu':Nat->Nu} (j:Nat) (T:Tb) (h:List Hop),(∀i,j<=i->i<j+ks.length->nu i=nu' i)->BJ nu hd j T h ks=BJ nu' hd j T h ks
 | [],_,_,_,_,_,_=>rfl
 | k::ks,nu,nu',j,T,h,he=>by
  unfold BJ
  rw[he j (Nat.le_refl _) (by simp only[List.length_cons];omega)]
  cases DD (nu' j) hd T h k with
  | none=>rfl
  | some p=>exact JC ks (j+1) p.1 p.2 fun i h1 h2=>he i (by omega) (by simp only[List.length_cons];omega)
theorem IL {nu:Nat->Nu} {hd:Bool}:∀(ks:List B8) (j:Nat) (T:Tb) (h:List Hop) (k:B8),BJ nu hd j T h (ks++[k])=(BJ nu hd j T h ks).bind fun p=>DD (nu (j+ks.length)) hd p.1 p.2 k
 | [],j,T,h,k=>by
  simp only[List.nil_append,BJ,Option.bind_some,List.length_nil,Nat.add_zero]
  cases DD (nu j) hd T h k with
  | none=>rfl
  | some p=>rfl
 | a::ks,j,T,h,k=>by
  rw[List.cons_append]
  unfold BJ
  cases DD (nu j) hd T h a with
  | none=>rfl
  | some p=>
   simp only
   rw[IL ks (j+1) p.1 p.2 k,List.length_cons,show j+1+ks.length=j+(ks.length+1) by omega]
theorem IM {nu:Nat->Nu} {hd:Bool}:∀(ks rs:List B8) (j:Nat) (T:Tb) (h:List Hop),BJ nu hd j T h ks=none->BJ nu hd j T h (ks++rs)=none
 | [],rs,j,T,h,hn=>by unfold BJ at hn;cases hn
 | a::ks,rs,j,T,h,hn=>by
  rw[List.cons_append]
  unfold BJ at hn⊢
  cases hh:DD (nu j) hd T h a with
  | none=>rfl
  | some p=>
   rw[hh]at hn
   exact IM ks rs (j+1) p.1 p.2 hn
def K4 (nu:Nat->Nu) (j:Nat) (x:Nu):Nat->Nu:=fun i=>if i=j then x else nu i
theorem Uy {nu:Nat->Nu} {hd:Bool} {ks:List B8} {T:Tb} {h:List Hop} {x:Nu}:BJ (K4 nu ks.length x) hd 0 T h ks=BJ nu hd 0 T h ks:=
 JC ks 0 T h fun i _ h2=>by unfold K4;rw[if_neg (by omega)]
theorem K1 {T t:Tb} {h:List Hop} {k:B8} {nu:Nu} {hd:Bool} (hA:atT T h=some t) (hl:Ag k t.es=none):atT (Ax T h (AS t k nu.eb (.opn (AB nu hd)))) (h++[(k,none)])=some (AB nu hd):=by
 rw[IV,DW h hA]
 show atT (AS t k nu.eb (.opn (AB nu hd))) [(k,none)]=_
 have:=GH (t:=t) (k:=k) (k2:=k) (eb:=nu.eb) (e:= .opn (AB nu hd)) hl
 rw[if_pos rfl]at this
 unfold AS at this⊢
 rw[atT]
 simp only[Tb.es]at this⊢
 rw[this]
 rfl
theorem JH {T t u:Tb} {h:List Hop} {k:B8} {eb:Nat} (hA:atT T h=some t) (hl:Ag k t.es=some (eb,.opn u)):atT T (h++[(k,none)])=some u:=by
 rw[IV,hA]
 obtain⟨b,m,hd,es⟩:=t
 show atT (.mk b m hd es) [(k,none)]=_
 rw[atT]
 simp only[Tb.es]at hl
 rw[hl]
 cases u;rfl
theorem Iv {T t u:Tb} {h:List Hop} {k:B8} {eb i:Nat} {l:List Tb} (hA:atT T h=some t) (hl:Ag k t.es=some (eb,.lst l)) (hi:l[i]? =some u):atT T (h++[(k,some i)])=some u:=by
 rw[IV,hA]
 obtain⟨b,m,hd,es⟩:=t
 show atT (.mk b m hd es) [(k,some i)]=_
 rw[atT]
 simp only[Tb.es]at hl
 rw[hl]
 simp only[hi]
 cases u;rfl
section
variable {bb ub:Nat} {now:TV} {T t:Tb} {nodes:Nat} {σ:Nat->TV} {st:St} {h:List Hop}
theorem BH.tab (H:BH bb ub now T nodes σ st) (hA:atT T h=some t):MT σ st ⟨t.b,t.m,t.hd,1+dpH h,t.es.map shK⟩/\(⟨t.b,t.m,t.hd,1+dpH h,t.es.map shK⟩:Sh)∈shT 1 T:=by
 obtain⟨A,B,e1,_⟩:=I6 h hA 1
 rw[E0 (1+dpH h) t]at e1
 have hm:(⟨t.b,t.m,t.hd,1+dpH h,t.es.map shK⟩:Sh)∈shT 1 T:=by
  rw[e1];exact List.mem_append_right A (List.mem_append_left B (List.mem_cons_self ..))
 exact⟨H.hp.sh _ hm,hm⟩
theorem BH.ldm (H:BH bb ub now T nodes σ st) (hA:atT T h=some t) {f:TV->Prop} (hf:f (.map t.m)):Ai (Ac st [] (.t (.box t.b 1)) 0) f:=by
 have:=(H.tab hA).1.cell
 refine Ad (x:= .map t.m) ?_ hf
 simp only at this
 simp only[Ac,this]
 rfl
theorem BH.ldd (H:BH bb ub now T nodes σ st) (hA:atT T h=some t) {f:TV->Prop} (hf:f (.int .i64 ((1+dpH h:Nat):Int))):Ai (Ac st [] (.t (.box t.b 2)) 0) f:=by
 have:=(H.tab hA).1.cell
 refine Ad (x:= .int .i64 ((1+dpH h:Nat):Int)) ?_ hf
 simp only at this
 simp only[Ac,this]
 rfl
theorem BH.map (H:BH bb ub now T nodes σ st) (hA:atT T h=some t) {f:List (B8×TV)->Prop} (hf:∀es,(∀k,Av k es=(Ag k t.es).map fun p=> .box p.1 0)->f es):Ai (ED st (.map t.m)) f:=by
 obtain⟨mp,h1,h2⟩:=(H.tab hA).1.mp
 refine Ad (x:=mp) ?_ (hf mp fun k=>?_)
 ·simp only at h1
  simp only[ED,h1]
 ·rw[h2 k,GI]
  cases Ag k t.es<;>rfl
theorem BH.ent (H:BH bb ub now T nodes σ st) (hA:atT T h=some t) {k:B8} {eb:Nat} {e:En} (hl:Ag k t.es=some (eb,e)):Ln σ st eb (shE e):=
 (H.tab hA).1.en (k,eb,shE e) (List.mem_map.2 ⟨.mk k eb e,IJ hl,rfl⟩)
theorem BH.ent0 (H:BH bb ub now T nodes σ st) (hA:atT T h=some t) {k:B8} {eb:Nat} {e:En} (hl:Ag k t.es=some (eb,e)) {f:TV->Prop} (hf:f (match e with | .opn u=> .box u.b 0 | _=> .nilPtr)):Ai (Ac st [] (.t (.box eb 0)) 0) f:=by
 have:=H.ent hA hl
 cases e with
 | opn u=>
  obtain⟨h1,_⟩:=this
  exact Ad (by simp only[Ac,h1];rfl) hf
 | lst l=>
  obtain⟨_,_,h1⟩:=this
  exact Ad (by simp only[Ac,h1];rfl) hf
 | clo v i=>
  obtain⟨cs,_,_,h1,_⟩:=this
  exact Ad (by simp only[Ac,h1];rfl) hf
def KE:En->List TV
 | .lst l=>l.map fun t=> .box t.b 0
 | _=>[]
theorem BH.ent1 (H:BH bb ub now T nodes σ st) (hA:atT T h=some t) {k:B8} {eb:Nat} {e:En} (hl:Ag k t.es=some (eb,e)) {f:TV->Prop} (hf:∀v,Dw v (KE e)->f v):Ai (Ac st [] (.t (.box eb 1)) 0) f:=by
 have:=H.ent hA hl
 cases e with
 | opn u=>
  obtain⟨h1,_⟩:=this
  exact Ad (by simp only[Ac,h1];rfl) (hf _ Dw.nil)
 | lst l=>
  obtain⟨h0,_,h1⟩:=this
  refine Ad (x:=σ eb) (by simp only[Ac,h1];rfl) (hf _ ?_)
  rw[List.map_map]at h0
  exact h0
 | clo v i=>
  obtain⟨cs,_,_,h1,_⟩:=this
  exact Ad (by simp only[Ac,h1];rfl) (hf _ Dw.nil)
end
theorem Dw.get {v:TV} {xs:List TV} (h:Dw v xs) {st:St} {i:Nat} {x:TV} (hx:xs[i]? =some x) {f:TV->Prop} (hf:f x):Ai (Ac st [] (.t (ixT 1 v i)) 0) f:=by
 rcases h with⟨rfl,rfl⟩ | ⟨tip,rfl,_⟩
 ·simp at hx
 ·refine Ad (x:=x) ?_ hf
  simp only[ixT,Ac,Nat.mul_one,List.getElem?_drop,Nat.add_zero]
  exact hx
end
section
mutual
theorem Mk:∀v:Vl,lvV v<=v.cnt
 | .mk s l f=>by
  have:=Sk l
  have:=Sl f
  unfold lvV Vl.cnt;omega
theorem Sk:∀l:List Vl,FB l<=AF l
 | []=>by unfold FB AF;omega
 | v::r=>by
  have:=Mk v
  have:=Sk r
  unfold FB AF;omega
theorem lvd_cnt:∀d:Fd,lvD d<=d.cnt
 | .mk k v=>by unfold lvD Fd.cnt;exact Mk v
theorem Sl:∀l:List Fd,Fe l<=AI l
 | []=>by unfold Fe AI;omega
 | d::r=>by
  have:=lvd_cnt d
  have:=Sl r
  unfold Fe AI;omega
end
theorem JF {T t:Tb} {h:List Hop} (hA:atT T h=some t):dpH h<=(Ae T).cnt:=by
 have:=(DV h hA t).lvu
 have:=Mk (Ae T)
 omega
theorem LG {T t:Tb} {h:List Hop} {k:B8} {eb:Nat} {e:En} (hA:atT T h=some t):(Ae (Ax T h (AS t k eb e))).cnt=(Ae T).cnt+(AA e).cnt:=by
 have h1:=(DV h hA (AS t k eb e)).cnt
 have h2:=LH t k eb e
 omega
theorem EM (nu:Nu) (hd:Bool):(AA (.opn (AB nu hd))).cnt=1:=by
 rw[AA,AB,Ae,AD];simp[Vl.cnt,AF,AI]
theorem OM:∀l:List Tb,l.length<=AF (A1 l)
 | []=>by simp
 | t::r=>by
  have:=OM r
  have h1:1<=(Ae t).cnt:=by cases Ae t;unfold Vl.cnt;omega
  rw[A1,AF,List.length_cons];omega
theorem Mn {t:Tb} {k:B8} {eb:Nat} {l:List Tb} (h:Ag k t.es=some (eb,.lst l)):l.length<=(Ae t).cnt:=by
 obtain⟨F,G,h1,_⟩:=CD h
 rw[B1,h1]
 have:=OM l
 simp only[Vl.cnt,D2,AI,Fd.cnt,AA]
 omega
theorem Ds {ks:List B8} {j:Nat} (h:j<ks.length):(ks.map TV.str)[j]? =some (.str (ks.getD j [])):=by
 rw[List.getElem?_map,List.getElem?_eq_getElem h,List.getD_eq_getElem?_getD,List.getElem?_eq_getElem h];rfl
theorem Co {ks:List B8} {j:Nat} (h:j<ks.length):ks.take (j+1)=ks.take j++[ks.getD j []]:=by
 rw[List.take_add_one,List.getElem?_eq_getElem h,List.getD_eq_getElem?_getD,List.getElem?_eq_getElem h];rfl
theorem Vb {bb ub:Nat} {now:TV} {T t:Tb} {σ:Nat->TV} {st:St} {h:List Hop} {ks:List B8} {a_0 a_1 a_4 a_5:Bool} {a_2 a_13 a_14 a_15:TV} {a_3 a_7 a_8 a_9 a_10 a_11:Int} {a_6 a_12:B8} {K:TV->Bool->St->Prop}
  (H:BH bb ub now T (Ae T).cnt σ st) (hA:atT T h=some t) (hr:Rd 1 a_2 ks.length (ks.map TV.str)) (hks:ks≠ []) (hc:(Ae T).cnt+ks.length<=800000)
  (hk1:∀nu T' h' t' σ' st',BJ nu a_0 0 T h ks.dropLast=some (T',h')->atT T' h'=some t'->BH bb ub now T' (Ae T').cnt σ' st'->(Ae T').cnt+1<=(Ae T).cnt+ks.length->K (.box t'.b 0) true st')
  (hk2:∀nu st',BJ nu a_0 0 T h ks.dropLast=none->K .nilPtr false st'):
  CallT PR Cj [.box bb 0,.box t.b 0,.agg [.bool a_0,.bool a_1,a_2,.int .i64 a_3,.bool a_4,.bool a_5,.str a_6,.int .i64 a_7,.int .i64 a_8,.int .i64 a_9,.int .i64 a_10,.int .i64 a_11,.str a_12,a_13,a_14,a_15]] [.one .tv,.one .bool] st K:=by
 obtain⟨ks',kl,rfl⟩:∃ks' kl,ks=ks'++[kl]:=⟨ks.dropLast,ks.getLast hks,(List.dropLast_concat_getLast hks).symm⟩
 rw[List.dropLast_concat]at hk1 hk2
 rcases hr with⟨_,h0,_⟩ | ⟨tip,rfl⟩
 ·simp at h0
 rw[List.length_append,List.length_singleton]at hc hk1
 have hw:IntKind.wrap .i64 ((lenS (.list 1 tip (ks'++[kl]).length ((ks'++[kl]).map TV.str)):Int)-1)=(ks'.length:Int):=by
  rw[Am _ (by simp[lenS]<;>omega) (by simp[lenS]<;>omega)];simp[lenS]
 have hv:slT 1 .non (.list 1 tip (ks'++[kl]).length ((ks'++[kl]).map TV.str)) 0 (Int.toNat (ks'.length:Int))= .list 1 .non ks'.length (ks'.map TV.str):=by
  simp only[slT,Int.toNat_natCast,Nat.sub_zero,Nat.mul_one,Nat.zero_mul,List.drop_zero,List.map_append]
  rw[List.take_left' (by simp)]
 refine Gf bb t.b a_0 a_1 _ a_3 a_4 a_5 a_6 a_7 a_8 a_9 a_10 a_11 a_12 a_13 a_14 a_15 st K (Aa rfl ?_)
 rw[hw,hv]
 refine⟨⟨rfl,by omega,by simp[lenS]<;>omega⟩,Aa rfl ?_⟩
 refine⟨fun t_1 n_1 b_1 v_1 n_2 b1 _ _ _ _ _ _ _ _ _ _ _ _ _ _ _ st1=>∃(j:Nat) (nu:Nat->Nu) (T':Tb) (h':List Hop) (t':Tb) (σ':Nat->TV),n_1=(j:Int)/\j<=ks'.length/\t_1= .box t'.b 0/\b_1= .box bb 0/\
   v_1= .list 1 .non ks'.length (ks'.map TV.str)/\n_2=(ks'.length:Int)/\b1=a_0/\BJ nu a_0 0 T h (ks'.take j)=some (T',h')/\atT T' h'=some t'/\BH bb ub now T' (Ae T').cnt σ' st1/\(Ae T').cnt<=(Ae T).cnt+j,
  fun _ n_1 _ _ _ _ _ _ _ _ _ _ _ _ _ _ _ _ _ _ _ _=>ks'.length-n_1.toNat,⟨0,fun _=>⟨0,0,0⟩,T,h,t,σ,rfl,Nat.zero_le _,rfl,rfl,rfl,rfl,rfl,rfl,hA,H,by omega⟩,?_⟩
 rintro t_1 n_1 b_1 v_1 n_2 b1 b2 v1 n1 b3 b4 s1 n2 n3 n4 n5 n6 s2 v2 v3 v4 st1 ⟨j,nu,T',h',t',σ',rfl,hj,rfl,rfl,rfl,rfl,rfl,hh,hA',H',hc'⟩
 refine Ab (fun hlt=>?_) fun hge=>?_
 ·have hlt:j<ks'.length:=by omega
  have hwj:IntKind.wrap .i64 ((j:Int)+1)=((j+1:Nat):Int):=by rw[Am _ (by omega) (by omega)];simp
  have hdp:=JF hA'
  have hlen:(ks'.take j).length=j:=by rw[List.length_take];omega
  have hsn:∀nu',BJ nu' b1 0 T h (ks'.take j)=some (T',h')->BJ nu' b1 0 T h (ks'.take (j+1))=DD (nu' j) b1 T' h' (ks'.getD j []):=fun nu' hh'=>by
   rw[Co hlt,IL,hh',hlen];simp
  refine⟨⟨by omega,by show(j:Int)<(ks'.length:Int);omega⟩,?_⟩
  refine Ad (x:= .str (ks'.getD j [])) ?_ ?_
  ·have:=Ds hlt
   simp only[ixT,Ac,Int.toNat_natCast,Nat.mul_one,List.getElem?_drop,Nat.add_zero]
   exact this
  refine Ct (Aa rfl (Aa rfl (H'.ldm hA' (H'.map hA' fun es hes=>?_))))
  rw[hes (ks'.getD j [])]
  have hh1:=hsn nu hh
  unfold DD at hh1
  rw[hA']at hh1
  simp only at hh1
  rw[hwj]
  have step:∀{u:Tb} {o:Option Nat},BJ nu b1 0 T h (ks'.take (j+1))=some (T',h'++[(ks'.getD j [],o)])->atT T' (h'++[(ks'.getD j [],o)])=some u->
    (∃(j':Nat) (nu:Nat->Nu) (T'':Tb) (h'':List Hop) (t'':Tb) (σ'':Nat->TV),((j+1:Nat):Int)=(j':Int)/\j'<=ks'.length/\(TV.box u.b 0)= .box t''.b 0/\(TV.box bb 0)= .box bb 0/\
     (TV.list 1 .non ks'.length (ks'.map TV.str))= .list 1 .non ks'.length (ks'.map TV.str)/\(ks'.length:Int)=(ks'.length:Int)/\b1=b1/\BJ nu b1 0 T h (ks'.take j')=some (T'',h'')/\atT T'' h''=some t''/\BH bb ub now T'' (Ae T'').cnt σ'' st1/\(Ae T'').cnt<=(Ae T).cnt+j')/\
    ks'.length-((j+1:Nat):Int).toNat<ks'.length-((j:Nat):Int).toNat:=fun {u o} q1 q2=>
   ⟨⟨j+1,nu,T',_,u,σ',rfl,hlt,rfl,rfl,rfl,rfl,rfl,q1,q2,H',by omega⟩,by simp only[Int.toNat_natCast];omega⟩
  rcases hl:Ag (ks'.getD j []) t'.es with _ | ⟨eb,e⟩
  ·rw[Option.map_none]
   refine Aa rfl (show need _ _ from Aa rfl (Aa rfl (H'.ldd hA' (AV ?_))))
   have hwd:IntKind.wrap .i64 (((1+dpH h':Nat):Int)+1)=((1+dpH h'+1:Nat):Int):=by rw[Am _ (by omega) (by omega)];simp
   rw[hwd]
   refine PT H' hA' hl (by omega) rfl (fun nu1 σ'' st2 st' he H''=>?_)
   have hq:BJ (K4 nu j nu1) b1 0 T h (ks'.take j)=some (T',h'):=by
    have:=Uy (nu:=nu) (hd:=b1) (ks:=ks'.take j) (T:=T) (h:=h) (x:=nu1)
    rw[hlen]at this
    rw[this,hh]
   have hq1:=hsn _ hq
   have hnj:K4 nu j nu1 j=nu1:=by unfold K4;rw[if_pos rfl]
   rw[hnj]at hq1
   unfold DD at hq1
   rw[hA']at hq1
   simp only[hl]at hq1
   have hcn:=LG (k:=ks'.getD j []) (eb:=nu1.eb) (e:= .opn (AB nu1 false)) hA'
   rw[EM]at hcn
   rw[<-hcn]at H''
   exact⟨⟨j+1,_,_,_,AB nu1 false,σ'',rfl,hlt,rfl,rfl,rfl,rfl,rfl,hq1,K1 hA' hl,H'',by omega⟩,by simp only[Int.toNat_natCast];omega⟩
  ·rw[Option.map_some]
   rw[hl]at hh1
   refine Aa rfl (show need _ _ from Aa rfl (Aa rfl (H'.ent0 hA' hl ?_)))
   cases e with
   | opn u=>
    simp only at hh1
    refine Aa rfl (show need _ _ from Aa rfl (Aa rfl (H'.ent0 hA' hl ?_)))
    exact step hh1 (JH hA' hl)
   | lst l=>
    refine Aa rfl (show need _ _ from Aa rfl (Aa rfl (H'.ent1 hA' hl fun v hv=>?_)))
    have hvl:lenS v=l.length:=by rw[hv.len];simp[KE]
    have hne:l≠ []:=by have:=(H'.ent hA' hl).2.1;intro e;rw[e]at this;exact this rfl
    have hlp:0<l.length:=List.length_pos_iff.2 hne
    refine Aa hv.sl ?_
    rw[hvl]
    refine Ab (fun _=>?_) fun hb=>absurd (by omega) hb
    simp only at hh1
    cases b1 with
    | false=>exact hk2 nu st1 (by
      rw[if_neg (by simp)]at hh1
      have:=IM (ks'.take (j+1)) (ks'.drop (j+1)) 0 T h hh1
      rwa [List.take_append_drop]at this)
    | true=>
     rw[if_pos rfl]at hh1
     refine As (fun _=>?_) (fun hb=>by cases hb)
     refine Aa rfl (Aa rfl (H'.ent1 hA' hl fun v' hv'=>Aa rfl (Aa rfl (H'.ent1 hA' hl fun v2' hv2=>Aa hv2.sl ?_))))
     have hll:l.length<=(Ae T').cnt:=by
      have:=Mn hl
      have:=(Ob hA').1
      omega
     have hwl:IntKind.wrap .i64 ((lenS v2':Int)-1)=((l.length-1:Nat):Int):=by
      rw[hv2.len,Am _ (by simp[KE];omega) (by simp[KE];omega)];simp[KE];omega
     rw[hwl]
     have hu:l[l.length-1]? =some (l.getD (l.length-1) (.mk 0 0 false [])):=by
      rw[List.getD_eq_getElem?_getD,List.getElem?_eq_getElem (by omega)];rfl
     refine⟨⟨by omega,by rw[hv'.lenZ];simp[KE];omega⟩,?_⟩
     rw[Int.toNat_natCast]
     refine hv'.get (x:= .box (l.getD (l.length-1) (.mk 0 0 false [])).b 0) ?_ ?_
     ·simp only[KE,List.getElem?_map,hu];rfl
     ·exact step hh1 (Iv hA' hl hu)
   | clo w i=>
    refine Aa rfl (show need _ _ from Aa rfl (Aa rfl (H'.ent1 hA' hl fun v hv=>Aa hv.sl ?_)))
    have hvl:lenS v=0:=by rw[hv.len];rfl
    rw[hvl]
    refine Ab (fun hb=>absurd hb (by omega)) fun _=>?_
    simp only at hh1
    exact hk2 nu st1 (by
     have:=IM (ks'.take (j+1)) (ks'.drop (j+1)) 0 T h hh1
     rwa [List.take_append_drop]at this)
 ·have:j=ks'.length:=by omega
  subst this
  rw[List.take_length]at hh
  exact hk1 nu T' h' t' σ' st1 hh hA' H' (by omega)
end
theorem sh_head (d:Nat) (u:Tb):shT d (BT u)=⟨u.b,u.m,true,d,u.es.map shK⟩::B2 d u.es:=by cases u;rfl
theorem Rw (u:Tb):(BT u).b=u.b:=by cases u;rfl
theorem HP.same {σ:Nat->TV} {st st':St} {L:List Sh} (h:HP σ st L) (hnb:st.nb<=st'.nb) (hb:∀x,x∈bxL L->st'.box x=st.box x) (hl:∀id,id<st.nt->st.live id=true->id<st'.nt/\st'.live id=true):HP σ st' L:=
 ⟨h.nd,fun x hx=>Nat.lt_of_lt_of_le (h.lt x hx) hnb,fun s hs=>(h.sh s hs).fr fun x hx=>⟨hb x (Bj hs hx),rfl⟩,fun x hx id hid=>hl id (h.tip x hx id hid).1 (h.tip x hx id hid).2,h.td⟩
theorem HP.hd {σ:Nat->TV} {st:St} {A R B:List Sh} {s:Sh} {x:Bool} (h:HP σ st (A++((s::R)++B))):HP σ st (A++((⟨s.b,s.m,x,s.d,s.es⟩::R)++B)):=by
 have e:bxL (A++((⟨s.b,s.m,x,s.d,s.es⟩::R)++B))=bxL (A++((s::R)++B)):=by
  rw[AJ,AJ,A5,AJ,AJ,A5];rfl
 refine⟨by rw[e];exact h.nd,by rw[e];exact h.lt,fun s' hs'=>?_,by rw[e];exact h.tip,by rw[e];exact h.td⟩
 rcases List.mem_append.1 hs' with h1 | h1
 ·exact h.sh s' (List.mem_append_left _ h1)
 ·rcases List.mem_append.1 h1 with h1 | h1
  ·rcases List.mem_cons.1 h1 with rfl | h1
   ·have:=h.sh s (List.mem_append_right _ (List.mem_append_left _ (.head _)))
    exact⟨this.cell,this.row,this.mp,this.en⟩
   ·exact h.sh s' (List.mem_append_right _ (List.mem_append_left _ (.tail _ h1)))
  ·exact h.sh s' (List.mem_append_right _ (List.mem_append_right _ h1))
theorem BH.bu {bb ub:Nat} {now:TV} {T:Tb} {nodes:Nat} {σ:Nat->TV} {st:St} (H:BH bb ub now T nodes σ st):bb≠ub:=fun e=>by
 obtain⟨up,hup⟩:=H.un
 have:=H.cell;rw[e,hup.box]at this;cases this
theorem BH.plook {bb ub:Nat} {now:TV} {T u:Tb} {nodes:Nat} {σ:Nat->TV} {st:St} {h:List Hop} (H:BH bb ub now T nodes σ st) (hA:atT T h=some u) {f:TV->Prop} (hf:f (.bool !u.hd)):
  Ai (plook st (.map ub) (.box u.b 0) false (.bool false)) f:=by
 obtain⟨up,hup⟩:=H.un
 obtain⟨hS,hm⟩:=H.tab hA
 have hc:Ap st u.b=true:=by have:=hS.cell;simp only at this;simp[Ap,this]
 have hg:=KJ hup.box (fun p hp=>(hup.ok p hp).1) hc
 refine Ad (x:= .bool !u.hd) ?_ hf
 unfold Go.TVF.plook
 rw[hg]
 have:=hup.fd _ hm
 simp only at this
 simp only[Option.map_some,this]
 cases u.hd<;>rfl
theorem Su {bb ub eb:Nat} {now:TV} {T u:Tb} {nodes:Nat} {σ:Nat->TV} {st:St} {h:List Hop} (H:BH bb ub now T nodes σ st) (hA:atT T h=some u) {r:List TV} (he:st.box eb= .cells (.box u.b 0::r)) {K:St->Prop}
  (hk:∀st',BH bb ub (.box u.b 0) (Ax T h (BT u)) nodes σ st'->K st'):
  pdK (.map ub) (.box u.b 0) st fun st3=>Ai (Ac st3 [] (.t (.box eb 0)) 0) fun v8=>need (List.all [v8] Ah) (stB st3 (.box bb 1) [v8] K):=by
 obtain⟨up,hup⟩:=H.un
 obtain⟨hS,hm⟩:=H.tab hA
 have hc:Ap st u.b=true:=by have:=hS.cell;simp only at this;simp[Ap,this]
 have hg:=KJ hup.box (fun p hp=>(hup.ok p hp).1) hc
 have hue:eb≠ub:=fun e=>by rw[e,hup.box]at he;cases he
 have hbu:=H.bu
 refine Ad hg ?_
 refine Ad (x:= .box u.b 0) (by simp[Ac,St.put,Il,hue,he]) (Aa rfl ?_)
 refine⟨[.box T.b 0,now,.map ub,.int .i64 nodes],by simp[St.put,Il,hbu,H.cell],by simp,?_⟩
 obtain⟨A,B,e1,e2⟩:=I6 h hA 1
 have e3:=e2 (BT u) (Rw u)
 rw[E0 (1+dpH h) u]at e1
 rw[sh_head]at e3
 have hp:=H.hp
 rw[e1]at hp
 have bx:=H.bx
 have ux:=H.ux
 have hbl:=H.bl
 have hul:=H.ul
 have eb':bxL (shT 1 (Ax T h (BT u)))=bxL (shT 1 T):=by
  rw[e1,e3,AJ,AJ,A5,AJ,AJ,A5];rfl
 have kb:∀x,x≠bb->x≠ub->((st.put ub (.pmap (Hj u.b up))).put bb (.cells (setAll [.box T.b 0,now,.map ub,.int .i64 nodes] 1 [.box u.b 0]))).box x=st.box x:=fun x h1 h2=>by simp[St.put,h1,h2]
 have fdo:∀s,s∈A++((⟨u.b,u.m,u.hd,1+dpH h,u.es.map shK⟩::B2 (1+dpH h) u.es)++B)->s.b≠u.b->BF s.b (Hj u.b up)=if s.hd=true then none else some (.bool true):=fun s hs hne=>by
  rw[KX _ _ _ hup.nd,if_neg hne]
  refine hup.fd s ?_
  rw[e1];exact hs
 obtain⟨n1,n2,n3⟩:=J4 hp.nd
 have hub:u.b∈bxL (⟨u.b,u.m,u.hd,1+dpH h,u.es.map shK⟩::B2 (1+dpH h) u.es):=by rw[A5];exact List.mem_append_left _ (.head _)
 refine hk _ ⟨?_,?_,⟨Hj u.b up,?_,SC _ _ hup.nd,fun p hp'=>?_,fun s hs=>?_⟩,hbl,hul,by rw[eb'];exact bx,by rw[eb'];exact ux⟩
 ·rw[e3]
  have:=HP.hd (x:=true) hp
  refine HP.same this (Nat.le_refl _) (fun x hx=>?_) fun id h1 h2=>⟨h1,h2⟩
  have hx':x∈bxL (shT 1 T):=by rw[<-eb',e3];exact hx
  exact kb x (fun e=>bx (e▸hx')) fun e=>ux (e▸hx')
 ·rw[FW h (x:=BT u) hA (Rw u)]
  simp[St.put,setAll]
 ·show(if ub=bb then _ else if ub=Il (.map ub)then _ else _)=_
  rw[if_neg (Ne.symm hbu)]
  exact if_pos rfl
 ·obtain⟨q1,q2⟩:=hup.ok p (MH _ _ p hp')
  refine⟨?_,q2⟩
  by_cases c1:p.1=bb
  ·rw[c1];simp[Ap,St.put,setAll]
  ·by_cases c2:p.1=ub
   ·rw[c2]at q1;simp[Ap,hup.box]at q1
   ·have:=kb p.1 c1 c2
    unfold Ap at q1⊢
    show(match ((st.put ub (.pmap (Hj u.b up))).put bb (.cells (setAll [.box T.b 0,now,.map ub,.int .i64 nodes] 1 [.box u.b 0]))).box p.1 with | .cells (_::_)=>true | _=>false)=true
    rw[this];exact q1
 ·rw[e3]at hs
  rcases List.mem_append.1 hs with h1 | h1
  ·exact fdo s (List.mem_append_left _ h1) fun e=>(n3 _ hub).1 (e▸Bj h1 (.head _))
  ·rcases List.mem_append.1 h1 with h1 | h1
   ·rcases List.mem_cons.1 h1 with rfl | h1
    ·rw[KX _ _ _ hup.nd,if_pos rfl];rfl
    ·refine fdo s (List.mem_append_right _ (List.mem_append_left _ (.tail _ h1))) fun e=>?_
     rw[A5]at n2
     exact(List.nodup_append.1 n2).2.2 u.b (.head _) s.b (Bj h1 (.head _)) e.symm
   ·exact fdo s (List.mem_append_right _ (List.mem_append_right _ h1)) fun e=>(n3 _ hub).2 (e▸Bj h1 (.head _))
theorem OA {T t u:Tb} {h:List Hop} {k:B8} {eb:Nat} (hA:atT T h=some t) (hl:Ag k t.es=some (eb,.opn u)) (x:Tb):Ax T (h++[(k,none)]) x=Ax T h (B6 t k (.opn x)):=by
 rw[Ls h _ hA]
 congr 1
 obtain⟨b,m,hd,es⟩:=t
 simp only[Tb.es]at hl
 rw[Ax,hl]
 cases u;rfl
theorem SF {t:Tb} {k:B8} {eb:Nat} {e x:En} (hl:Ag k t.es=none):B6 (AS t k eb e) k x=AS t k eb x:=by
 have:∀es:List Kn,Ag k es=none->BR k x (es++[.mk k eb e])=es++[.mk k eb x]:=by
  intro es
  induction es with
  | nil=>intro _;simp[BR]
  | cons d r ih=>
   obtain⟨k',eb',e'⟩:=d
   intro hn
   unfold Ag at hn
   by_cases hk:k=k'
   ·rw[if_pos hk]at hn;cases hn
   ·rw[if_neg hk]at hn
    rw[List.cons_append,BR,if_neg hk,ih hn];rfl
 show Tb.mk t.b t.m t.hd (BR k x (t.es++[.mk k eb e]))=Tb.mk t.b t.m t.hd (t.es++[.mk k eb x])
 rw[this _ hl]
def J7 (nu:Nu) (T t:Tb) (h:List Hop) (k:B8):Except Int (Tb×List Hop):=match Ag k t.es with
 | none=> .ok (Ax T h (AS t k nu.eb (.opn (AB nu true))),h++[(k,none)])
 | some (_,.opn u)=>if u.hd=true then .error 8 else .ok (Ax T h (B6 t k (.opn (BT u))),h++[(k,none)])
 | some _=> .error 8
theorem RR {bb ub:Nat} {now:TV} {T t:Tb} {σ:Nat->TV} {st:St} {h:List Hop} {k:B8} {K:Int->St->Prop} (H:BH bb ub now T (Ae T).cnt σ st) (hA:atT T h=some t) (hc:(Ae T).cnt<=800000)
  (hk1:∀nu T' h' u σ' st',J7 nu T t h k= .ok (T',h')->atT T' h'=some u->BH bb ub (.box u.b 0) T' (Ae T').cnt σ' st'->(Ae T').cnt<=(Ae T).cnt+1->K 0 st')
  (hk2:∀nu st',J7 nu T t h k= .error 8->K 8 st'):
  CallT PR B3 [.box bb 0,.box t.b 0,.str k] [.one (.int .i64)] st K:=by
 refine FR bb t.b k st K (H.ldm hA (H.map hA fun es hes=>?_))
 rw[hes k]
 have nu0:Nu:=⟨0,0,0⟩
 rcases hl:Ag k t.es with _ | ⟨eb,e⟩
 ·rw[Option.map_none]
  have hdp:=JF hA
  refine Aa rfl (show Ai _ _ from H.ldd hA (AV ?_))
  have hwd:IntKind.wrap .i64 (((1+dpH h:Nat):Int)+1)=((1+dpH h+1:Nat):Int):=by rw[Am _ (by omega) (by omega)];simp
  rw[hwd]
  refine PT H hA hl (by omega) rfl (fun nu σ' st1 st2 he H1=>?_)
  have hA1:=K1 (nu:=nu) (hd:=false) hA hl
  have hl1:Ag k (AS t k nu.eb (.opn (AB nu false))).es=some (nu.eb,.opn (AB nu false)):=by
   have:=GH (k2:=k) (eb:=nu.eb) (e:= .opn (AB nu false)) hl
   rw[if_pos rfl]at this;exact this
  have hA0:=DW h (x:=AS t k nu.eb (.opn (AB nu false))) hA
  have hcn:=LG (k:=k) (eb:=nu.eb) (e:= .opn (AB nu false)) hA
  rw[EM]at hcn
  rw[<-he]
  refine H1.ent0 hA0 hl1 (Aa rfl (show Ai _ _ from ?_))
  refine Ad (x:= .map ub) (by simp only[Ac,H1.cell];rfl) (H1.ent0 hA0 hl1 (H1.plook hA1 (GM (show Ai _ _ from ?_))))
  refine Ad (x:= .map ub) (by simp only[Ac,H1.cell];rfl) (H1.ent0 hA0 hl1 ?_)
  have hee:=H1.ent hA0 hl1
  refine Su H1 hA1 hee.1 fun st' H2=>?_
  have e9:Ax (Ax T h (AS t k nu.eb (.opn (AB nu false)))) (h++[(k,none)]) (BT (AB nu false))=Ax T h (AS t k nu.eb (.opn (AB nu true))):=by
   rw[OA hA0 hl1,ID h hA,SF hl];rfl
  rw[e9]at H2
  have hcn2:=LG (k:=k) (eb:=nu.eb) (e:= .opn (AB nu true)) hA
  rw[EM]at hcn2
  refine hk1 nu _ _ (AB nu true) σ' st' (by unfold J7;rw[hl]) (K1 hA hl) ?_ (by omega)
  rw[hcn2];exact H2
 ·rw[Option.map_some]
  refine Aa rfl (show need _ _ from Aa rfl (Aa rfl (H.ent0 hA hl ?_)))
  cases e with
  | opn u=>
   have hAu:=JH hA hl
   refine Aa rfl (show Ai _ _ from ?_)
   refine Ad (x:= .map ub) (by simp only[Ac,H.cell];rfl) (Aa rfl (Aa rfl (H.ent0 hA hl (H.plook hAu (GM (As (fun hb=>?_) fun hb=>?_))))))
   ·exact hk2 nu0 st (by unfold J7;rw[hl];simp only;rw[if_pos (by simpa using hb)])
   ·have hee:=H.ent hA hl
    refine Ad (x:= .map ub) (by simp only[Ac,H.cell];rfl) (Aa rfl (Aa rfl (H.ent0 hA hl ?_)))
    have hd0:u.hd=false:=by simpa using hb
    refine Su H hAu hee.1 fun st' H2=>?_
    have hcc:=(DV (h++[(k,none)]) hAu (BT u)).cnt
    have hvv:Ae (BT u)=Ae u:=by cases u;unfold BT;rw[Ae,Ae]
    rw[hvv]at hcc
    have hcn:(Ae (Ax T (h++[(k,none)]) (BT u))).cnt=(Ae T).cnt:=by omega
    rw[<-hcn]at H2
    rw[OA hA hl]at H2 hcn
    refine hk1 nu0 _ _ (BT u) σ st' (by unfold J7;rw[hl];simp only;rw[if_neg (by simp[hd0])]) ?_ (by rw[Rw];exact H2) (by omega)
    rw[<-OA hA hl];exact DW _ hAu
  | lst l=>exact Aa rfl (show K 8 st from hk2 nu0 st (by unfold J7;rw[hl]))
  | clo v i=>exact Aa rfl (show K 8 st from hk2 nu0 st (by unfold J7;rw[hl]))
theorem BH.add {bb ub eb nodes nodes':Nat} {now now':TV} {T t:Tb} {σ σ':Nat->TV} {st st':St} {h:List Hop} {k:B8} {e:En} {up up':List (Nat×TV)} (H:BH bb ub now T nodes σ st) (hA:atT T h=some t) (hl:Ag k t.es=none)
  (hnb:st.nb<=st'.nb) (hup:Un ub (shT 1 T) st up)
  (kx:∀x,x<st.nb->x≠bb->x≠ub->x≠t.b->x≠t.m->st'.box x=st.box x) (ks:∀x,x<st.nb->x≠t.b->σ' x=σ x)
  (kt:st'.box t.b= .cells [σ' t.b,.map t.m,.int .i64 ((1+dpH h:Nat):Int)]) (kr:Dw (σ' t.b) (((t.es.map shK++[(k,eb,shE e)]).map fun x=>x.1).map TV.str))
  (km:∀mp,st.box t.m= .map mp->st'.box t.m= .map (Gh k (.box eb 0) mp)) (kb:st'.box bb= .cells [.box T.b 0,now',.map ub,.int .i64 nodes']) (ku:st'.box ub= .pmap up')
  (hu:(up'=up/\Bb (1+dpH h) e=[])∨∃n,up'=E8 n (.bool true) up/\st.nb<=n/\n<st'.nb/\Ap st' n=true/\∀s,s∈Bb (1+dpH h) e->s.b=n/\s.hd=false)
  (he:Ln σ' st' eb (shE e)) (hN:∀s,s∈Bb (1+dpH h) e->MT σ' st' s) (hnd:(eb::bxL (Bb (1+dpH h) e)).Nodup) (hnew:∀x,x∈eb::bxL (Bb (1+dpH h) e)->st.nb<=x/\x<st'.nb)
  (htip:∀x,x∈t.b::eb::bxL (Bb (1+dpH h) e)->∀id,Bd (σ' x)=some id->st.nt<=id/\id<st'.nt/\st'.live id=true)
  (htd:∀x,x∈t.b::eb::bxL (Bb (1+dpH h) e)->∀y,y∈t.b::eb::bxL (Bb (1+dpH h) e)->x≠y->∀id,Bd (σ' x)=some id->Bd (σ' y)≠some id)
  (hlv:∀i,i<st.nt->st.live i=true->Bd (σ t.b)≠some i->i<st'.nt/\st'.live i=true):BH bb ub now' (Ax T h (AS t k eb e)) nodes' σ' st':=by
 obtain⟨A,B,e1,e2⟩:=I6 h hA 1
 rw[E0 (1+dpH h) t]at e1
 have hp:=H.hp
 rw[e1]at hp
 have ht':=e2 (AS t k eb e) rfl
 rw[Ox]at ht'
 have hS:=hp.sh _ (List.mem_append_right A (List.mem_append_left B (List.mem_cons_self ..)))
 have hin:∀{x},x∈bxS ⟨t.b,t.m,t.hd,1+dpH h,t.es.map shK⟩->x∈bxL (A++((⟨t.b,t.m,t.hd,1+dpH h,t.es.map shK⟩::B2 (1+dpH h) t.es)++B)):=fun hx=>
  Bj (List.mem_append_right A (List.mem_append_left B (List.mem_cons_self ..))) hx
 have itb:=hin (x:=t.b) (.head _)
 have itm:=hin (x:=t.m) (.tail _ (.head _))
 have ltb:t.b<st.nb:=hp.lt _ itb
 have ltm:t.m<st.nb:=hp.lt _ itm
 have bx:=H.bx
 have ux:=H.ux
 rw[e1]at bx ux
 have hbl:=H.bl
 have hul:=H.ul
 obtain⟨mp,hm1,hm2⟩:=hS.mp
 have hmt:t.m≠t.b:=fun e=>by have:=hS.cell;simp only at this hm1;rw[e,this]at hm1;cases hm1
 have HP':HP σ' st' (A++((⟨t.b,t.m,t.hd,1+dpH h,t.es.map shK++[(k,eb,shE e)]⟩::(B2 (1+dpH h) t.es++Bb (1+dpH h) e))++B)):=by
  refine HP.add hp hnb (fun x hx h2 h3=>⟨kx x (hp.lt x hx) (fun e=>bx (e▸hx)) (fun e=>ux (e▸hx)) h2 h3,ks x (hp.lt x hx) h2⟩) (fun x hx hne id hid=>?_) kt kr ⟨mp,hm1,km mp hm1⟩ (ks _ ltm hmt) ?_ he hN hnd hnew htip htd
  ·have hq:=hp.tip x hx id hid
   exact hlv id hq.1 hq.2 fun e=>hp.td x hx t.b itb hne id hid e
  ·rw[GI,hl];rfl
 have memb:∀x,x∈bxL (A++((⟨t.b,t.m,t.hd,1+dpH h,t.es.map shK++[(k,eb,shE e)]⟩::(B2 (1+dpH h) t.es++Bb (1+dpH h) e))++B))->
   x∈bxL (A++((⟨t.b,t.m,t.hd,1+dpH h,t.es.map shK⟩::B2 (1+dpH h) t.es)++B))∨st.nb<=x:=fun x hx=>by
  rcases Sj (s:=⟨t.b,t.m,t.hd,1+dpH h,t.es.map shK⟩) (eb:=eb) (by simp[bxS]) hx with h1 | h1 | h1
  ·exact .inl h1
  ·exact .inr (by rw[h1];exact(hnew eb (.head _)).1)
  ·exact .inr (hnew x (.tail _ h1)).1
 have isc:∀p,p∈up->Ap st' p.1=true/\p.1<st'.nb:=fun p hp'=>by
  obtain⟨q1,q2⟩:=hup.ok p hp'
  refine⟨?_,by omega⟩
  by_cases c1:p.1=t.m
  ·have hm1':st.box t.m= .map mp:=hm1
   rw[c1]at q1;simp[Ap,hm1']at q1
  ·by_cases c2:p.1=t.b
   ·rw[c2];simp[Ap,kt]
   ·by_cases c3:p.1=bb
    ·rw[c3];simp[Ap,kb]
    ·by_cases c4:p.1=ub
     ·rw[c4]at q1;simp[Ap,hup.box]at q1
     ·simp only[Ap,kx _ q2 c3 c4 c2 c1]at q1⊢;exact q1
 have fdo:∀s,s∈A++((⟨t.b,t.m,t.hd,1+dpH h,t.es.map shK⟩::B2 (1+dpH h) t.es)++B)->BF s.b up=(if s.hd=true then none else some (.bool true))/\s.b<st.nb:=fun s hs=>
  ⟨hup.fd s (by rw[e1];exact hs),hp.lt _ (Bj hs (.head _))⟩
 have un:Un ub (shT 1 (Ax T h (AS t k eb e))) st' up':=by
  rw[ht']
  have all:∀(P:Sh->Prop),(∀s,s∈A++((⟨t.b,t.m,t.hd,1+dpH h,t.es.map shK⟩::B2 (1+dpH h) t.es)++B)->P s)->(P ⟨t.b,t.m,t.hd,1+dpH h,t.es.map shK⟩->P ⟨t.b,t.m,t.hd,1+dpH h,t.es.map shK++[(k,eb,shE e)]⟩)->(∀s,s∈Bb (1+dpH h) e->P s)->
    ∀s,s∈A++((⟨t.b,t.m,t.hd,1+dpH h,t.es.map shK++[(k,eb,shE e)]⟩::(B2 (1+dpH h) t.es++Bb (1+dpH h) e))++B)->P s:=fun P p1 p2 p3 s hs=>by
   rcases List.mem_append.1 hs with h1 | h1
   ·exact p1 s (List.mem_append_left _ h1)
   ·rcases List.mem_append.1 h1 with h1 | h1
    ·rcases List.mem_cons.1 h1 with rfl | h1
     ·exact p2 (p1 _ (List.mem_append_right _ (List.mem_append_left _ (.head _))))
     ·rcases List.mem_append.1 h1 with h1 | h1
      ·exact p1 s (List.mem_append_right _ (List.mem_append_left _ (.tail _ h1)))
      ·exact p3 s h1
    ·exact p1 s (List.mem_append_right _ (List.mem_append_right _ h1))
  rcases hu with⟨rfl,h0⟩ | ⟨n,rfl,g1,g2,g3,g4⟩
  ·exact⟨ku,hup.nd,isc,all _ (fun s hs=>(fdo s hs).1) (fun hx=>hx) fun s hs=>by rw[h0]at hs;cases hs⟩
  ·refine⟨ku,?_,fun p hp'=>?_,all _ (fun s hs=>?_) (fun hx=>hx) fun s hs=>?_⟩
   ·rw[IE _ _ _ fun p hp' e=>by have:=(hup.ok p hp').2;omega]
    refine List.nodup_append.2 ⟨hup.nd,by simp,fun x hx y hy e=>?_⟩
    obtain⟨p,hp',rfl⟩:=List.mem_map.1 hx
    have:=(hup.ok p hp').2
    rw[List.mem_singleton.1 hy]at e
    omega
   ·rcases JV _ _ _ p hp' with rfl | hp'
    ·exact⟨g3,g2⟩
    ·exact isc p hp'
   ·obtain⟨q1,q2⟩:=fdo s hs
    rw[Et,if_neg (by omega)];exact q1
   ·obtain⟨q1,q2⟩:=g4 s hs
    rw[Et,if_pos q1,q2];rfl
 refine⟨by rw[ht'];exact HP',by rw[FW h (x:=AS t k eb e) hA rfl];exact kb,⟨up',un⟩,by omega,by omega,fun hx=>?_,fun hx=>?_⟩
 ·rw[ht']at hx
  rcases memb bb hx with h1 | h1
  ·exact bx h1
  ·omega
 ·rw[ht']at hx
  rcases memb ub hx with h1 | h1
  ·exact ux h1
  ·omega
theorem BH.apart {bb ub nodes:Nat} {now:TV} {T t:Tb} {σ:Nat->TV} {st:St} {h:List Hop} (H:BH bb ub now T nodes σ st) (hA:atT T h=some t):
  t.b<st.nb/\t.m<st.nb/\t.b≠bb/\t.b≠ub/\t.m≠bb/\t.m≠ub/\t.m≠t.b/\(∀id,Bd (σ t.b)=some id->id<st.nt/\st.live id=true):=by
 obtain⟨hS,hm⟩:=H.tab hA
 have itb:t.b∈bxL (shT 1 T):=Bj hm (.head _)
 have itm:t.m∈bxL (shT 1 T):=Bj hm (.tail _ (.head _))
 refine⟨H.hp.lt _ itb,H.hp.lt _ itm,fun e=>H.bx (e▸itb),fun e=>H.ux (e▸itb),fun e=>H.bx (e▸itm),fun e=>H.ux (e▸itm),fun e=>?_,H.hp.tip _ itb⟩
 obtain⟨mp,hm1,_⟩:=hS.mp
 have:=hS.cell;simp only at this hm1;rw[e,this]at hm1;cases hm1
theorem Un.isc {bb ub nodes:Nat} {now:TV} {T t:Tb} {σ:Nat->TV} {st st':St} {h:List Hop} {up:List (Nat×TV)} (H:BH bb ub now T nodes σ st) (hA:atT T h=some t) (hup:Un ub (shT 1 T) st up) (hnb:st.nb<=st'.nb)
  (kx:∀x,x<st.nb->x≠bb->x≠ub->x≠t.b->x≠t.m->st'.box x=st.box x) (kt:Ap st' t.b=true) (kb:Ap st' bb=true):∀p,p∈up->Ap st' p.1=true/\p.1<st'.nb:=fun p hp'=>by
 obtain⟨q1,q2⟩:=hup.ok p hp'
 obtain⟨mp,hm1,_⟩:=(H.tab hA).1.mp
 refine⟨?_,by omega⟩
 by_cases c1:p.1=t.m
 ·have hm1':st.box t.m= .map mp:=hm1
  rw[c1]at q1;simp[Ap,hm1']at q1
 ·by_cases c2:p.1=t.b
  ·rw[c2];exact kt
  ·by_cases c3:p.1=bb
   ·rw[c3];exact kb
   ·by_cases c4:p.1=ub
    ·rw[c4]at q1;simp[Ap,hup.box]at q1
    ·simp only[Ap,kx _ q2 c3 c4 c2 c1]at q1⊢;exact q1
theorem P5 {T t:Tb} {h:List Hop} (hA:atT T h=some t) (hc:(Ae T).cnt<=800000):((t.es.map shK).map fun x=>x.1).length<=1000000:=by
 rw[List.length_map,List.length_map];have:=ON t;have:=(Ob hA).1;omega
theorem clo_new {bb ub nodes:Nat} {now:TV} {T t:Tb} {σ:Nat->TV} {st:St} {h:List Hop} {k:B8} {v:Vl} {i:Nat} {cs:List TV} {K:St->Prop} (H:BH bb ub now T nodes σ st) (hA:atT T h=some t) (hl:Ag k t.es=none) (hc:(Ae T).cnt<=800000)
  (hv:VlR St.zero v cs) (hcs:cs.length=13)
  (hk:∀σ' st',BH bb ub now (Ax T h (AS t k st.nb (.clo v i))) nodes σ' st'->K st'):
  CallT PR AO [.box t.b 0,.str k,.box st.nb 0] [] (st.push (.cells (.nilPtr:: .nilSlice::(cs++[.int .i64 i]))) (some 92)) K:=by
 obtain⟨ltb,ltm,nb1,nb2,nm1,nm2,hmt,htp⟩:=H.apart hA
 obtain⟨hS,hm⟩:=H.tab hA
 obtain⟨mp,hm1,hm2⟩:=hS.mp
 obtain⟨up,hup⟩:=H.un
 have hbl:=H.bl
 have hul:=H.ul
 refine Ov (kv:=σ t.b) (d:=1+dpH h) (m:=t.m) (ks:=(t.es.map shK).map fun x=>x.1) (es:=mp) ?_ ?_ hS.row htp (P5 hA hc) fun kv' st' r1 r2 r3 r4 r5 r6 r7 r8=>?_
 ·show(if t.b=st.nb then _ else st.box t.b)=_
  rw[if_neg (by omega)];exact hS.cell
 ·show(if t.m=st.nb then _ else st.box t.m)=_
  rw[if_neg (by omega)];exact hm1
 have bx':∀x,st'.box x=if x=t.m then .map (Gh k (.box st.nb 0) mp)else if x=t.b then .cells [kv',.map t.m,.int .i64 ((1+dpH h:Nat):Int)]else if x=st.nb then .cells (.nilPtr:: .nilSlice::(cs++[.int .i64 i]))else st.box x:=fun x=>by
  rw[r3];simp only[St.push]
 have nb':st'.nb=st.nb+1:=by rw[r4];rfl
 have nt':st'.nt=st.nt+1:=by rw[r6];rfl
 have k2:∀x,x<st.nb->x≠t.b->x≠t.m->st'.box x=st.box x:=fun x h1 h4 h5=>by
  rw[bx',if_neg h5,if_neg h4,if_neg (by omega)]
 let σ':Nat->TV:=fun x=>if x=t.b then kv' else if x<st.nb then σ x else .nilSlice
 have s1:σ' t.b=kv':=if_pos rfl
 have s2:∀x,x<st.nb->x≠t.b->σ' x=σ x:=fun x h1 h2=>by simp only[σ'];rw[if_neg h2,if_pos h1]
 have s3:∀x,st.nb<=x->σ' x= .nilSlice:=fun x h1=>by simp only[σ'];rw[if_neg (by omega),if_neg (by omega)]
 have eN:Bb (1+dpH h) (.clo v i)=[]:=by rw[Bb]
 have tip':Bd kv'=some st.nt/\st'.live st.nt=true:=⟨r2,r7⟩
 have cl:∀{x},x∈t.b::st.nb::bxL (Bb (1+dpH h) (.clo v i))->x≠t.b->st.nb<=x:=fun {x} hx hne=>by
  rw[eN]at hx
  rcases List.mem_cons.1 hx with h1 | hx
  ·exact absurd h1 hne
  ·rcases List.mem_cons.1 hx with rfl | hx
   ·exact Nat.le_refl _
   ·cases hx
 refine hk σ' st' (H.add (up':=up) (σ':=σ') hA hl (by omega) hup (fun x h1 _ _ h4 h5=>k2 x h1 h4 h5) s2 ?_ ?_ (fun mp' h1=>?_) ?_ ?_ (.inl ⟨rfl,eN⟩) ⟨cs,hv,hcs,?_,by rw[s3 _ (Nat.le_refl _)];rfl⟩ (fun s hs=>by rw[eN]at hs;cases hs) (by rw[eN];simp[bxL]) (fun x hx=>?_) (fun x hx id hid=>?_) (fun x hx y hy hne id g1 g2=>?_) fun j h1 h2 h3=>⟨by omega,?_⟩)
 ·rw[s1,bx',if_neg (Ne.symm hmt),if_pos rfl]
 ·rw[s1];simp only[List.map_append]at r1⊢;exact r1
 ·have:mp'=mp:=by have h2:st.box t.m= .map mp:=hm1;rw[h2]at h1;cases h1;rfl
  rw[this,bx',if_pos rfl]
 ·rw[k2 _ hbl (Ne.symm nb1) (Ne.symm nm1)];exact H.cell
 ·rw[k2 _ hul (Ne.symm nb2) (Ne.symm nm2)];exact hup.box
 ·rw[bx',if_neg (by omega),if_neg (by omega),if_pos rfl]
 ·rw[eN]at hx
  rcases List.mem_cons.1 hx with rfl | hx
  ·omega
  ·cases hx
 ·by_cases hxb:x=t.b
  ·rw[hxb,s1,tip'.1]at hid
   cases hid
   exact⟨Nat.le_refl _,by omega,tip'.2⟩
  ·rw[s3 x (cl hx hxb)]at hid;cases hid
 ·by_cases hxb:x=t.b
  ·rw[s3 y (cl hy fun e=>hne (hxb.trans e.symm))]at g2;cases g2
  ·rw[s3 x (cl hx hxb)]at g1;cases g1
 ·rw[r8 j h1 h3];exact h2
def Lb (nu:Nu) (T t:Tb) (h:List Hop) (k:B8):Except Int (Tb×List Hop):=match Ag k t.es with
 | none=> .ok (Ax T h (AS t k nu.eb (.lst [AB nu false])),h++[(k,some 0)])
 | some (_,.lst l)=> .ok (Ax T h (B6 t k (.lst (l++[AB nu false]))),h++[(k,some l.length)])
 | some _=> .error 6
theorem UM {bb ub:Nat} {now:TV} {T t:Tb} {σ:Nat->TV} {st:St} {h:List Hop} {k:B8} {K:Int->St->Prop} (H:BH bb ub now T (Ae T).cnt σ st) (hA:atT T h=some t) (hl:Ag k t.es=none) (hc:(Ae T).cnt<=800000)
  (hk:∀nu σ' st',BH bb ub (.box nu.b 0) (Ax T h (AS t k nu.eb (.lst [AB nu false]))) ((Ae T).cnt+2) σ' st'->K 0 st'):
  CallT PR AO [.box t.b 0,.str k,.box st.nb 0] [] (st.push (.cells (.nilPtr:: .nilSlice::(z13++[.int .i64 0]))) (some 92)) fun st1=>Ai (Ac st1 [] (.t (.box bb 3)) 0) fun x2=>AE (.int .i64) x2 fun n1=>
   stB st1 (.box bb 3) [.int .i64 (IntKind.wrap .i64 (n1+1))] fun st2=>Ai (Ac st2 [] (.t (.box t.b 2)) 0) fun x3=>AE (.int .i64) x3 fun n2=>
   CallT PR AC [.box bb 0,.int .i64 (IntKind.wrap .i64 (n2+2))] [.one .tv] st2 fun v2 st3=>need (List.all [v2] Ah) (stB st3 (.box bb 1) [v2] fun st4=>Ai (Ac st4 [] (.t (.box st.nb 1)) 0) fun v3=>
   Ai (Ac st4 [] (.t (.box bb 1)) 0) fun v4=>need (List.all [v4] Ah) (need (List.all [v4] Ah) (Cl 71 1 8 v3 1 [v4] st4 fun v5 st5=>need (List.all [v5] Ah) (stB st5 (.box st.nb 1) [v5] fun st6=>K 0 st6)))):=by
 obtain⟨ltb,ltm,nb1,nb2,nm1,nm2,hmt,htp⟩:=H.apart hA
 obtain⟨hS,hm⟩:=H.tab hA
 obtain⟨mp,hm1,hm2⟩:=hS.mp
 obtain⟨up,hup⟩:=H.un
 have hbl:=H.bl
 have hul:=H.ul
 have hbu:=H.bu
 have hdp:=JF hA
 refine Ov (kv:=σ t.b) (d:=1+dpH h) (m:=t.m) (ks:=(t.es.map shK).map fun x=>x.1) (es:=mp) ?_ ?_ hS.row htp (P5 hA hc) fun kv' st1 r1 r2 r3 r4 r5 r6 r7 r8=>?_
 ·show(if t.b=st.nb then _ else st.box t.b)=_
  rw[if_neg (by omega)];exact hS.cell
 ·show(if t.m=st.nb then _ else st.box t.m)=_
  rw[if_neg (by omega)];exact hm1
 have bx1:∀x,st1.box x=if x=t.m then .map (Gh k (.box st.nb 0) mp)else if x=t.b then .cells [kv',.map t.m,.int .i64 ((1+dpH h:Nat):Int)]else if x=st.nb then .cells (.nilPtr:: .nilSlice::(z13++[.int .i64 0]))else st.box x:=fun x=>by
  rw[r3];simp only[St.push]
 have nbs1:st1.nb=st.nb+1:=by rw[r4];rfl
 have nts1:st1.nt=st.nt+1:=by rw[r6];rfl
 have hbb1:st1.box bb= .cells [.box T.b 0,now,.map ub,.int .i64 (Ae T).cnt]:=by
  rw[bx1,if_neg (Ne.symm nm1),if_neg (Ne.symm nb1),if_neg (by omega)];exact H.cell
 refine Ad (x:= .int .i64 (Ae T).cnt) (by simp only[Ac,hbb1];rfl) (AV ⟨_,hbb1,by simp,?_⟩)
 rw[Am _ (by omega) (by omega)]
 generalize hst2:st1.put bb (.cells (setAll [.box T.b 0,now,.map ub,.int .i64 ((Ae T).cnt:Int)] 3 [.int .i64 (((Ae T).cnt:Int)+1)]))=st2
 have bx2:∀x,st2.box x=if x=bb then .cells [.box T.b 0,now,.map ub,.int .i64 (((Ae T).cnt:Int)+1)]else st1.box x:=fun x=>by rw[<-hst2];rfl
 have nbs2:st2.nb=st.nb+1:=by rw[<-hst2];exact nbs1
 have nts2:st2.nt=st.nt+1:=by rw[<-hst2];exact nts1
 have lvs2:st2.live=st1.live:=by rw[<-hst2];rfl
 have ht2:st2.box t.b= .cells [kv',.map t.m,.int .i64 ((1+dpH h:Nat):Int)]:=by rw[bx2,if_neg nb1,bx1,if_neg (Ne.symm hmt),if_pos rfl]
 have hbb2:st2.box bb= .cells [.box T.b 0,now,.map ub,.int .i64 (((Ae T).cnt:Int)+1)]:=by rw[bx2,if_pos rfl]
 have hu2:st2.box ub= .pmap up:=by rw[bx2,if_neg (Ne.symm hbu),bx1,if_neg (Ne.symm nm2),if_neg (Ne.symm nb2),if_neg (by omega)];exact hup.box
 refine Ad (x:= .int .i64 ((1+dpH h:Nat):Int)) (by simp only[Ac,ht2];rfl) (AV ?_)
 have hwd:IntKind.wrap .i64 (((1+dpH h:Nat):Int)+2)=((1+dpH h+2:Nat):Int):=by rw[Am _ (by omega) (by omega)];simp
 rw[hwd]
 have isc2:=Un.isc (st':=st2) H hA hup (by omega) (fun x h1 h2 h3 h4 h5=>by rw[bx2,if_neg h2,bx1,if_neg h5,if_neg h4,if_neg (by omega)]) (by simp[Ap,ht2]) (by simp[Ap,hbb2])
 refine IT hbb2 hu2 (by omega) (by omega) isc2 ⟨by omega,by omega⟩ fun st3 q1 q2 q3 q4=>Aa rfl ?_
 rw[nbs2]at q1 q2⊢
 have hbb3:st3.box bb= .cells [.box T.b 0,now,.map ub,.int .i64 (((Ae T).cnt:Int)+1+1)]:=by rw[q2];simp only;rw[if_pos trivial]
 refine⟨_,hbb3,by simp,?_⟩
 generalize hst4:st3.put bb (.cells (setAll [.box T.b 0,now,.map ub,.int .i64 (((Ae T).cnt:Int)+1+1)] 1 [.box (st.nb+1+1) 0]))=st4
 have bx4:∀x,st4.box x=if x=bb then .cells [.box T.b 0,.box (st.nb+1+1) 0,.map ub,.int .i64 (((Ae T).cnt:Int)+1+1)]else st3.box x:=fun x=>by rw[<-hst4];rfl
 have nbs4:st4.nb=st.nb+3:=by rw[<-hst4];show st3.nb=_;omega
 have nts4:st4.nt=st.nt+1:=by rw[<-hst4];show st3.nt=_;omega
 have lvs4:st4.live=st1.live:=by rw[<-hst4];show st3.live=_;rw[q4,lvs2]
 have he4:st4.box st.nb= .cells (.nilPtr:: .nilSlice::(z13++[.int .i64 0])):=by
  rw[bx4,if_neg (by omega),q2];simp only
  rw[if_neg (by omega),if_neg (by omega),if_neg (by omega),if_neg (by omega),bx2,if_neg (by omega),bx1,if_neg (by omega),if_neg (by omega),if_pos rfl]
 refine Ad (x:= .nilSlice) (by simp only[Ac,he4];rfl) (Ad (x:= .box (st.nb+1+1) 0) (by simp only[Ac,bx4,if_pos trivial];rfl) (Aa rfl (Aa rfl ?_)))
 refine MQ Dw.nil (fun id hid=>by cases hid) (by simp) fun v5 st5 w1 w2 w3 w4 w5 w6 w7 w8=>?_
 have w1':Ah v5=true:=by
  rcases w1 with⟨_,hx⟩ | ⟨tip,h9,_⟩
  ·simp at hx
  ·rw[h9];rfl
 have he5:st5.box st.nb= .cells (.nilPtr:: .nilSlice::(z13++[.int .i64 0])):=by rw[w3];exact he4
 refine Aa (by simp[w1']) ⟨_,he5,by simp,?_⟩
 generalize hst6:st5.put st.nb (.cells (setAll (.nilPtr:: .nilSlice::(z13++[.int .i64 0])) 1 [v5]))=st6
 have bx6:∀x,st6.box x=if x=st.nb then .cells (.nilPtr::v5::(z13++[.int .i64 0]))else st4.box x:=fun x=>by rw[<-hst6,<-w3];rfl
 have nbs6:st6.nb=st.nb+3:=by rw[<-hst6];show st5.nb=_;omega
 have nts6:st6.nt=st.nt+2:=by rw[<-hst6];show st5.nt=_;omega
 have lvs6:st6.live=st5.live:=by rw[<-hst6];rfl
 rw[nts4]at w2 w7 w8
 have tl0:st6.live st.nt=true:=by
  rw[lvs6,w8 st.nt (by omega) (by simp[Bd]),lvs4];exact r7
 have tl1:st6.live (st.nt+1)=true:=by rw[lvs6];exact w7
 have r2':Bd kv'=some st.nt:=r2
 have old:∀x,x<st.nb->x≠bb->x≠ub->st6.box x=st1.box x:=fun x h1 h2 h3=>by
  rw[bx6,if_neg (by omega),bx4,if_neg h2,q2];simp only
  rw[if_neg h2,if_neg h3,if_neg (by omega),if_neg (by omega),bx2,if_neg h2]
 have kn1:st6.box (st.nb+1+1)= .cells [.nilSlice,.map (st.nb+1),.int .i64 ((1+dpH h+2:Nat):Int)]:=by
  rw[bx6,if_neg (by omega),bx4,if_neg (by omega),q2];simp only
  rw[if_neg (by omega),if_neg (by omega),if_pos trivial]
 have kn0:st6.box (st.nb+1)= .map []:=by
  rw[bx6,if_neg (by omega),bx4,if_neg (by omega),q2];simp only
  rw[if_neg (by omega),if_neg (by omega),if_neg (by omega),if_pos trivial]
 have kub:st6.box ub= .pmap (E8 (st.nb+1+1) (.bool true) up):=by
  rw[bx6,if_neg (by omega),bx4,if_neg (Ne.symm hbu),q2];simp only
  rw[if_neg (Ne.symm hbu),if_pos trivial]
 let σ':Nat->TV:=fun x=>if x=t.b then kv' else if x=st.nb then v5 else if x<st.nb then σ x else .nilSlice
 have s1:σ' t.b=kv':=if_pos rfl
 have s1':σ' st.nb=v5:=by simp only[σ'];rw[if_neg (by omega),if_pos trivial]
 have s2:∀x,x<st.nb->x≠t.b->σ' x=σ x:=fun x h1 h2=>by simp only[σ'];rw[if_neg h2,if_neg (by omega),if_pos h1]
 have s3:∀x,st.nb<x->σ' x= .nilSlice:=fun x h1=>by simp only[σ'];rw[if_neg (by omega),if_neg (by omega),if_neg (by omega)]
 have eN:Bb (1+dpH h) (.lst [AB ⟨st.nb+1+1,st.nb+1,st.nb⟩ false])=[⟨st.nb+1+1,st.nb+1,false,1+dpH h+2,[]⟩]:=by
  rw[Bb,D6,D6,AB,shT,B2];rfl
 have bN:bxL [⟨st.nb+1+1,st.nb+1,false,1+dpH h+2,[]⟩]=[st.nb+1+1,st.nb+1]:=rfl
 have cl:∀{x},x∈t.b::st.nb::bxL (Bb (1+dpH h) (.lst [AB ⟨st.nb+1+1,st.nb+1,st.nb⟩ false]))->x=t.b∨x=st.nb∨(st.nb<x/\x<st.nb+3):=fun {x} hx=>by
  rw[eN,bN]at hx
  rcases List.mem_cons.1 hx with h1 | hx
  ·exact .inl h1
  ·rcases List.mem_cons.1 hx with h1 | hx
   ·exact .inr (.inl h1)
   ·rcases List.mem_cons.1 hx with rfl | hx
    ·exact .inr (.inr ⟨by omega,by omega⟩)
    ·rw[List.mem_singleton.1 hx];exact .inr (.inr ⟨by omega,by omega⟩)
 have tp:∀{x id},x∈t.b::st.nb::bxL (Bb (1+dpH h) (.lst [AB ⟨st.nb+1+1,st.nb+1,st.nb⟩ false]))->Bd (σ' x)=some id->(x=t.b/\id=st.nt)∨(x=st.nb/\id=st.nt+1):=fun {x id} hx hid=>by
  rcases cl hx with rfl | rfl | h1
  ·rw[s1,r2']at hid;cases hid;exact .inl ⟨rfl,rfl⟩
  ·rw[s1',w2]at hid;cases hid;exact .inr ⟨rfl,rfl⟩
  ·rw[s3 x h1.1]at hid;cases hid
 refine hk ⟨st.nb+1+1,st.nb+1,st.nb⟩ σ' st6 (H.add (up':=E8 (st.nb+1+1) (.bool true) up) (σ':=σ') hA hl (by omega) hup (fun x h1 h2 h3 h4 h5=>by rw[old x h1 h2 h3,bx1,if_neg h5,if_neg h4,if_neg (by omega)]) s2 ?_ ?_ (fun mp' h1=>?_) ?_ kub
  (.inr ⟨st.nb+1+1,rfl,by omega,by omega,by simp[Ap,kn1],fun s hs=>by rw[eN]at hs;rw[List.mem_singleton.1 hs];exact⟨rfl,rfl⟩⟩) ⟨?_,by simp,?_⟩ (fun s hs=>?_) (by rw[eN,bN];simp;omega) (fun x hx=>?_) (fun x hx id hid=>?_) (fun x hx y hy hne id g1 g2=>?_) fun j h1 h2 h3=>⟨by omega,?_⟩)
 ·rw[s1,old _ ltb nb1 nb2,bx1,if_neg (Ne.symm hmt),if_pos rfl]
 ·rw[s1];simp only[List.map_append]at r1⊢;exact r1
 ·have:mp'=mp:=by have h2:st.box t.m= .map mp:=hm1;rw[h2]at h1;cases h1;rfl
  rw[this,old _ ltm nm1 nm2,bx1,if_pos rfl]
 ·rw[bx6,if_neg (by omega),bx4,if_pos rfl];simp;omega
 ·show Dw (σ' st.nb) _
  rw[s1'];exact w1
 ·show st6.box st.nb= .cells (.nilPtr::σ' st.nb::(z13++[.int .i64 0]))
  rw[s1',bx6,if_pos rfl]
 ·rw[eN]at hs
  rw[List.mem_singleton.1 hs]
  have s4:σ' (st.nb+1+1)= .nilSlice:=s3 _ (by omega)
  exact⟨by show st6.box (st.nb+1+1)= .cells [σ' (st.nb+1+1),_,_];rw[s4];exact kn1,by show Dw (σ' (st.nb+1+1)) _;rw[s4];exact Dw.nil,⟨[],kn0,fun _=>rfl⟩,fun x hx=>by cases hx⟩
 ·rw[eN,bN]at hx
  rcases List.mem_cons.1 hx with rfl | hx
  ·show st.nb<=st.nb/\st.nb<st6.nb
   omega
  ·rcases List.mem_cons.1 hx with rfl | hx
   ·omega
   ·rw[List.mem_singleton.1 hx];omega
 ·rcases tp hx hid with⟨_,rfl⟩ | ⟨_,rfl⟩
  ·exact⟨Nat.le_refl _,by omega,tl0⟩
  ·exact⟨by omega,by omega,tl1⟩
 ·rcases tp hx g1 with⟨h1,h2⟩ | ⟨h1,h2⟩<;>rcases tp hy g2 with⟨h3,h4⟩ | ⟨h3,h4⟩
  ·exact hne (h1.trans h3.symm)
  ·omega
  ·omega
  ·exact hne (h1.trans h3.symm)
 ·rw[lvs6,w8 j (by omega) (by simp[Bd]),lvs4,r8 j h1 h3];exact h2
theorem NB {k:B8}:∀{es:List Kn} {eb:Nat} {e:En},Ag k es=some (eb,e)->∃P Q,es.map shK=P++(k,eb,shE e)::Q/\∀x,(BR k x es).map shK=P++(k,eb,shE x)::Q
 | .mk k' eb' e'::r,eb,e,h=>by
  unfold Ag at h
  by_cases hk:k=k'
  ·rw[if_pos hk]at h
   cases h
   subst hk
   exact⟨[],r.map shK,rfl,fun x=>by rw[BR,if_pos rfl];rfl⟩
  ·rw[if_neg hk]at h
   obtain⟨P,Q,h1,h2⟩:=NB h
   exact⟨shK (.mk k' eb' e')::P,Q,by rw[List.map_cons,h1];rfl,fun x=>by rw[BR,if_neg hk,List.map_cons,h2 x];rfl⟩
theorem NL {k k2:B8} {eb:Nat} {e e':ShE} {G:List (B8×Nat×ShE)}:∀F:List (B8×Nat×ShE),(EE k2 (F++(k,eb,e')::G)).map (fun p=>TV.box p.1 0)=(EE k2 (F++(k,eb,e)::G)).map fun p=>TV.box p.1 0
 | []=>by
  rw[List.nil_append,List.nil_append,EE,EE]
  split<;>rfl
 | (k',p)::F=>by
  rw[List.cons_append,List.cons_append,EE,EE]
  split
  ·rfl
  ·exact NL F
theorem BH.more {bb ub eb n m nodes nodes':Nat} {now now' lv:TV} {T t:Tb} {σ:Nat->TV} {st st':St} {h:List Hop} {k:B8} {l:List Tb} {up:List (Nat×TV)} (H:BH bb ub now T nodes σ st) (hA:atT T h=some t) (hl:Ag k t.es=some (eb,.lst l))
  (hnb:st.nb<=st'.nb) (hup:Un ub (shT 1 T) st up)
  (kx:∀x,x<st.nb->x≠bb->x≠ub->x≠eb->st'.box x=st.box x)
  (ke:st'.box eb= .cells (.nilPtr::lv::(z13++[.int .i64 0]))) (kr:Dw lv ((l.map fun t=> .box t.b 0)++[.box n 0]))
  (kb:st'.box bb= .cells [.box T.b 0,now',.map ub,.int .i64 nodes']) (ku:st'.box ub= .pmap (E8 n (.bool true) up))
  (kn:st'.box n= .cells [.nilSlice,.map m,.int .i64 ((1+dpH h+2:Nat):Int)]) (km:st'.box m= .map []) (hn:st.nb<=n/\n<st'.nb) (hm:st.nb<=m/\m<st'.nb) (hnm:n≠m)
  (htip:∀id,Bd lv=some id->st.nt<=id/\id<st'.nt/\st'.live id=true)
  (hlv:∀i,i<st.nt->st.live i=true->Bd (σ eb)≠some i->i<st'.nt/\st'.live i=true):
  BH bb ub now' (Ax T h (B6 t k (.lst (l++[.mk n m false []])))) nodes' (fun x=>if x=eb then lv else if x<st.nb then σ x else .nilSlice) st':=by
 obtain⟨A,B,e1,e2⟩:=I6 h hA 1
 rw[E0 (1+dpH h) t]at e1
 have hp:=H.hp
 rw[e1]at hp
 have ht':=e2 (B6 t k (.lst (l++[.mk n m false []]))) rfl
 obtain⟨P,Q,p1,p2⟩:=GB (1+dpH h) hl
 obtain⟨F,G,f1,f2⟩:=NB hl
 have eC:shT (1+dpH h) (B6 t k (.lst (l++[.mk n m false []])))=⟨t.b,t.m,t.hd,1+dpH h,F++(k,eb,.lst (l.map Tb.b++[n]))::G⟩::(P++((Bb (1+dpH h) (.lst l)++[⟨n,m,false,1+dpH h+2,[]⟩])++Q)):=by
  unfold B6
  rw[shT,f2,p2]
  congr 2
  ·show F++(k,eb,ShE.lst ((l++[Tb.mk n m false []]).map Tb.b))::G=_
   rw[List.map_append];rfl
  ·show Bb (1+dpH h) (.lst (l++[Tb.mk n m false []]))++Q=_
   rw[Bb,JT,D6,D6,shT,B2,Bb];rfl
 rw[eC]at ht'
 rw[f1,p1]at hp e1
 generalize Bb (1+dpH h) (.lst l)=S at*
 have hin:∀{x},x∈bxL (⟨t.b,t.m,t.hd,1+dpH h,F++(k,eb,shE (.lst l))::G⟩::(P++(S++Q)))->x∈bxL (A++((⟨t.b,t.m,t.hd,1+dpH h,F++(k,eb,shE (.lst l))::G⟩::(P++(S++Q)))++B)):=fun hx=>by
  rw[AJ,AJ];exact List.mem_append_right _ (List.mem_append_left _ hx)
 have hsm:(⟨t.b,t.m,t.hd,1+dpH h,F++(k,eb,shE (.lst l))::G⟩:Sh)∈A++((⟨t.b,t.m,t.hd,1+dpH h,F++(k,eb,shE (.lst l))::G⟩::(P++(S++Q)))++B):=List.mem_append_right A (List.mem_append_left B (List.mem_cons_self ..))
 have hS:=hp.sh _ hsm
 have heb:eb∈bxL (⟨t.b,t.m,t.hd,1+dpH h,F++(k,eb,shE (.lst l))::G⟩::(P++(S++Q))):=by
  rw[A5];exact List.mem_append_left _ (Fc (x:=(k,eb,shE (.lst l))) (by simp))
 have leb:eb<st.nb:=hp.lt _ (hin heb)
 have bx:=H.bx
 have ux:=H.ux
 rw[e1]at bx ux
 have hbl:=H.bl
 have hul:=H.ul
 obtain⟨n1,n2,n3⟩:=J4 hp.nd
 --the boxes of the new shapes
 have eX:bxL (⟨t.b,t.m,t.hd,1+dpH h,F++(k,eb,.lst (l.map Tb.b++[n]))::G⟩::(P++((S++[⟨n,m,false,1+dpH h+2,[]⟩])++Q)))=(bxS ⟨t.b,t.m,t.hd,1+dpH h,F++(k,eb,shE (.lst l))::G⟩++(bxL P++bxL S))++([n,m]++bxL Q):=by
  rw[A5,AJ,AJ,AJ]
  have:bxS ⟨t.b,t.m,t.hd,1+dpH h,F++(k,eb,.lst (l.map Tb.b++[n]))::G⟩=bxS ⟨t.b,t.m,t.hd,1+dpH h,F++(k,eb,shE (.lst l))::G⟩:=by simp[bxS]
  rw[this]
  show _++(bxL P++((bxL S++[n,m])++bxL Q))=_
  simp only[List.append_assoc]
 have eX0:bxL (⟨t.b,t.m,t.hd,1+dpH h,F++(k,eb,shE (.lst l))::G⟩::(P++(S++Q)))=(bxS ⟨t.b,t.m,t.hd,1+dpH h,F++(k,eb,shE (.lst l))::G⟩++(bxL P++bxL S))++bxL Q:=by
  rw[A5,AJ,AJ];simp only[List.append_assoc]
 have mem':∀{x},x∈bxL (⟨t.b,t.m,t.hd,1+dpH h,F++(k,eb,.lst (l.map Tb.b++[n]))::G⟩::(P++((S++[⟨n,m,false,1+dpH h+2,[]⟩])++Q)))->x∈bxL (⟨t.b,t.m,t.hd,1+dpH h,F++(k,eb,shE (.lst l))::G⟩::(P++(S++Q)))∨x=n∨x=m:=fun {x} hx=>by
  rw[eX]at hx
  rw[eX0]
  rcases List.mem_append.1 hx with h1 | h1
  ·exact .inl (List.mem_append_left _ h1)
  ·rcases List.mem_append.1 h1 with h1 | h1
   ·rcases List.mem_cons.1 h1 with h1 | h1
    ·exact .inr (.inl h1)
    ·exact .inr (.inr (List.mem_singleton.1 h1))
   ·exact .inl (List.mem_append_right _ h1)
 have same:∀x,x∈bxL (A++((⟨t.b,t.m,t.hd,1+dpH h,F++(k,eb,shE (.lst l))::G⟩::(P++(S++Q)))++B))->x≠eb->st'.box x=st.box x/\(if x=eb then lv else if x<st.nb then σ x else .nilSlice)=σ x:=fun x hx hne=>
  ⟨kx x (hp.lt x hx) (fun e=>bx (e▸hx)) (fun e=>ux (e▸hx)) hne,by rw[if_neg hne,if_pos (hp.lt x hx)]⟩
 have neb:∀{x},x∈bxL A∨x∈bxL B->x≠eb:=fun {x} hx e=>by subst e;exact hx.elim (n3 _ heb).1 (n3 _ heb).2
 have mAB:∀{x},x∈bxL A∨x∈bxL B->x∈bxL (A++((⟨t.b,t.m,t.hd,1+dpH h,F++(k,eb,shE (.lst l))::G⟩::(P++(S++Q)))++B)):=fun hx=>by
  rw[AJ,AJ];exact hx.elim (fun h=>List.mem_append_left _ h) fun h=>List.mem_append_right _ (List.mem_append_right _ h)
 have htipx:∀x,x∈bxL (⟨t.b,t.m,t.hd,1+dpH h,F++(k,eb,.lst (l.map Tb.b++[n]))::G⟩::(P++((S++[⟨n,m,false,1+dpH h+2,[]⟩])++Q)))->∀id,Bd (if x=eb then lv else if x<st.nb then σ x else .nilSlice)=some id->
   (x=eb/\Bd lv=some id)∨(x∈bxL (⟨t.b,t.m,t.hd,1+dpH h,F++(k,eb,shE (.lst l))::G⟩::(P++(S++Q)))/\x≠eb/\Bd (σ x)=some id):=fun x hx id hid=>by
  by_cases hxe:x=eb
  ·rw[if_pos hxe]at hid;exact .inl ⟨hxe,hid⟩
  ·rw[if_neg hxe]at hid
   rcases mem' hx with h1 | h1 | h1
   ·rw[if_pos (hp.lt x (hin h1))]at hid;exact .inr ⟨h1,hxe,hid⟩
   ·rw[if_neg (by omega)]at hid;cases hid
   ·rw[if_neg (by omega)]at hid;cases hid
 have n2':=n2
 rw[A5]at n2'
 obtain⟨c1,c2,c3⟩:=List.nodup_append.1 n2'
 have hebS:eb∈bxS ⟨t.b,t.m,t.hd,1+dpH h,F++(k,eb,shE (.lst l))::G⟩:=Fc (x:=(k,eb,shE (.lst l))) (by simp)
 have itb:t.b∈bxL (⟨t.b,t.m,t.hd,1+dpH h,F++(k,eb,shE (.lst l))::G⟩::(P++(S++Q))):=by rw[A5];exact List.mem_append_left _ (.head _)
 have itm:t.m∈bxL (⟨t.b,t.m,t.hd,1+dpH h,F++(k,eb,shE (.lst l))::G⟩::(P++(S++Q))):=by rw[A5];exact List.mem_append_left _ (.tail _ (.head _))
 have hebM:eb∈(F++(k,eb,shE (.lst l))::G).map fun x=>x.2.1:=List.mem_map.2 ⟨(k,eb,shE (.lst l)),by simp,rfl⟩
 have d1:t.b≠eb:=fun e=>(List.nodup_cons.1 c1).1 (.tail _ (e▸hebM))
 have d2:t.m≠eb:=fun e=>(List.nodup_cons.1 (List.nodup_cons.1 c1).2).1 (e▸hebM)
 have dFG:((F.map fun x=>x.2.1)++eb::(G.map fun x=>x.2.1)).Nodup:=by
  have:=(List.nodup_cons.1 (List.nodup_cons.1 c1).2).2
  simpa using this
 have dF:∀x,x∈F->x.2.1≠eb:=fun x hx e=>(List.nodup_append.1 dFG).2.2 x.2.1 (List.mem_map.2 ⟨x,hx,rfl⟩) eb (.head _) e
 have dG:∀x,x∈G->x.2.1≠eb:=fun x hx e=>(List.nodup_cons.1 (List.nodup_append.1 dFG).2.1).1 (e▸List.mem_map.2 ⟨x,hx,rfl⟩)
 have rest:∀s,s∈P++(S++Q)->MT (fun x=>if x=eb then lv else if x<st.nb then σ x else .nilSlice) st' s:=fun s hs=>by
  refine(hp.sh s (List.mem_append_right _ (List.mem_append_left _ (.tail _ hs)))).fr fun x hx=>?_
  have hx':x∈bxL (P++(S++Q)):=Bj hs hx
  exact same x (hin (by rw[A5];exact List.mem_append_right _ hx')) fun e=>c3 eb hebS x hx' e.symm
 have HP':HP (fun x=>if x=eb then lv else if x<st.nb then σ x else .nilSlice) st' (A++((⟨t.b,t.m,t.hd,1+dpH h,F++(k,eb,.lst (l.map Tb.b++[n]))::G⟩::(P++((S++[⟨n,m,false,1+dpH h+2,[]⟩])++Q)))++B)):=by
  refine HP.upd hp hnb (fun x hx=>same x (mAB hx) (neb hx)) (fun x hx id hid=>?_) (fun s hs=>?_) ?_ (fun x hx=>?_) (fun x hx id hid=>?_) fun x hx y hy hne id g1 g2=>?_
  ·have hq:=hp.tip x (mAB hx) id hid
   exact hlv id hq.1 hq.2 fun e=>hp.td x (mAB hx) eb (hin heb) (neb hx) id hid e
  ·rcases List.mem_cons.1 hs with rfl | hs
   ·have q1:=same _ (hin itb) d1
    have q2:=same _ (hin itm) d2
    refine⟨?_,?_,?_,fun x hx=>?_⟩
    ·show st'.box t.b= .cells [(if t.b=eb then lv else if t.b<st.nb then σ t.b else .nilSlice),_,_]
     rw[q1.1,q1.2];exact hS.cell
    ·show Dw (if t.b=eb then lv else if t.b<st.nb then σ t.b else .nilSlice) _
     rw[q1.2]
     have:=hS.row
     simp only[List.map_append,List.map_cons]at this⊢
     exact this
    ·obtain⟨mp,h1,h2⟩:=hS.mp
     refine⟨mp,by show st'.box t.m=_;rw[q2.1];exact h1,fun k2=>?_⟩
     rw[h2 k2]
     exact(NL F).symm
    ·rcases List.mem_append.1 hx with h1 | h1
     ·have:=same x.2.1 (hin (by rw[A5];exact List.mem_append_left _ (Fc (s:=⟨t.b,t.m,t.hd,1+dpH h,F++(k,eb,shE (.lst l))::G⟩) (List.mem_append_left _ h1)))) (dF x h1)
      exact(hS.en x (List.mem_append_left _ h1)).fr this.1 this.2
     ·rcases List.mem_cons.1 h1 with rfl | h1
      ·refine⟨?_,by simp,?_⟩
       ·show Dw (if eb=eb then lv else _) _
        rw[if_pos rfl,List.map_append,List.map_map];exact kr
       ·show st'.box eb= .cells (.nilPtr::(if eb=eb then lv else _)::_)
        rw[if_pos rfl];exact ke
      ·have:=same x.2.1 (hin (by rw[A5];exact List.mem_append_left _ (Fc (s:=⟨t.b,t.m,t.hd,1+dpH h,F++(k,eb,shE (.lst l))::G⟩) (List.mem_append_right _ (.tail _ h1))))) (dG x h1)
       exact(hS.en x (List.mem_append_right _ (.tail _ h1))).fr this.1 this.2
   ·rcases List.mem_append.1 hs with h1 | h1
    ·exact rest s (List.mem_append_left _ h1)
    ·rcases List.mem_append.1 h1 with h1 | h1
     ·rcases List.mem_append.1 h1 with h1 | h1
      ·exact rest s (List.mem_append_right _ (List.mem_append_left _ h1))
      ·rw[List.mem_singleton.1 h1]
       have s4:(if n=eb then lv else if n<st.nb then σ n else .nilSlice)= .nilSlice:=by rw[if_neg (by omega),if_neg (by omega)]
       exact⟨by show st'.box n= .cells [(if n=eb then lv else if n<st.nb then σ n else .nilSlice),_,_];rw[s4];exact kn,by show Dw (if n=eb then lv else if n<st.nb then σ n else .nilSlice) _;rw[s4];exact Dw.nil,⟨[],km,fun _=>rfl⟩,fun x hx=>by cases hx⟩
     ·exact rest s (List.mem_append_right _ (List.mem_append_right _ h1))
  ·rw[eX]
   rw[eX0]at n2
   obtain⟨b1,b2,b3⟩:=List.nodup_append.1 n2
   have ol:∀{x},x∈(bxS ⟨t.b,t.m,t.hd,1+dpH h,F++(k,eb,shE (.lst l))::G⟩++(bxL P++bxL S))++bxL Q->x<st.nb:=fun hx=>hp.lt _ (hin (by rw[eX0];exact hx))
   have mm:∀{y},y∈ [n,m]->st.nb<=y:=fun {y} hy=>by
    rcases List.mem_cons.1 hy with rfl | hy
    ·exact hn.1
    ·rw[List.mem_singleton.1 hy];exact hm.1
   refine List.nodup_append.2 ⟨b1,List.nodup_append.2 ⟨by simp[hnm],b2,fun x hx y hy e=>?_⟩,fun x hx y hy e=>?_⟩
   ·have g1:=mm hx
    have g2:=ol (List.mem_append_right _ hy)
    omega
   ·rcases List.mem_append.1 hy with h1 | h1
    ·have g1:=mm h1
     have g2:=ol (List.mem_append_left _ hx)
     omega
    ·exact b3 x hx y h1 e
  ·rcases mem' hx with h1 | h1 | h1
   ·exact⟨Nat.lt_of_lt_of_le (hp.lt x (hin h1)) hnb,.inl h1⟩
   ·exact⟨by omega,.inr (by omega)⟩
   ·exact⟨by omega,.inr (by omega)⟩
  ·rcases htipx x hx id hid with⟨_,h1⟩ | ⟨h1,h2,h3⟩
   ·have:=htip id h1;exact⟨this.2.1,this.2.2,.inr this.1⟩
   ·have hq:=hp.tip x (hin h1) id h3
    have:=hlv id hq.1 hq.2 fun e=>hp.td x (hin h1) eb (hin heb) h2 id h3 e
    exact⟨this.1,this.2,.inl ⟨x,h1,h3⟩⟩
  ·rcases htipx x hx id g1 with⟨h1,h1'⟩ | ⟨h1,h2,h3⟩<;>rcases htipx y hy id g2 with⟨h4,h4'⟩ | ⟨h4,h5,h6⟩
   ·exact hne (h1.trans h4.symm)
   ·have:=(htip id h1').1;have:=(hp.tip y (hin h4) id h6).1;omega
   ·have:=(htip id h4').1;have:=(hp.tip x (hin h1) id h3).1;omega
   ·exact hp.td x (hin h1) y (hin h4) hne id h3 h6
 have isc:∀p,p∈up->Ap st' p.1=true/\p.1<st'.nb:=fun p hp'=>by
  obtain⟨q1,q2⟩:=hup.ok p hp'
  refine⟨?_,by omega⟩
  by_cases c3:p.1=bb
  ·rw[c3];simp[Ap,kb]
  ·by_cases c4:p.1=ub
   ·rw[c4]at q1;simp[Ap,hup.box]at q1
   ·by_cases c5:p.1=eb
    ·rw[c5];simp[Ap,ke]
    ·simp only[Ap,kx _ q2 c3 c4 c5]at q1⊢;exact q1
 have fdo:∀s,s∈A++((⟨t.b,t.m,t.hd,1+dpH h,F++(k,eb,shE (.lst l))::G⟩::(P++(S++Q)))++B)->BF s.b (E8 n (.bool true) up)=(if s.hd=true then none else some (.bool true)):=fun s hs=>by
  have hlt:s.b<st.nb:=hp.lt _ (Bj hs (.head _))
  rw[Et,if_neg (by omega)]
  exact hup.fd s (by rw[e1];exact hs)
 have memb:∀x,x∈bxL (A++((⟨t.b,t.m,t.hd,1+dpH h,F++(k,eb,.lst (l.map Tb.b++[n]))::G⟩::(P++((S++[⟨n,m,false,1+dpH h+2,[]⟩])++Q)))++B))->
   x∈bxL (A++((⟨t.b,t.m,t.hd,1+dpH h,F++(k,eb,shE (.lst l))::G⟩::(P++(S++Q)))++B))∨st.nb<=x:=fun x hx=>by
  rw[AJ,AJ]at hx
  rcases List.mem_append.1 hx with h1 | h1
  ·exact .inl (mAB (.inl h1))
  ·rcases List.mem_append.1 h1 with h1 | h1
   ·rcases mem' h1 with h2 | h2 | h2
    ·exact .inl (hin h2)
    ·exact .inr (by omega)
    ·exact .inr (by omega)
   ·exact .inl (mAB (.inr h1))
 have hsb:(Ax T h (B6 t k (.lst (l++[Tb.mk n m false []])))).b=T.b:=FW h hA rfl
 refine⟨by rw[ht'];exact HP',by rw[hsb];exact kb,⟨_,ku,?_,fun p hp'=>?_,fun s hs=>?_⟩,by omega,by omega,fun hx=>?_,fun hx=>?_⟩
 ·rw[IE _ _ _ fun p hp' e=>by have:=(hup.ok p hp').2;omega]
  refine List.nodup_append.2 ⟨hup.nd,by simp,fun x hx y hy e=>?_⟩
  obtain⟨p,hp',rfl⟩:=List.mem_map.1 hx
  have:=(hup.ok p hp').2
  rw[List.mem_singleton.1 hy]at e
  omega
 ·rcases JV _ _ _ p hp' with rfl | hp'
  ·exact⟨by simp[Ap,kn],hn.2⟩
  ·exact isc p hp'
 ·rw[ht']at hs
  rcases List.mem_append.1 hs with h1 | h1
  ·exact fdo s (List.mem_append_left _ h1)
  ·rcases List.mem_append.1 h1 with h1 | h1
   ·rcases List.mem_cons.1 h1 with rfl | h1
    ·exact fdo ⟨t.b,t.m,t.hd,1+dpH h,F++(k,eb,shE (.lst l))::G⟩ hsm
    ·rcases List.mem_append.1 h1 with h1 | h1
     ·exact fdo s (List.mem_append_right _ (List.mem_append_left _ (.tail _ (List.mem_append_left _ h1))))
     ·rcases List.mem_append.1 h1 with h1 | h1
      ·rcases List.mem_append.1 h1 with h1 | h1
       ·exact fdo s (List.mem_append_right _ (List.mem_append_left _ (.tail _ (List.mem_append_right _ (List.mem_append_left _ h1)))))
       ·rw[List.mem_singleton.1 h1,Et,if_pos rfl];rfl
      ·exact fdo s (List.mem_append_right _ (List.mem_append_left _ (.tail _ (List.mem_append_right _ (List.mem_append_right _ h1)))))
   ·exact fdo s (List.mem_append_right _ (List.mem_append_right _ h1))
 ·rw[ht']at hx
  rcases memb bb hx with h1 | h1
  ·exact bx h1
  ·omega
 ·rw[ht']at hx
  rcases memb ub hx with h1 | h1
  ·exact ux h1
  ·omega
theorem KO {t:Tb} {k:B8} {eb:Nat} {e x:En} (h:Ag k t.es=some (eb,e)):Ag k (B6 t k x).es=some (eb,x):=by
 have:=P0 (k2:=k) (x:=x) h
 rw[if_pos rfl]at this;exact this
theorem cnt_lst (T t:Tb) {h:List Hop} {k:B8} {eb:Nat} {l:List Tb} {u:Tb} (hA:atT T h=some t) (hl:Ag k t.es=some (eb,.lst l)):(Ae (Ax T h (B6 t k (.lst (l++[u]))))).cnt=(Ae T).cnt+(Ae u).cnt:=by
 have h1:=(DV h hA (B6 t k (.lst (l++[u])))).cnt
 obtain⟨F,G,f1,f2⟩:=CD hl
 have e1:(Ae (B6 t k (.lst (l++[u])))).cnt=(Ae t).cnt+(Ae u).cnt:=by
  unfold B6
  rw[Ae,f2,B1 t,f1]
  have:A1 (l++[u])=A1 l++[Ae u]:=by rw[AU,AU,List.map_append];rfl
  simp only[Vl.cnt,D2,AI,Fd.cnt,AA,this,Ei,AF]
  omega
 omega
theorem ent_bx {bb ub nodes eb:Nat} {now:TV} {T t:Tb} {σ:Nat->TV} {st:St} {h:List Hop} {k:B8} {e:En} (H:BH bb ub now T nodes σ st) (hA:atT T h=some t) (hl:Ag k t.es=some (eb,e)):eb∈bxL (shT 1 T):=
 Bj (H.tab hA).2 (Fc (x:=(k,eb,shE e)) (List.mem_map.2 ⟨.mk k eb e,IJ hl,rfl⟩))
theorem Tn {bb ub eb:Nat} {now:TV} {T t:Tb} {σ:Nat->TV} {st:St} {h:List Hop} {k:B8} {l:List Tb} {K:Int->St->Prop} (H:BH bb ub now T (Ae T).cnt σ st) (hA:atT T h=some t) (hl:Ag k t.es=some (eb,.lst l)) (hc:(Ae T).cnt<=800000)
  (hk:∀nu σ' st',BH bb ub (.box nu.b 0) (Ax T h (B6 t k (.lst (l++[AB nu false])))) ((Ae T).cnt+1) σ' st'->K 0 st'):
  Ai (Ac st [] (.t (.box t.b 2)) 0) fun x7=>AE (.int .i64) x7 fun n3=>CallT PR AC [.box bb 0,.int .i64 (IntKind.wrap .i64 (n3+2))] [.one .tv] st fun v7 st7=>need (List.all [v7] Ah) (stB st7 (.box bb 1) [v7] fun st8=>
   Ai (Ac st8 [] (.t (.box eb 1)) 0) fun v8=>Ai (Ac st8 [] (.t (.box bb 1)) 0) fun v9=>need (List.all [v9] Ah) (need (List.all [v9] Ah) (Cl 71 1 8 v8 1 [v9] st8 fun v10 st9=>need (List.all [v10] Ah) (stB st9 (.box eb 1) [v10] fun st10=>K 0 st10)))):=by
 obtain⟨up,hup⟩:=H.un
 have hbl:=H.bl
 have hul:=H.ul
 have hbu:=H.bu
 have hdp:=JF hA
 have hent:=H.ent hA hl
 obtain⟨g1,g2,g3⟩:=hent
 have hebx:=ent_bx H hA hl
 have leb:eb<st.nb:=H.hp.lt _ hebx
 have eb1:eb≠bb:=fun e=>H.bx (e▸hebx)
 have eb2:eb≠ub:=fun e=>H.ux (e▸hebx)
 refine H.ldd hA (AV ?_)
 have hwd:IntKind.wrap .i64 (((1+dpH h:Nat):Int)+2)=((1+dpH h+2:Nat):Int):=by rw[Am _ (by omega) (by omega)];simp
 rw[hwd]
 refine IT H.cell hup.box hbl hul hup.ok ⟨by omega,by omega⟩ fun st7 q1 q2 q3 q4=>Aa rfl ?_
 have hbb7:st7.box bb= .cells [.box T.b 0,now,.map ub,.int .i64 (((Ae T).cnt:Int)+1)]:=by rw[q2];simp only;rw[if_pos trivial]
 refine⟨_,hbb7,by simp,?_⟩
 generalize hst8:st7.put bb (.cells (setAll [.box T.b 0,now,.map ub,.int .i64 (((Ae T).cnt:Int)+1)] 1 [.box (st.nb+1) 0]))=st8
 have bx8:∀x,st8.box x=if x=bb then .cells [.box T.b 0,.box (st.nb+1) 0,.map ub,.int .i64 (((Ae T).cnt:Int)+1)]else st7.box x:=fun x=>by rw[<-hst8];rfl
 have nbs8:st8.nb=st.nb+2:=by rw[<-hst8];show st7.nb=_;omega
 have nts8:st8.nt=st.nt:=by rw[<-hst8];show st7.nt=_;omega
 have lvs8:st8.live=st.live:=by rw[<-hst8];show st7.live=_;rw[q4]
 have he8:st8.box eb= .cells (.nilPtr::σ eb::(z13++[.int .i64 0])):=by
  rw[bx8,if_neg eb1,q2];simp only
  rw[if_neg eb1,if_neg eb2,if_neg (by omega),if_neg (by omega)];exact g3
 refine Ad (x:=σ eb) (by simp only[Ac,he8];rfl) (Ad (x:= .box (st.nb+1) 0) (by simp only[Ac,bx8,if_pos trivial];rfl) (Aa rfl (Aa rfl ?_)))
 have hll:=Mn hl
 have hlt:=(Ob hA).1
 refine MQ g1 (fun id hid=>?_) (by rw[List.length_map,List.length_map];omega) fun v10 st9 w1 w2 w3 w4 w5 w6 w7 w8=>?_
 ·rw[nts8,lvs8];exact H.hp.tip eb hebx id hid
 have w1':Ah v10=true:=by
  rcases w1 with⟨_,hx⟩ | ⟨tip,h9,_⟩
  ·simp at hx
  ·rw[h9];rfl
 have he9:st9.box eb= .cells (.nilPtr::σ eb::(z13++[.int .i64 0])):=by rw[w3];exact he8
 refine Aa (by simp[w1']) ⟨_,he9,by simp,?_⟩
 generalize hst10:st9.put eb (.cells (setAll (.nilPtr::σ eb::(z13++[.int .i64 0])) 1 [v10]))=st10
 have bx10:∀x,st10.box x=if x=eb then .cells (.nilPtr::v10::(z13++[.int .i64 0]))else st8.box x:=fun x=>by rw[<-hst10,<-w3];rfl
 have nbs10:st10.nb=st.nb+2:=by rw[<-hst10];show st9.nb=_;omega
 have nts10:st10.nt=st.nt+1:=by rw[<-hst10];show st9.nt=_;omega
 have lvs10:st10.live=st9.live:=by rw[<-hst10];rfl
 rw[nts8]at w2 w7 w8
 refine hk ⟨st.nb+1,st.nb,0⟩ _ st10 (BH.more (n:=st.nb+1) (m:=st.nb) (lv:=v10) H hA hl (by omega) hup (fun x h1 h2 h3 h4=>?_) ?_ ?_ ?_ ?_ ?_ ?_ ⟨by omega,by omega⟩ ⟨Nat.le_refl _,by omega⟩ (by omega) (fun id hid=>?_) fun i h1 h2 h3=>?_)
 ·rw[bx10,if_neg h4,bx8,if_neg h2,q2];simp only
  rw[if_neg h2,if_neg h3,if_neg (by omega),if_neg (by omega)]
 ·rw[bx10,if_pos rfl]
 ·rw[List.map_map]at w1;exact w1
 ·rw[bx10,if_neg (Ne.symm eb1),bx8,if_pos rfl];simp
 ·rw[bx10,if_neg (Ne.symm eb2),bx8,if_neg (Ne.symm hbu),q2];simp only
  rw[if_neg (Ne.symm hbu),if_pos trivial]
 ·rw[bx10,if_neg (by omega),bx8,if_neg (by omega),q2];simp only
  rw[if_neg (by omega),if_neg (by omega),if_pos trivial]
 ·rw[bx10,if_neg (by omega),bx8,if_neg (by omega),q2];simp only
  rw[if_neg (by omega),if_neg (by omega),if_neg (by omega),if_pos trivial]
 ·rw[w2]at hid
  cases hid
  exact⟨Nat.le_refl _,by omega,by rw[lvs10];exact w7⟩
 ·exact⟨by omega,by rw[lvs10,w8 i h1 h3,lvs8];exact h2⟩
theorem QI {bb ub:Nat} {now:TV} {T t:Tb} {σ:Nat->TV} {st:St} {h:List Hop} {k:B8} {K:Int->St->Prop} (H:BH bb ub now T (Ae T).cnt σ st) (hA:atT T h=some t) (hc:(Ae T).cnt<=800000)
  (hk1:∀nu T' h' u σ' st',Lb nu T t h k= .ok (T',h')->atT T' h'=some u->BH bb ub (.box u.b 0) T' (Ae T').cnt σ' st'->(Ae T').cnt<=(Ae T).cnt+2->K 0 st')
  (hk2:∀nu st',Lb nu T t h k= .error 6->K 6 st'):
  CallT PR BU [.box bb 0,.box t.b 0,.str k] [.one (.int .i64)] st K:=by
 refine Fq bb t.b k st K (H.ldm hA (H.map hA fun es hes=>?_))
 rw[hes k]
 have nu0:Nu:=⟨0,0,0⟩
 rcases hl:Ag k t.es with _ | ⟨eb,e⟩
 ·rw[Option.map_none]
  refine Aa rfl ?_
  show CallT _ _ _ _ _ _
  refine UM H hA hl hc fun nu σ' st' H1=>?_
  have hcn:=LG (k:=k) (eb:=nu.eb) (e:= .lst [AB nu false]) hA
  have hc2:(AA (.lst [AB nu false])).cnt=2:=by rw[AA,A1,A1,AB,Ae,AD];simp[Vl.cnt,AF,AI]
  rw[hc2]at hcn
  rw[<-hcn]at H1
  have hl1:Ag k (AS t k nu.eb (.lst [AB nu false])).es=some (nu.eb,.lst [AB nu false]):=by
   have:=GH (k2:=k) (eb:=nu.eb) (e:= .lst [AB nu false]) hl
   rw[if_pos rfl]at this;exact this
  exact hk1 nu _ _ (AB nu false) σ' st' (by unfold Lb;rw[hl]) (Iv (DW h hA) hl1 rfl) H1 (by omega)
 ·rw[Option.map_some]
  refine Aa rfl (show need _ _ from Aa rfl (Aa rfl (H.ent1 hA hl fun v hv=>Aa hv.sl ?_)))
  rw[hv.len]
  cases e with
  | opn u=>exact Ab (fun _=>hk2 nu0 st (by unfold Lb;rw[hl])) fun hne=>absurd rfl hne
  | clo v i=>exact Ab (fun _=>hk2 nu0 st (by unfold Lb;rw[hl])) fun hne=>absurd rfl hne
  | lst l=>
   have hne:l≠ []:=by have:=(H.ent hA hl).2.1;intro e;rw[e]at this;exact this rfl
   have hlp:0<l.length:=List.length_pos_iff.2 hne
   refine Ab (fun hz=>absurd hz (by simp[KE];exact hne)) fun _=>?_
   refine Tn H hA hl hc fun nu σ' st' H1=>?_
   have hcn:=cnt_lst T t (u:=AB nu false) hA hl
   have hc1:(Ae (AB nu false)).cnt=1:=by rw[AB,Ae,AD];simp[Vl.cnt,AF,AI]
   rw[hc1]at hcn
   rw[<-hcn]at H1
   exact hk1 nu _ _ (AB nu false) σ' st' (by unfold Lb;rw[hl]) (Iv (DW h hA) (KO hl) (by simp)) H1 (by omega)
end Go.TVF
section
namespace Go.Proofs
open Go.Shelf
def Tryz.laysValid_ren:Go.Shelf.Ren:=⟨fun | 196=>107 | 259=>124 | n=>n,fun | 9=>9 | 4=>4 | 3=>3 | 5=>5 | 12=>12 | 119=>162 | 0=>0 | 46=>166 | 139=>165 | 138=>164 | 53=>176 | n=>n,fun | 3=>0 | 4=>1 | n=>n⟩
theorem Tryz.laysValid:Go.Proofs.Lays.n196 Tryz.prog Tryz.laysValid_ren:={
 mixed:=by kernel_rfl
 f196:=Tryz.func107.trans (congrArg some (by kernel_rfl))
 f259:=Tryz.func124.trans (congrArg some (by kernel_rfl))
 t0:=Tryz.underlying0
 a0:=Tryz.isAgg0
 z0:=Tryz.sizeOf0
 v0:=Tryz.zeroValue0
 t3:=Tryz.underlying3
 a3:=Tryz.isAgg3
 z3:=Tryz.sizeOf3
 v3:=Tryz.zeroValue3
 t4:=Tryz.underlying4
 a4:=Tryz.isAgg4
 z4:=Tryz.sizeOf4
 v4:=Tryz.zeroValue4
 t5:=Tryz.underlying5
 a5:=Tryz.isAgg5
 z5:=Tryz.sizeOf5
 v5:=Tryz.zeroValue5
 t9:=Tryz.underlying9
 a9:=Tryz.isAgg9
 z9:=Tryz.sizeOf9
 v9:=Tryz.zeroValue9
 t12:=Tryz.underlying12
 a12:=Tryz.isAgg12
 z12:=Tryz.sizeOf12
 v12:=Tryz.zeroValue12
 t46:=Tryz.underlying166
 a46:=Tryz.isAgg166
 z46:=Tryz.sizeOf166
 v46:=Tryz.zeroValue166
 t53:=Tryz.underlying176
 a53:=Tryz.isAgg176
 z53:=Tryz.sizeOf176
 v53:=Tryz.zeroValue176
 t119:=Tryz.underlying162
 a119:=Tryz.isAgg162
 z119:=Tryz.sizeOf162
 t138:=Tryz.underlying164
 a138:=Tryz.isAgg164
 z138:=Tryz.sizeOf164
 v138:=Tryz.zeroValue164
 t139:=Tryz.underlying165
 a139:=Tryz.isAgg165
 z139:=Tryz.sizeOf165
 v139:=Tryz.zeroValue165
 g3:=by kernel_rfl
 g4:=by kernel_rfl}
open Go.RowKit in
theorem Tryz.utf8_ValidString (s:ByteArray) (w:World) (hs:s.size<=9223372036854775807) (hT:Lib.Utf8Tabs 0 1 w):
  Calls Tryz.prog 107 #[.string s] w fun e w'=>e= .returned (.bool (Lib.validD s.data.toList))/\Below w.heap.size w w':=Any.utf8_ValidString Tryz.laysValid s w hs hT
end Go.Proofs
end
section
namespace Go.TVF
open Go.IntKind(i64 u8)
open Go Go.Proofs Go.RowKit
theorem Sim.grown {g:Ghost} {st:St} {loc:List (Option (List TV))} {w w':World} (s:Sim g st loc w) (h:Below w.heap.size w w'):Sim g st loc w'/\Ext g w g w':=
 s.world h.size (s.below.trans (h.mono s.fits)) h.block
theorem decL_dN {l:B8} (h:l≠ []):Lib.decodeL l=dN l:=by
 unfold Lib.decodeL dN bt
 rw[Lib.decode_at]
 have hg:∀i,(ByteArray.get! ⟨l.toArray⟩ i)=l.getD i 0:=fun i=>by
  simp[ByteArray.get!,List.getD]
  rfl
 simp only[hg,Nat.zero_add,Nat.sub_zero]
 rfl
theorem JN:∀(n:Nat) (l:B8),l.length<=n->Lib.validGoD n l=decide (DM l=l.length)
 | 0,l,h=>by
  have:l=[]:=List.eq_nil_of_length_eq_zero (by omega)
  subst this
  simp[Lib.validGoD,B7 [] (by simp[ul])]
 | n+1,l,h=>by
  unfold Lib.validGoD
  by_cases h0:l=[]
  ·subst h0
   simp[B7 [] (by simp[ul])]
  ·rw[if_neg h0,decL_dN h0]
   have hl:l.length≠0:=fun e=>h0 (List.eq_nil_of_length_eq_zero e)
   by_cases hz:ul l=0
   ·have hd:=(Oo l h0).1 hz
    rw[if_pos (by rw[hd];exact⟨rfl,rfl⟩),B7 l hz]
    exact(decide_eq_false (by omega)).symm
   ·have hd:=UT l hz
    have hn:=ul_not l hz
    have hle:=Pp l
    rw[if_neg (by rw[hd];exact hn),hd,JN n (l.drop (ul l)) (by simp only[List.length_drop];omega),Gy l hz]
    simp only[List.length_drop]
    exact decide_eq_decide.2 (by omega)
theorem LV {l:B8} {st:St} {K:Bool->St->Prop} (hl:l.length<=9223372036854775807) (hk:K (decide (U8 l)) st):CallT PR E3 [.str l] [.one .bool] st K:=by
 refine G1 (fun _ _=>by kernel_rfl) fun g w vargs s hr=>?_
 obtain⟨v,rfl,hv⟩:=TU hr
 rw[Ih hv]
 refine Calls.mono (Tryz.utf8_ValidString ⟨l.toArray⟩ w (by simpa [ByteArray.size]using hl) (s.glob w s.below)) ?_
 rintro e w' ⟨rfl,hb⟩
 obtain⟨s',e'⟩:=s.grown hb
 rw[show Lib.validD (ByteArray.mk l.toArray).data.toList=decide (U8 l)from JN l.length l (Nat.le_refl _)]
 exact⟨_,rfl,.bool (decide (U8 l)),st,g,hk,s',Rel.bool _,e'⟩
end Go.TVF
end
namespace Go.TVF
open Go.IntKind(i64 u8)
open Go Go.Proofs
theorem zero_ok {v:Vl} {st0 st:St} {cs:List TV} {K:Bool->St->Prop} (h:VlR st0 v cs) (hk:K (Gw v) st):CallT PR CI [.agg cs] [.one .bool] st K:=by
 obtain⟨s,l,f⟩:=v
 obtain⟨ub,ul,uf,xl,xf,rfl,h1,h2,_,h3,_⟩:=h.cells
 have kf:¬(s=scO/\l=[]/\f=[])->K false st:=fun hn=>by
  have:Gw (.mk s l f)=false:=by
   rw[Bool.eq_false_iff]
   intro e
   unfold Gw at e
   simp only[Bool.and_eq_true,decide_eq_true_eq,List.isEmpty_iff]at e
   exact hn ⟨e.1.1,e.1.2,e.2⟩
  rw[<-this];exact hk
 refine Lg s.kind s.b s.neg s.dg s.ex s.tk s.td s.tn s.tz s.text ub ul uf st K (Ab (fun g1=>?_) fun g1=>kf fun e=>g1 (by rw[e.1];rfl))
 refine As (fun g2=>?_) fun g2=>kf fun e=>by rw[e.1]at g2;simp[scO]at g2
 refine As (fun g3=>?_) fun g3=>kf fun e=>by rw[e.1]at g3;simp[scO]at g3
 refine As (fun g4=>?_) fun g4=>kf fun e=>by rw[e.1]at g4;simp[scO]at g4
 refine Ab (fun g5=>?_) fun g5=>kf fun e=>g5 (by rw[e.1];rfl)
 refine Aa h1.isSl ?_
 rw[h1.lenS]
 refine Ab (fun g6=>?_) fun g6=>kf fun e=>g6 (by rw[e.1];rfl)
 refine Aa h2.isSl ?_
 rw[h2.lenS]
 refine Ab (fun g7=>?_) fun g7=>kf fun e=>g7 (by rw[e.2.1];rfl)
 refine Aa h3.isSl ?_
 rw[h3.lenS]
 have hs:s=scO:=by
  obtain⟨kind,b,neg,dg,ex,tk,td,tn,tz,text,bytes⟩:=s
  simp only[Bool.not_eq_true',Bool.and_true,Bool.and_eq_true,beq_iff_eq,decide_eq_true_eq]at g1 g2 g3 g4 g5 g6
  have:bytes=[]:=List.eq_nil_of_length_eq_zero (by omega)
  unfold scO
  simp only[g1,g2,g3.1,g3.2.1,g3.2.2,g4.1,g4.2.1,g4.2.2.1,g4.2.2.2,g5,this]
 have hl:l=[]:=List.eq_nil_of_length_eq_zero (by omega)
 have:decide ((f.length:Int)=0)=Gw (.mk s l f):=by
  unfold Gw
  rw[hs,hl]
  cases f<;>simp[Vl.sc,Vl.list,Vl.flds]<;>omega
 rw[this];exact hk
theorem S7 {a_0 a_1:Bool} {a_2:TV} {ks:List B8} {v:Vl} {st0 st:St} {cs:List TV} {K:Bool->St->Prop} (hr:Rd 1 a_2 ks.length (ks.map TV.str)) (h:VlR st0 v cs)
  (hk:K (Cm ⟨a_0,a_1,ks,v⟩) st):CallT PR C7 [.agg (.bool a_0:: .bool a_1::a_2::cs)] [.one .bool] st K:=by
 have hz:∀{K:Bool->St->Prop},K (Gw v) st->CallT PR CI [.agg cs] [.one .bool] st K:=fun hk=>zero_ok h hk
 obtain⟨s,l,f⟩:=v
 obtain⟨ub,ul,uf,xl,xf,rfl,_⟩:=h.cells
 have hsl:isSl a_2=true:=by rcases hr with⟨rfl,_⟩ | ⟨tip,rfl⟩<;>rfl
 have hle:lenS a_2=ks.length:=by
  rcases hr with⟨rfl,e,_⟩ | ⟨tip,rfl⟩
  ·exact e.symm
  ·rfl
 unfold Cm at hk
 refine JM a_0 a_1 a_2 s.kind s.b s.neg s.dg s.ex s.tk s.td s.tn s.tz s.text ub ul uf st K (Aa hsl ?_)
 rw[hle]
 refine Ab (fun g=>?_) fun g=>?_
 ·have hne:ks.isEmpty=false:=by cases ks with | nil=>simp at g | cons a b=>rfl
  simp only[hne,Bool.not_false,Bool.true_and]at hk
  cases a_0 with
  | true=>exact hz (by simpa using hk)
  | false=>
   cases a_1 with
   | true=>exact(show K false st from by simpa using hk)
   | false=>exact(show K true st from by simpa using hk)
 ·have hne:ks=[]:=List.eq_nil_of_length_eq_zero (by omega)
  simp only[hne,List.isEmpty_nil,Bool.not_true,Bool.false_and]at hk
  exact hk
def Rl (k:B8):Bool:= !(decide (U8 k)) || decide (1024<k.length)
theorem odd_ok {k:B8} {st:St} {K:Bool->St->Prop} (hl:k.length<=1000000) (hk:K (Rl k) st):CallT PR Be [.str k] [.one .bool] st K:=by
 refine LQ k st K (LV (by omega) ?_)
 unfold Rl at hk
 by_cases h:U8 k
 ·simp only[h,decide_true,Bool.not_true,Bool.false_or]at hk⊢
  show K (decide ((1024:Int)<(k.length:Int))) st
  have:decide ((1024:Int)<(k.length:Int))=decide (1024<k.length):=decide_eq_decide.2 (by omega)
  rw[this];exact hk
 ·simp only[h,decide_false,Bool.not_false,Bool.true_or]at hk⊢
  exact hk
theorem OX {a_2:TV} {ks:List B8} {st:St} {K:Bool->St->Prop} (hr:Rd 1 a_2 ks.length (ks.map TV.str)) (hl:∀k,k∈ks->k.length<=1000000) (hn:ks.length<=1000000) (hk:K (ks.any Rl) st):
  CallT PR Ay [a_2,.func Be []] [.one .bool] st K:=by
 have hsl:isSl a_2=true:=by rcases hr with⟨rfl,_⟩ | ⟨tip,rfl⟩<;>rfl
 have hle:lenS a_2=ks.length:=by
  rcases hr with⟨rfl,e,_⟩ | ⟨tip,rfl⟩
  ·exact e.symm
  ·rfl
 have hlz:0<ks.length->lenZ 1 a_2=ks.length:=fun h0=>by
  rcases hr with⟨rfl,e,_⟩ | ⟨tip,rfl⟩
  ·omega
  ·rfl
 refine C8 a_2 _ st K (DA a_2 _ st _ (Aa hsl ?_))
 refine⟨fun n_1 s_1 f_1 n_2 st1=>∃j:Nat,n_1=(j:Int)/\j<=ks.length/\s_1=a_2/\f_1= .func Be []/\n_2=(ks.length:Int)/\st1=st/\(ks.take j).any Rl=false,fun n_1 _ _ _ _=>ks.length-n_1.toNat,⟨0,rfl,Nat.zero_le _,rfl,rfl,by rw[hle],rfl,rfl⟩,?_⟩
 rintro n_1 s_1 f_1 n_2 st1 ⟨j,rfl,hj,rfl,rfl,rfl,rfl,ha⟩
 refine Ab (fun hlt=>?_) fun hge=>?_
 ·have hlt:j<ks.length:=by omega
  refine⟨⟨by omega,by rw[hlz (by omega)];omega⟩,?_⟩
  refine Ad (x:= .str (ks.getD j [])) ?_ (Ct ?_)
  ·have:=Ds hlt
   rcases hr with⟨rfl,e,_⟩ | ⟨tip,rfl⟩
   ·omega
   ·simp only[ixT,Ac,Int.toNat_natCast,Nat.mul_one,List.getElem?_drop,Nat.add_zero]
    exact this
  have hmem:ks.getD j []∈ks:=by
   rw[List.getD_eq_getElem?_getD,List.getElem?_eq_getElem hlt];exact List.getElem_mem hlt
  show CallT PR Be [.str (ks.getD j [])] _ _ _
  refine odd_ok (hl _ hmem) (As (fun hb=>?_) fun hb=>?_)
  ·have:ks.any Rl=true:=List.any_eq_true.2 ⟨_,hmem,hb⟩
   rw[this]at hk
   show K (decide ((0:Int)<=(j:Int))) _
   rw[decide_eq_true (by omega)];exact hk
  ·have hwj:IntKind.wrap .i64 ((j:Int)+1)=((j+1:Nat):Int):=by rw[Am _ (by omega) (by omega)];simp
   rw[hwj]
   refine⟨⟨j+1,rfl,hlt,rfl,rfl,rfl,rfl,?_⟩,by simp only[Int.toNat_natCast];omega⟩
   rw[Co hlt,List.any_append,ha,List.any_cons,hb];rfl
 ·have:j=ks.length:=by omega
  subst this
  rw[List.take_length]at ha
  rw[ha]at hk
  exact hk
def NdL (L:List Sh):Prop:=∀s,s∈L->(s.es.map fun x=>x.1).Nodup
theorem NdL.app {A B:List Sh}:NdL (A++B)↔NdL A/\NdL B:=
 ⟨fun h=>⟨fun s hs=>h s (List.mem_append_left _ hs),fun s hs=>h s (List.mem_append_right _ hs)⟩,fun h s hs=>(List.mem_append.1 hs).elim (h.1 s) (h.2 s)⟩
theorem NdL.cons {s:Sh} {B:List Sh}:NdL (s::B)↔(s.es.map fun x=>x.1).Nodup/\NdL B:=
 ⟨fun h=>⟨h s (.head _),fun x hx=>h x (.tail _ hx)⟩,fun h x hx=>(List.mem_cons.1 hx).elim (fun e=>e▸h.1) (h.2 x)⟩
theorem JU (es:List Kn):(es.map shK).map (fun x=>x.1)=es.map Kn.key:=by rw[List.map_map];rfl
theorem PZ:∀{es:List Kn} {j:Nat} {k:B8} {eb:Nat} {e:En},(es.map Kn.key).Nodup->es[j]? =some (.mk k eb e)->Ag k es=some (eb,e)
 | .mk k' eb' e'::r,0,k,eb,e,hn,hj=>by
  cases hj
  unfold Ag
  rw[if_pos rfl]
 | .mk k' eb' e'::r,j+1,k,eb,e,hn,hj=>by
  rw[List.map_cons,List.nodup_cons]at hn
  have hj':r[j]? =some (.mk k eb e):=by simpa using hj
  unfold Ag
  have hne:k≠k':=fun e2=>hn.1 (List.mem_map.2 ⟨_,List.mem_of_getElem? hj',e2⟩)
  rw[if_neg hne]
  exact PZ hn.2 hj'
theorem Ue {T t t':Tb} {h:List Hop} (hA:atT T h=some t) (hb:t'.b=t.b) (hn:NdL (shT 1 T)) (ht:NdL (shT (1+dpH h) t)->NdL (shT (1+dpH h) t')):NdL (shT 1 (Ax T h t')):=by
 obtain⟨A,B,e1,e2⟩:=I6 h hA 1
 rw[e1]at hn
 rw[e2 t' hb]
 obtain⟨h1,h2⟩:=NdL.app.1 hn
 obtain⟨h3,h4⟩:=NdL.app.1 h2
 exact NdL.app.2 ⟨h1,NdL.app.2 ⟨ht h3,h4⟩⟩
theorem Uf {T t:Tb} {h:List Hop} {k:B8} {eb:Nat} {e:En} (hA:atT T h=some t) (hl:Ag k t.es=none) (hn:NdL (shT 1 T)) (he:NdL (Bb (1+dpH h) e)):NdL (shT 1 (Ax T h (AS t k eb e))):=by
 refine Ue (t':=AS t k eb e) hA rfl hn fun ht=>?_
 rw[E0]at ht
 rw[Ox]
 obtain⟨h1,h2⟩:=NdL.cons.1 ht
 refine NdL.cons.2 ⟨?_,NdL.app.2 ⟨h2,he⟩⟩
 simp only at h1⊢
 rw[List.map_append]
 refine List.nodup_append.2 ⟨h1,by simp,fun x hx y hy e=>?_⟩
 rw[JU]at hx
 obtain⟨d,hd,rfl⟩:=List.mem_map.1 hx
 simp only[List.map_cons,List.map_nil,List.mem_singleton]at hy
 subst hy
 exact Jy hl d hd e
theorem nd_chg {T t:Tb} {h:List Hop} {k:B8} {eb:Nat} {e x:En} (hA:atT T h=some t) (hl:Ag k t.es=some (eb,e)) (hn:NdL (shT 1 T)) (he:NdL (Bb (1+dpH h) e)->NdL (Bb (1+dpH h) x)):NdL (shT 1 (Ax T h (B6 t k x))):=by
 refine Ue (t':=B6 t k x) hA rfl hn fun ht=>?_
 rw[E0]at ht
 obtain⟨P,Q,p1,p2⟩:=GB (1+dpH h) hl
 unfold B6
 rw[shT,p2]
 obtain⟨h1,h2⟩:=NdL.cons.1 ht
 rw[p1]at h2
 obtain⟨h3,h4⟩:=NdL.app.1 h2
 obtain⟨h5,h6⟩:=NdL.app.1 h4
 refine NdL.cons.2 ⟨?_,NdL.app.2 ⟨h3,NdL.app.2 ⟨he h5,h6⟩⟩⟩
 simp only at h1⊢
 rw[JU]at h1⊢
 rw[NC];exact h1
theorem L6 {d:Nat}:∀{es:List Kn} {j:Nat} {k:B8} {eb:Nat} {e:En},es[j]? =some (.mk k eb e)->∀s,s∈Bb d e->s∈B2 d es
 | .mk k' eb' e'::r,0,k,eb,e,hj,s,hs=>by cases hj;rw[B2];exact List.mem_append_left _ hs
 | .mk k' eb' e'::r,j+1,k,eb,e,hj,s,hs=>by rw[B2];exact List.mem_append_right _ (L6 (j:=j) (by simpa using hj) s hs)
theorem PD {d:Nat}:∀{l:List Tb} {i:Nat} {u:Tb},l[i]? =some u->∀s,s∈shT d u->s∈D6 d l
 | t::r,0,u,hi,s,hs=>by cases hi;rw[D6];exact List.mem_append_left _ hs
 | t::r,i+1,u,hi,s,hs=>by rw[D6];exact List.mem_append_right _ (PD (i:=i) (by simpa using hi) s hs)
theorem cnt_kn {es:List Kn} {j:Nat} {k:B8} {eb:Nat} {e:En} (hj:es[j]? =some (.mk k eb e)):(AA e).cnt<=AI (AD es):=by
 have hm:Fd.mk k (AA e)∈AD es:=by
  rw[IA];exact List.mem_map.2 ⟨_,List.mem_of_getElem? hj,rfl⟩
 have gen:∀(f:List Fd) (d:Fd),d∈f->d.cnt<=AI f:=by
  intro f
  induction f with
  | nil=>intro d hd;cases hd
  | cons a r ih=>
   intro d hd
   unfold AI
   rcases List.mem_cons.1 hd with rfl | hd
   ·omega
   ·have:=ih d hd;omega
 exact gen _ _ hm
theorem UV {l:List Tb} {i:Nat} {u:Tb} (hi:l[i]? =some u):(Ae u).cnt<=AF (A1 l):=by
 have gen:∀(f:List Vl) (d:Vl),d∈f->d.cnt<=AF f:=by
  intro f
  induction f with
  | nil=>intro d hd;cases hd
  | cons a r ih=>
   intro d hd
   unfold AF
   rcases List.mem_cons.1 hd with rfl | hd
   ·omega
   ·have:=ih d hd;omega
 refine gen _ _ ?_
 rw[AU];exact List.mem_map.2 ⟨u,List.mem_of_getElem? hi,rfl⟩
end Go.TVF
section
namespace Go.TVF
open Go.IntKind(i64 u8)
structure Way (T T':Tb) (h h':List Hop) (n z:Nat) (good:Prop):Prop where
 at_:∃t,atT T' h'=some t
 cnt:(Ae T').cnt<=(Ae T).cnt+n
 sz:(Ae T').sz<=(Ae T).sz+z
 dp:dpH h<=dpH h'
 lv:lvV (Ae T')<=max (lvV (Ae T)) (dpH h'+1)
 va:good->AZ (Ae T)->AZ (Ae T')
 nd:NdL (shT 1 T)->NdL (shT 1 T')
 bx:T'.b=T.b
theorem DT (nu:Nu) (hd:Bool):AZ (Ae (AB nu hd)):=by
 rw[AB,Ae,AD]
 unfold AZ Cv Cw
 refine⟨⟨⟨by decide,by decide,fun _=>rfl,fun _=>⟨rfl,rfl,rfl⟩,fun _=>⟨rfl,rfl,rfl,rfl⟩,fun _=>rfl,fun _=>rfl,fun _=>rfl,fun _=>rfl⟩,by show D5 false [] 0;decide,fun h=>absurd h (by decide),by show DM []=0;exact B7 [] (by simp[ul]),by decide,by decide,rfl⟩,trivial,trivial⟩
theorem LB (nu:Nu) (hd:Bool):lvV (Ae (AB nu hd))=1:=by rw[AB,Ae,AD];simp[lvV,FB,Fe]
theorem Lo (nu:Nu) (hd:Bool):(Ae (AB nu hd)).sz=1:=by rw[AB,Ae,AD];simp[Vl.sz,BB,Bv,scM]
theorem G9 (d:Nat) (nu:Nu) (hd:Bool):NdL (shT d (AB nu hd)):=by
 rw[AB,shT,B2]
 intro s hs
 rw[List.mem_singleton.1 hs]
 exact List.nodup_nil
theorem OP {nu:Nu} {hd:Bool} {T T' t:Tb} {h h':List Hop} {k:B8} (hA:atT T h=some t) (hne:∀eb l,Ag k t.es=some (eb,.lst l)->l≠ []) (hh:DD nu hd T h k=some (T',h')):Way T T' h h' 1 (k.length+1) (U8 k/\k.length<=1024):=by
 unfold DD at hh
 rw[hA]at hh
 simp only at hh
 have id:∀{h'},(∃u,atT T h'=some u)->dpH h<=dpH h'->Way T T h h' 1 (k.length+1) (U8 k/\k.length<=1024):=fun h1 h2=>⟨h1,by omega,by omega,h2,by omega,fun _ h=>h,fun h=>h,rfl⟩
 rcases hl:Ag k t.es with _ | ⟨eb,e⟩
 ·rw[hl]at hh
  simp only[Option.some.injEq,Prod.mk.injEq]at hh
  obtain⟨rfl,rfl⟩:=hh
  have c:=DV h hA (AS t k nu.eb (.opn (AB nu false)))
  have c1:=c.cnt
  have c2:=c.sz
  have c3:=c.lv
  have c4:=c.lvu
  rw[LH,EM]at c1
  rw[QZ,AA,Lo]at c2
  rw[Ro,AA,LB]at c3
  have hdp:dpH (h++[(k,none)])=dpH h+1:=by rw[Kd];rfl
  refine⟨⟨_,K1 hA hl⟩,by omega,by omega,by omega,by omega,fun g hv=>?_,fun hn=>Uf hA hl hn (by rw[Bb];exact G9 _ _ _),FW h hA rfl⟩
  exact c.va hv (Nz (c.vu hv) hl g.1 g.2 (by rw[AA];exact DT _ _))
 ·rw[hl]at hh
  cases e with
  | opn u=>
   simp only[Option.some.injEq,Prod.mk.injEq]at hh
   obtain⟨rfl,rfl⟩:=hh
   exact id ⟨u,JH hA hl⟩ (by rw[Kd];omega)
  | lst l=>
   simp only at hh
   cases hd with
   | false=>simp at hh
   | true=>
    simp only[if_true,Option.some.injEq,Prod.mk.injEq]at hh
    obtain⟨rfl,rfl⟩:=hh
    have h0:0<l.length:=List.length_pos_iff.2 (hne eb l hl)
    exact id ⟨_,Iv hA hl (List.getElem?_eq_getElem (by omega))⟩ (by rw[Kd];omega)
  | clo v i=>simp at hh
end Go.TVF
end
section
namespace Go.TVF
open Go.IntKind(i64 u8)
def NeL (L:List Sh):Prop:=∀s,s∈L->∀x,x∈s.es->∀bs,x.2.2= .lst bs->bs≠ []
theorem NeL.app {A B:List Sh}:NeL (A++B)↔NeL A/\NeL B:=
 ⟨fun h=>⟨fun s hs=>h s (List.mem_append_left _ hs),fun s hs=>h s (List.mem_append_right _ hs)⟩,fun h s hs=>(List.mem_append.1 hs).elim (h.1 s) (h.2 s)⟩
theorem NeL.cons {s:Sh} {B:List Sh}:NeL (s::B)↔(∀x,x∈s.es->∀bs,x.2.2= .lst bs->bs≠ [])/\NeL B:=
 ⟨fun h=>⟨h s (.head _),fun x hx=>h x (.tail _ hx)⟩,fun h x hx=>(List.mem_cons.1 hx).elim (fun e=>e▸h.1) (h.2 x)⟩
theorem Uc {T t t':Tb} {h:List Hop} (hA:atT T h=some t) (hb:t'.b=t.b) (hn:NeL (shT 1 T)) (ht:NeL (shT (1+dpH h) t)->NeL (shT (1+dpH h) t')):NeL (shT 1 (Ax T h t')):=by
 obtain⟨A,B,e1,e2⟩:=I6 h hA 1
 rw[e1]at hn
 rw[e2 t' hb]
 obtain⟨h1,h2⟩:=NeL.app.1 hn
 obtain⟨h3,h4⟩:=NeL.app.1 h2
 exact NeL.app.2 ⟨h1,NeL.app.2 ⟨ht h3,h4⟩⟩
theorem Ud {T t:Tb} {h:List Hop} {k:B8} {eb:Nat} {e:En} (hA:atT T h=some t) (hn:NeL (shT 1 T)) (h0:∀bs,shE e= .lst bs->bs≠ []) (he:NeL (Bb (1+dpH h) e)):NeL (shT 1 (Ax T h (AS t k eb e))):=by
 refine Uc (t':=AS t k eb e) hA rfl hn fun ht=>?_
 rw[E0]at ht
 rw[Ox]
 obtain⟨h1,h2⟩:=NeL.cons.1 ht
 refine NeL.cons.2 ⟨fun x hx=>?_,NeL.app.2 ⟨h2,he⟩⟩
 rcases List.mem_append.1 hx with h3 | h3
 ·exact h1 x h3
 ·rw[List.mem_singleton.1 h3];exact h0
theorem PX {T t:Tb} {h:List Hop} {k:B8} {eb:Nat} {l:List Tb} (hA:atT T h=some t) (hn:NeL (shT 1 T)) (hl:Ag k t.es=some (eb,.lst l)):l≠ []:=by
 obtain⟨A,B,e1,_⟩:=I6 h hA 1
 rw[e1]at hn
 have h3:=(NeL.app.1 (NeL.app.1 hn).2).1
 rw[E0]at h3
 have:=(NeL.cons.1 h3).1 (k,eb,shE (.lst l)) (List.mem_map.2 ⟨.mk k eb (.lst l),IJ hl,rfl⟩) (l.map Tb.b) rfl
 intro e
 rw[e]at this
 exact this rfl
theorem ne_chg {T t:Tb} {h:List Hop} {k:B8} {eb:Nat} {e x:En} (hA:atT T h=some t) (hl:Ag k t.es=some (eb,e)) (hn:NeL (shT 1 T)) (h0:∀bs,shE x= .lst bs->bs≠ []) (he:NeL (Bb (1+dpH h) e)->NeL (Bb (1+dpH h) x)):NeL (shT 1 (Ax T h (B6 t k x))):=by
 refine Uc (t':=B6 t k x) hA rfl hn fun ht=>?_
 rw[E0]at ht
 obtain⟨P,Q,p1,p2⟩:=GB (1+dpH h) hl
 unfold B6
 rw[shT,p2]
 obtain⟨h1,h2⟩:=NeL.cons.1 ht
 rw[p1]at h2
 obtain⟨h3,h4⟩:=NeL.app.1 h2
 obtain⟨h5,h6⟩:=NeL.app.1 h4
 refine NeL.cons.2 ⟨fun y hy bs hb=>?_,NeL.app.2 ⟨h3,NeL.app.2 ⟨he h5,h6⟩⟩⟩
 have mem:∀es:List Kn,y∈(BR k x es).map shK->y∈es.map shK∨y.2.2=shE x:=by
  intro es
  induction es with
  | nil=>intro hy;cases hy
  | cons d r ih=>
   obtain⟨k',eb',e'⟩:=d
   intro hy
   unfold BR at hy
   split at hy
   ·rcases List.mem_cons.1 hy with rfl | hy
    ·exact .inr rfl
    ·exact .inl (.tail _ hy)
   ·rcases List.mem_cons.1 hy with rfl | hy
    ·exact .inl (.head _)
    ·exact(ih hy).imp (.tail _) id
 rcases mem t.es hy with h7 | h7
 ·exact h1 y h7 bs hb
 ·exact h0 bs (h7▸hb)
theorem G8 (d:Nat) (nu:Nu) (hd:Bool):NeL (shT d (AB nu hd)):=by
 rw[AB,shT,B2]
 intro s hs
 rw[List.mem_singleton.1 hs]
 intro x hx
 cases hx
theorem Ru {nu:Nu} {hd:Bool} {T T' t:Tb} {h h':List Hop} {k:B8} (hA:atT T h=some t) (hh:DD nu hd T h k=some (T',h')) (hn:NeL (shT 1 T)):NeL (shT 1 T'):=by
 unfold DD at hh
 rw[hA]at hh
 simp only at hh
 rcases hl:Ag k t.es with _ | ⟨eb,e⟩
 ·rw[hl]at hh
  simp only[Option.some.injEq,Prod.mk.injEq]at hh
  obtain⟨rfl,rfl⟩:=hh
  exact Ud hA hn (fun bs h=>by cases h) (by rw[Bb];exact G8 _ _ _)
 ·rw[hl]at hh
  cases e with
  | opn u=>
   simp only[Option.some.injEq,Prod.mk.injEq]at hh
   rw[<-hh.1];exact hn
  | lst l=>
   simp only at hh
   cases hd with
   | false=>simp at hh
   | true=>
    simp only[if_true,Option.some.injEq,Prod.mk.injEq]at hh
    rw[<-hh.1];exact hn
  | clo v i=>simp at hh
def kz (ks:List B8):Nat:=(ks.map fun k=>k.length+1).sum
theorem FD {nu:Nat->Nu} {hd:Bool}:∀(ks:List B8) (j:Nat) {T T' t:Tb} {h h':List Hop},atT T h=some t->NeL (shT 1 T)->BJ nu hd j T h ks=some (T',h')->lvV (Ae T)<=lvV (Ae T)->
  Way T T' h h' ks.length (kz ks) (∀k,k∈ks->U8 k/\k.length<=1024)/\NeL (shT 1 T')
 | [],j,T,T',t,h,h',hA,hn,hh,_=>by
  unfold BJ at hh
  cases hh
  exact⟨⟨⟨t,hA⟩,by omega,by omega,Nat.le_refl _,by omega,fun _ h=>h,fun h=>h,rfl⟩,hn⟩
 | k::ks,j,T,T',t,h,h',hA,hn,hh,_=>by
  unfold BJ at hh
  cases h1:DD (nu j) hd T h k with
  | none=>rw[h1]at hh;cases hh
  | some p=>
   obtain⟨T1,h1'⟩:=p
   rw[h1]at hh
   have w1:=OP hA (fun eb l=>PX hA hn) h1
   obtain⟨t1,hA1⟩:=w1.at_
   obtain⟨w2,n2⟩:=FD ks (j+1) hA1 (Ru hA h1 hn) hh (Nat.le_refl _)
   have a1:=w1.cnt
   have a2:=w2.cnt
   have a3:=w1.sz
   have a4:=w2.sz
   have a5:=w1.dp
   have a6:=w2.dp
   have a7:=w1.lv
   have a8:=w2.lv
   refine⟨⟨w2.at_,by rw[List.length_cons];omega,by unfold kz at a4⊢;simp only[List.map_cons,List.sum_cons];omega,by omega,by omega,fun g hv=>?_,fun h=>w2.nd (w1.nd h),w2.bx.trans w1.bx⟩,n2⟩
   exact w2.va (fun k' hk'=>g k' (.tail _ hk')) (w1.va (g k (.head _)) hv)
end Go.TVF
end
section
namespace Go.TVF
open Go.IntKind(i64 u8)
mutual
theorem RE:∀v:Vl,KY v=lvV v
 | .mk s l f=>by unfold KY lvV;rw[Sz l,SA f]
theorem Sz:∀l:List Vl,Dz l=FB l
 | []=>by unfold Dz FB;rfl
 | v::r=>by unfold Dz FB;rw[RE v,Sz r]
theorem depd_lv:∀d:Fd,Tq d=lvD d
 | .mk k v=>by unfold Tq lvD;exact RE v
theorem SA:∀l:List Fd,Jk l=Fe l
 | []=>by unfold Jk Fe;rfl
 | d::r=>by unfold Jk Fe;rw[depd_lv d,SA r]
end
theorem Du {v:Vl}:AY v=0↔AZ v/\lvV v<=48/\v.cnt<=65536:=
 ⟨fun h=>⟨Ld h,O0 v 1 0 h,Dv h⟩,fun h=>U1 h.1 h.2.1 h.2.2⟩
theorem SE {t:Tb} {k:B8} {eb:Nat} {e x:En} (hl:Ag k t.es=some (eb,e)):Chg (Ae t) (Ae (B6 t k x)) (AA e) (AA x) 1:=by
 obtain⟨F,G,h1,h2⟩:=CD hl
 unfold B6
 rw[B1 t,Ae,h1,h2]
 exact Chg.fld F G k _ _
structure Vf (T T':Tb) (n z d:Nat) (good:Prop):Prop where
 cnt:(Ae T').cnt<=(Ae T).cnt+n
 sz:(Ae T').sz<=(Ae T).sz+z
 lv:lvV (Ae T')<=max (lvV (Ae T)) d
 va:good->AZ (Ae T)->AZ (Ae T')
 nd:NdL (shT 1 T)->NdL (shT 1 T')
 ne:NeL (shT 1 T)->NeL (shT 1 T')
theorem OV {T t:Tb} {h:List Hop} {k:B8} {eb:Nat} {e:En} (hA:atT T h=some t) (hl:Ag k t.es=none) (hn:NdL (Bb (1+dpH h) e)) (hne:∀bs,shE e= .lst bs->bs≠ []) (hne2:NeL (Bb (1+dpH h) e)):
  Vf T (Ax T h (AS t k eb e)) (AA e).cnt (k.length+(AA e).sz) (dpH h+1+lvV (AA e)) (U8 k/\k.length<=1024/\AZ (AA e)):=by
 have c:=DV h hA (AS t k eb e)
 have c1:=c.cnt
 have c2:=c.sz
 have c3:=c.lv
 have c4:=c.lvu
 rw[LH]at c1
 rw[QZ]at c2
 rw[Ro]at c3
 exact⟨by omega,by omega,by omega,fun g hv=>c.va hv (Nz (c.vu hv) hl g.1 g.2.1 g.2.2),fun h=>Uf hA hl h hn,fun h=>Ud hA h hne hne2⟩
theorem Sw {T t:Tb} {h:List Hop} {k:B8} {eb:Nat} {e x:En} (hA:atT T h=some t) (hl:Ag k t.es=some (eb,e)) {n:Nat} (hc:(AA x).cnt=(AA e).cnt+n) (hz:(AA x).sz=(AA e).sz+n) (hlv:lvV (AA x)<=max (lvV (AA e)) 2) (hv:AZ (AA e)->AZ (AA x))
  (hn:NdL (Bb (1+dpH h) e)->NdL (Bb (1+dpH h) x)) (hne:∀bs,shE x= .lst bs->bs≠ []) (hne2:NeL (Bb (1+dpH h) e)->NeL (Bb (1+dpH h) x)):
  Vf T (Ax T h (B6 t k x)) n n (dpH h+3) True:=by
 have c:=(DV h hA (B6 t k x)).trans (SE (x:=x) hl)
 have c1:=c.cnt
 have c2:=c.sz
 have c3:=c.lv
 have c4:=c.lvu
 exact⟨by omega,by omega,by omega,fun _ h=>c.va h (hv (c.vu h)),fun h=>nd_chg hA hl h hn,fun h=>ne_chg hA hl h hne hne2⟩
theorem H7 (u:Tb):Ae (BT u)=Ae u:=by cases u;unfold BT;rw[Ae,Ae]
theorem Sd (l:List Tb) (u:Tb):AA (.lst (l++[u]))= .mk scL (A1 l++[Ae u]) []:=by
 rw[AA,AU,AU,List.map_append];rfl
theorem Ny {l:List Vl} (h:Cv l):AZ (.mk scL l []):=by
 unfold AZ Cw
 exact⟨⟨⟨by decide,by decide,fun _=>rfl,fun _=>⟨rfl,rfl,rfl⟩,fun _=>⟨rfl,rfl,rfl,rfl⟩,fun _=>rfl,fun _=>rfl,fun h=>absurd rfl h,fun _=>rfl⟩,by show D5 false [] 0;decide,fun h=>absurd h (by decide),by show DM []=0;exact B7 [] (by simp[ul]),by decide,by decide,rfl⟩,h,trivial⟩
theorem LU {l:List Vl}:Cv l↔∀x,x∈l->AZ x:=by
 induction l with
 | nil=>unfold Cv;simp
 | cons x r ih=>unfold Cv;rw[ih];simp
theorem PB (d:Nat) (u:Tb):shT d (BT u)=⟨u.b,u.m,true,d,u.es.map shK⟩::B2 d u.es:=by cases u;rfl
theorem Io {nu:Nu} {a:Asg} {i:Nat} {T T':Tb} {h cur cur':List Hop} {k:B8} (hn:NeL (shT 1 T)) (hh:Cc nu a i T h cur k= .ok (T',cur')):
  Vf T T' (2+a.val.cnt) (k.length+2+a.val.sz) (dpH h+3+(if a.elem=true∨a.tab=true then 0 else lvV a.val-2)) (U8 k/\k.length<=1024/\(a.elem=false->a.tab=false->AZ a.val))/\
   (a.elem=false->a.tab=false->(AZ (Ae T')->AZ a.val)/\(Ae T').cnt=(Ae T).cnt+a.val.cnt/\dpH h+1+lvV a.val<=lvV (Ae T')/\lvV (Ae T')<=max (lvV (Ae T)) (dpH h+1+lvV a.val)):=by
 unfold Cc at hh
 have mono:∀{n z d n' z' d':Nat} {g g':Prop},Vf T T' n z d g->n<=n'->z<=z'->d<=d'->(g'->g)->Vf T T' n' z' d' g':=fun f h1 h2 h3 h4=>
  ⟨Nat.le_trans f.cnt (by omega),Nat.le_trans f.sz (by omega),by have:=f.lv;omega,fun g=>f.va (h4 g),f.nd,f.ne⟩
 cases hA:atT T h with
 | none=>rw[hA]at hh;cases hh
 | some t=>
 rw[hA]at hh
 simp only at hh
 cases he:a.elem with
 | true=>
  rw[if_pos (by rw[he])]at hh
  refine⟨?_,fun h=>by cases h⟩
  rcases hl:Ag k t.es with _ | ⟨eb,u | l | ⟨v,j⟩⟩<;>rw[hl]at hh<;>simp only[Except.ok.injEq,Prod.mk.injEq,reduceCtorEq]at hh
  ·obtain⟨rfl,rfl⟩:=hh
   have e1:AA (.lst [AB nu false])= .mk scL [Ae (AB nu false)] []:=by rw[AA,A1,A1]
   have e2:(AA (.lst [AB nu false])).cnt=2:=by rw[e1,AB,Ae,AD];simp[Vl.cnt,AF,AI]
   have e3:(AA (.lst [AB nu false])).sz=2:=by rw[e1,AB,Ae,AD];simp[Vl.sz,BB,Bv,scL,scM]
   have e4:lvV (AA (.lst [AB nu false]))=2:=by rw[e1,AB,Ae,AD];simp[lvV,FB,Fe]
   have f:=OV (eb:=nu.eb) (e:= .lst [AB nu false]) hA hl (by rw[Bb,D6,D6,List.append_nil];exact G9 _ _ _) (fun bs h=>by cases h;simp) (by rw[Bb,D6,D6,List.append_nil];exact G8 _ _ _)
   rw[e2,e3,e4]at f
   refine mono f (by omega) (by omega) (by simp) fun g=>⟨g.1,g.2.1,?_⟩
   rw[e1]
   refine Ny (LU.2 fun x hx=>?_)
   rw[List.mem_singleton.1 hx];exact DT _ _
  ·obtain⟨rfl,rfl⟩:=hh
   have e1:=Sd l (AB nu false)
   have e0:AA (.lst l)= .mk scL (A1 l) []:=by rw[AA]
   have f:=Sw (x:= .lst (l++[AB nu false])) (n:=1) hA hl ?_ ?_ ?_ ?_ ?_ ?_ ?_
   ·exact mono f (by omega) (by omega) (by simp) fun _=>trivial
   ·rw[e1,e0];simp only[Vl.cnt,Ei,AF,AB,Ae,AD,AI];omega
   ·rw[e1,e0];simp only[Vl.sz,JL,BB,AB,Ae,AD,Bv,scL,scM,List.length_nil];omega
   ·rw[e1,e0];simp only[lvV,Ml,FB,AB,Ae,AD,Fe];omega
   ·rw[e1,e0]
    intro hv
    unfold AZ at hv
    exact Ny ((G0 _ _).2 ⟨hv.2.1,LU.2 fun x hx=>by rw[List.mem_singleton.1 hx];exact DT _ _⟩)
   ·intro h1
    rw[Bb]at h1⊢
    rw[JT,D6,D6,List.append_nil]
    exact NdL.app.2 ⟨h1,G9 _ _ _⟩
   ·intro bs h1;cases h1;simp
   ·intro h1
    rw[Bb]at h1⊢
    rw[JT,D6,D6,List.append_nil]
    exact NeL.app.2 ⟨h1,G8 _ _ _⟩
 | false=>
  rw[if_neg (by rw[he];simp)]at hh
  cases ht:a.tab with
  | true=>
   rw[if_pos (by rw[ht])]at hh
   refine⟨?_,fun _ h=>by cases h⟩
   rcases hl:Ag k t.es with _ | ⟨eb,u | l | ⟨v,j⟩⟩<;>rw[hl]at hh<;>simp only[Except.ok.injEq,Prod.mk.injEq,reduceCtorEq]at hh
   ·obtain⟨rfl,rfl⟩:=hh
    have f:=OV (eb:=nu.eb) (e:= .opn (AB nu true)) hA hl (by rw[Bb];exact G9 _ _ _) (fun bs h=>by cases h) (by rw[Bb];exact G8 _ _ _)
    rw[EM,AA,Lo,LB]at f
    exact mono f (by omega) (by omega) (by omega) fun g=>⟨g.1,g.2.1,DT _ _⟩
   ·split at hh
    ·cases hh
    ·simp only[Except.ok.injEq,Prod.mk.injEq]at hh
     obtain⟨rfl,rfl⟩:=hh
     have f:=Sw (x:= .opn (BT u)) (n:=0) hA hl ?_ ?_ ?_ ?_ ?_ ?_ ?_
     ·exact mono f (by omega) (by omega) (by simp) fun _=>trivial
     ·rw[AA,AA,H7];rfl
     ·rw[AA,AA,H7];rfl
     ·rw[AA,AA,H7];omega
     ·rw[AA,AA,H7];exact id
     ·rw[Bb,Bb]
      intro h1 s hs
      rw[PB]at hs
      rw[E0]at h1
      rcases List.mem_cons.1 hs with rfl | hs
      ·exact h1 ⟨u.b,u.m,u.hd,1+dpH h+1,u.es.map shK⟩ (.head _)
      ·exact h1 s (.tail _ hs)
     ·intro bs h;cases h
     ·rw[Bb,Bb]
      intro h1 s hs
      rw[PB]at hs
      rw[E0]at h1
      rcases List.mem_cons.1 hs with rfl | hs
      ·exact h1 ⟨u.b,u.m,u.hd,1+dpH h+1,u.es.map shK⟩ (.head _)
      ·exact h1 s (.tail _ hs)
  | false=>
   rw[if_neg (by rw[ht];simp)]at hh
   rcases hl:Ag k t.es with _ | ⟨eb,e⟩<;>rw[hl]at hh<;>simp only[Except.ok.injEq,Prod.mk.injEq,reduceCtorEq]at hh
   obtain⟨rfl,rfl⟩:=hh
   have f:=OV (eb:=nu.eb) (e:= .clo a.val i) hA hl (by rw[Bb];intro s hs;cases hs) (fun bs h=>by cases h) (by rw[Bb];intro s hs;cases hs)
   have e1:AA (.clo a.val i)=a.val:=by rw[AA]
   rw[e1]at f
   refine⟨mono f (by omega) (by omega) (by simp;omega) fun g=>⟨g.1,g.2.1,g.2.2 rfl rfl⟩,fun _ _=>⟨fun hv=>?_,?_,?_,f.lv⟩⟩
   ·have:=(DV h hA (AS t k nu.eb (.clo a.val i)))
    have hv2:AZ (Ae (AS t k nu.eb (.clo a.val i))):=by
     have c:=DV h (DW h (x:=AS t k nu.eb (.clo a.val i)) hA) (AS t k nu.eb (.clo a.val i))
     exact c.vu hv
    rw[JO]at hv2
    unfold AZ at hv2
    have:=((Fv _ _).1 hv2.2.2).2
    unfold Cw Hp at this
    rw[<-e1];exact this.1
   ·have c:=(DV h hA (AS t k nu.eb (.clo a.val i))).cnt
    rw[LH,e1]at c
    omega
   ·have c:=(DV h (DW h (x:=AS t k nu.eb (.clo a.val i)) hA) (AS t k nu.eb (.clo a.val i))).lvu
    rw[Ro,e1]at c
    omega
theorem RS {T u t x:Tb} {g r:List Hop} (hg:atT T g=some u) (hA:atT T (g++r)=some t) (hx:x.b=t.b):∃u',atT (Ax T (g++r) x) g=some u'/\u'.b=u.b:=by
 refine⟨Ax u r x,?_,FW r (T:=u) (t:=t) (by rw[IV,hg]at hA;exact hA) hx⟩
 rw[Ls g r hg,DW g hg]
theorem hop_pre {nu:Nu} {hd:Bool} {T T' u t:Tb} {g r h':List Hop} {k:B8} (hg:atT T g=some u) (hA:atT T (g++r)=some t) (hne:NeL (shT 1 T)) (hh:DD nu hd T (g++r) k=some (T',h')):
  ∃r' u' t',h'=g++r'/\atT T' g=some u'/\u'.b=u.b/\atT T' h'=some t':=by
 have w:=OP hA (fun eb l=>PX hA hne) hh
 obtain⟨t',ht'⟩:=w.at_
 unfold DD at hh
 rw[hA]at hh
 simp only at hh
 rcases hl:Ag k t.es with _ | ⟨eb,e⟩
 ·rw[hl]at hh
  simp only[Option.some.injEq,Prod.mk.injEq]at hh
  obtain⟨rfl,rfl⟩:=hh
  obtain⟨u',h1,h2⟩:=RS (x:=AS t k nu.eb (.opn (AB nu false))) hg hA rfl
  exact⟨r++[(k,none)],u',t',by rw[List.append_assoc],h1,h2,ht'⟩
 ·rw[hl]at hh
  cases e with
  | opn w=>
   simp only[Option.some.injEq,Prod.mk.injEq]at hh
   obtain⟨rfl,rfl⟩:=hh
   exact⟨r++[(k,none)],u,t',by rw[List.append_assoc],hg,rfl,ht'⟩
  | lst l=>
   simp only at hh
   cases hd with
   | false=>simp at hh
   | true=>
    simp only[if_true,Option.some.injEq,Prod.mk.injEq]at hh
    obtain⟨rfl,rfl⟩:=hh
    exact⟨r++[(k,some (l.length-1))],u,t',by rw[List.append_assoc],hg,rfl,ht'⟩
  | clo v i=>simp at hh
theorem Mw {nu:Nat->Nu} {hd:Bool}:∀(ks:List B8) (j:Nat) {T T' u t:Tb} {g r h':List Hop},atT T g=some u->atT T (g++r)=some t->NeL (shT 1 T)->BJ nu hd j T (g++r) ks=some (T',h')->
  ∃r' u',h'=g++r'/\atT T' g=some u'/\u'.b=u.b
 | [],j,T,T',u,t,g,r,h',hg,hA,hn,hh=>by
  unfold BJ at hh
  cases hh
  exact⟨r,u,rfl,hg,rfl⟩
 | k::ks,j,T,T',u,t,g,r,h',hg,hA,hn,hh=>by
  unfold BJ at hh
  cases h1:DD (nu j) hd T (g++r) k with
  | none=>rw[h1]at hh;cases hh
  | some p=>
   obtain⟨T1,h1'⟩:=p
   rw[h1]at hh
   obtain⟨r1,u1,t1,e1,e2,e3,e4⟩:=hop_pre hg hA hn h1
   subst e1
   obtain⟨r2,u2,e5,e6,e7⟩:=Mw ks (j+1) e2 e4 (Ru hA h1 hn) hh
   exact⟨r2,u2,e5,e6,e7.trans e3⟩
end Go.TVF
end
namespace Go.TVF
open Go.IntKind(i64 u8)
open Go Go.Proofs
theorem R6:VlR St.zero vlO z13:=by
 unfold vlO VlR
 refine⟨.nilSlice,.nilSlice,.nilSlice,[],[],rfl,.of_rd (.inl ⟨rfl,rfl,rfl⟩),.of_rd (.inl ⟨rfl,rfl,rfl⟩),by unfold VsR;rfl,.of_rd (.inl ⟨rfl,rfl,rfl⟩),by unfold FsR;rfl⟩
theorem ent13 {σ:Nat->TV} {st:St} {eb:Nat} {e:En} (h:Ln σ st eb (shE e)) (hlt:eb<st.nb) {f:Fun [.int .i64,.bool,.bool,.str,.int .i64,.int .i64,.int .i64,.int .i64,.int .i64,.str,.tv,.tv,.tv] Prop}
  (hf:∀s ub ul uf,(∀v i,e= .clo v i->VlR St.zero v (Aq s ub ul uf))->List.all (Aq s ub ul uf) Ah=true->f s.kind s.b s.neg s.dg s.ex s.tk s.td s.tn s.tz s.text ub ul uf):
  Ai ((Al st [] (.t (.box eb 2)) 0 13).map TV.agg) fun x=>BG [.int .i64,.bool,.bool,.str,.int .i64,.int .i64,.int .i64,.int .i64,.int .i64,.str,.tv,.tv,.tv] x f:=by
 obtain⟨a,b,cs,x,v,h1,h2,h3,h4⟩:∃a b cs x v,st.box eb= .cells (a::b::(cs++[x]))/\cs.length=13/\VlR St.zero v cs/\∀w i,e= .clo w i->w=v:=by
  cases e with
  | opn u=>exact⟨_,_,z13,_,vlO,h.1,rfl,R6,fun w i h=>by cases h⟩
  | lst l=>exact⟨_,_,z13,_,vlO,h.2.2,rfl,R6,fun w i h=>by cases h⟩
  | clo v i=>
   obtain⟨cs,q1,q2,q3,_⟩:=h
   exact⟨_,_,cs,_,v,q3,q2,q1,fun w j h=>by cases h;rfl⟩
 have hS:SlR st 13 (.ms 13 eb 2 1 1) 1 cs:= .inr ⟨eb,2,1,_,rfl,hlt,h1,by simp[h2],Nat.le_refl _,by
  show cs=((a::b::(cs++[x])).drop 2).take 13
  show cs=(cs++[x]).take 13
  rw[<-h2,List.take_left'];rfl⟩
 have:=hS.ldc (i:=0) (by omega) (by omega)
 simp only[ixT,Nat.zero_mul,Nat.add_zero,List.drop_zero]at this
 rw[this]
 have ht:cs.take 13=cs:=List.take_of_length_le (by omega)
 rw[ht]
 obtain⟨s,l,g⟩:=v
 have h30:=h3
 obtain⟨ub,ul,uf,xl,xf,rfl,w1,w2,_,w4,_⟩:=h3.cells
 exact Ad rfl (Hk (hf s ub ul uf (fun w i e=>by rw[h4 w i e];exact h30) (Bi w1.one w2.one w4.one)))
theorem take_kn {es:List Kn} {j:Nat} {k:B8} {eb:Nat} {e:En} (hj:es[j]? =some (.mk k eb e)):AD (es.take (j+1))=AD (es.take j)++[.mk k (AA e)]:=by
 rw[Dq hj,Ks,AD,AD]
theorem take_tb {l:List Tb} {i:Nat} {u:Tb} (hi:l[i]? =some u):A1 (l.take (i+1))=A1 (l.take i)++[Ae u]:=by
 rw[Dq hi,AU,AU,List.map_append];rfl
theorem K0:∀(N:Nat) (t:Tb) (d:Nat),(Ae t).cnt<=N->N<=900000->∀{σ:Nat->TV} {st:St} {bb:Nat} {K:Int->Bool->Bool->B8->Int->Int->Int->Int->Int->B8->TV->TV->TV->St->Prop},(∀s,s∈shT d t->MT σ st s)->NdL (shT d t)->(∀x,x∈bxL (shT d t)->x<st.nb)->
  (∀uf st',VlR St.zero (Ae t) (Aq scM .nilSlice .nilSlice uf)->Ah uf=true->Aj st st'->K 7 false false [] 0 0 0 0 0 [] .nilSlice .nilSlice uf st')->
  CallT PR Ao [.box bb 0,.box t.b 0] [.agg [.int .i64,.bool,.bool,.str,.int .i64,.int .i64,.int .i64,.int .i64,.int .i64,.str,.tv,.tv,.tv]] st K:=by
 intro N
 induction N with
 | zero=>
   intro t d h
   have:1<=(Ae t).cnt:=by cases Ae t;unfold Vl.cnt;omega
   omega
 | succ N ih=>
 intro t d hN hN2 σ st bb K hs hnd hx hk
 rw[E0]at hnd
 have htm:(⟨t.b,t.m,t.hd,d,t.es.map shK⟩:Sh)∈shT d t:=by rw[E0];exact .head _
 have hS:=hs _ htm
 have hrow:Dw (σ t.b) ((t.es.map Kn.key).map TV.str):=by have:=hS.row;simp only[JU]at this;exact this
 have hndk:(t.es.map Kn.key).Nodup:=by have:=(NdL.cons.1 hnd).1;simp only[JU]at this;exact this
 have hcnt:(Ae t).cnt=1+AI (AD t.es):=by rw[B1];simp only[Vl.cnt,AF]
 have hlen:t.es.length<=900000:=by have:=ON t;omega
 have hc0:st.box t.b= .cells [σ t.b,.map t.m,.int .i64 (d:Int)]:=hS.cell
 refine Gd bb t.b st K (Ad (x:=σ t.b) (by simp only[Ac,hc0];rfl) (Aa hrow.sl ?_))
 rw[hrow.len,List.length_map,List.length_map]
 refine⟨fun n_1 b_1 t_1 v_1 n_2 _ _ _ _ _ _ _ _ _ _ _ _ _ n7 b3 b4 s3 n8 n9 n10 n11 n12 s4 v5 v6 v7 st1=>b_1= .box bb 0/\t_1= .box t.b 0/\v_1=σ t.b/\n_2=(t.es.length:Int)/\n7=7/\b3=false/\b4=false/\s3=[]/\n8=0/\n9=0/\n10=0/\n11=0/\n12=0/\s4=[]/\v5= .nilSlice/\v6= .nilSlice/\
   ∃(j:Nat) (xs:List TV),n_1=(j:Int)/\j<=t.es.length/\Aj st st1/\Own st.nt 14 st1 v7 j xs/\FsR St.zero (AD (t.es.take j)) xs,
  fun n_1 _ _ _ _ _ _ _ _ _ _ _ _ _ _ _ _ _ _ _ _ _ _ _ _ _ _ _ _ _ _ _=>t.es.length-n_1.toNat,
  ⟨rfl,rfl,rfl,rfl,rfl,rfl,rfl,rfl,rfl,rfl,rfl,rfl,rfl,rfl,rfl,rfl,0,[],rfl,Nat.zero_le _,Aj.refl _,Own.nil _ _ _,by simp only[List.take_zero,AD];unfold FsR;rfl⟩,?_⟩
 rintro n_1 _ _ _ _ n1 b1 b2 s1 n2 n3 n4 n5 n6 s2 v2 v3 v4 _ _ _ _ _ _ _ _ _ _ _ _ v7 st1 ⟨rfl,rfl,rfl,rfl,rfl,rfl,rfl,rfl,rfl,rfl,rfl,rfl,rfl,rfl,rfl,rfl,j,xs,rfl,hj,e1,ho,hf⟩
 have hs1:∀s,s∈shT d t->MT σ st1 s:=fun s hs'=>(hs s hs').fr fun x hx'=>⟨e1.box x (hx x (Bj hs' hx')),rfl⟩
 refine Ab (fun g=>?_) fun g=>?_
 ·have hlt:j<t.es.length:=by omega
  have hwj:IntKind.wrap .i64 ((j:Int)+1)=((j+1:Nat):Int):=by rw[Am _ (by omega) (by omega)];simp
  obtain⟨k,eb,e,hkn⟩:∃k eb e,t.es[j]? =some (.mk k eb e):=by
   rw[List.getElem?_eq_getElem hlt]
   cases t.es[j]with
   | mk k eb e=>exact⟨k,eb,e,rfl⟩
  have hl:=PZ hndk hkn
  have hent0:(k,eb,shE e)∈t.es.map shK:=List.mem_map.2 ⟨.mk k eb e,List.mem_of_getElem? hkn,rfl⟩
  have hent:Ln σ st1 eb (shE e):=(hs1 _ htm).en _ hent0
  have heb:eb<st1.nb:=Nat.lt_of_lt_of_le (hx _ (Bj htm (Fc (s:=⟨t.b,t.m,t.hd,d,t.es.map shK⟩) (x:=(k,eb,shE e)) hent0))) e1.nb
  have hec:=cnt_kn hkn
  rw[hwj]
  refine⟨⟨by omega,by rw[hrow.lenZ,List.length_map,List.length_map];omega⟩,?_⟩
  rw[Int.toNat_natCast]
  refine hrow.get (x:= .str k) (by rw[List.getElem?_map,List.getElem?_map,hkn];rfl) (Ct ?_)
  have hc1:st1.box t.b= .cells [σ t.b,.map t.m,.int .i64 (d:Int)]:=(hs1 _ htm).cell
  obtain⟨mp,hm1,hm2⟩:=(hs1 _ htm).mp
  have hm1':st1.box t.m= .map mp:=hm1
  have hfm:Av k mp=some (.box eb 0):=by
   rw[hm2 k,GI,hl];rfl
  refine Aa rfl (Aa rfl (Ad (x:= .map t.m) (by simp only[At,Ac,hc1];rfl) (Ad (x:=mp) (by simp only[ED,hm1']) ?_)))
  rw[hfm]
  refine Aa rfl (Aa rfl (ent13 hent heb fun sc ub ul uf hclo hone=>Aa hone (Aa rfl (Aa rfl ?_))))
  have fin:∀{v:Vl} {sc:Sc} {ub ul uf:TV} {st2:St},AA e=v->VlR St.zero v (Aq sc ub ul uf)->Aj st1 st2->∀{K':TV->St->Prop},(∀v17 st3,Ah v17=true->Aj st st3->Own st.nt 14 st3 v17 (j+1) (xs++ .str k::Aq sc ub ul uf)->FsR St.zero (AD (t.es.take (j+1))) (xs++ .str k::Aq sc ub ul uf)->K' v17 st3)->
    Cl 65 14 184 v7 1 (.str k::Aq sc ub ul uf) st2 K':=fun {v sc ub ul uf st2} hv hvr e2 K' hk'=>by
   refine CM (e1.trans e2) rfl (ho.ext e2) (by omega) (fun h=>by cases h) fun v9 st3 e3 _ ho3=>hk' v9 st3 ho3.rd.one e3 ho3 ?_
   rw[take_kn hkn,hv]
   refine FsR.snoc hf ?_
   unfold FdR
   exact⟨_,rfl,hvr⟩
  cases e with
  | opn u=>
   have he0:st1.box eb= .cells (.box u.b 0:: .nilSlice::(z13++[.int .i64 0])):=hent.1
   refine Ad (x:= .box u.b 0) (by simp only[Ar,At,Ac,he0];rfl) (Aa rfl (As (fun _=>?_) fun h=>by cases h))
   refine Aa rfl (Aa rfl (Ad (x:= .box u.b 0) (by simp only[Ar,At,Ac,he0];rfl) ?_))
   have sub:∀s,s∈shT (d+1) u->s∈B2 d t.es:=fun s hs'=>L6 hkn s (by rw[Bb];exact hs')
   have subT:∀s,s∈shT (d+1) u->s∈shT d t:=fun s hs'=>by rw[E0];exact .tail _ (sub s hs')
   refine ih u (d+1) (by rw[AA]at hec;omega) (by omega) (fun s hs'=>hs1 s (subT s hs')) (fun s hs'=>(NdL.cons.1 hnd).2 s (sub s hs')) (fun x hx'=>?_) fun uf' st2 hv2 o2 e2=>Aa (Bi rfl rfl o2) (Aa (show(true&&_)=true from by rw[Bool.true_and];exact Bi rfl rfl o2) ?_)
   ·obtain⟨s,hs',hxs⟩:=List.mem_flatMap.1 hx'
    exact Nat.lt_of_lt_of_le (hx x (Bj (subT s hs') hxs)) e1.nb
   ·exact fin (v:=Ae u) (by rw[AA]) hv2 e2 fun v17 st3 a1 a2 a3 a4=>Aa (by simp[a1]) ⟨⟨rfl,rfl,rfl,rfl,rfl,rfl,rfl,rfl,rfl,rfl,rfl,rfl,rfl,rfl,rfl,rfl,j+1,_,rfl,hlt,a2,a3,a4⟩,by simp only[Int.toNat_natCast];omega⟩
  | lst l=>
   obtain⟨g1,gne,he0⟩:=hent
   have glen:(σ eb |> lenS)=l.length:=by show lenS (σ eb)=_;rw[g1.len,List.length_map,List.length_map]
   have glz:lenZ 1 (σ eb)=l.length:=by rw[g1.lenZ,List.length_map,List.length_map]
   have hle:=OM l
   have hec2:1+AF (A1 l)<=AI (AD t.es):=by rw[AA]at hec;simp only[Vl.cnt,AI]at hec;omega
   have hl0:0<l.length:=List.length_pos_iff.2 fun e=>gne (by rw[e];rfl)
   refine Ad (x:= .nilPtr) (by simp only[Ar,At,Ac,he0];rfl) (Aa rfl (As (fun h=>by cases h) fun _=>?_))
   refine Aa rfl (Aa rfl (Ad (x:=σ eb) (by simp only[Ar,At,Ac,he0];rfl) (Aa g1.sl (Ab (fun _=>?_) fun h=>absurd (by omega) h))))
   refine Aa rfl (Aa rfl (Ad (x:=σ eb) (by simp only[Ar,At,Ac,he0];rfl) (Aa g1.sl ?_)))
   refine⟨fun n_3 b_2 t_2 k_1 v_2 n_4 n_5 v_3 n_6 _ _ _ _ _ _ _ _ _ _ _ _ _ m7 c3 c4 r3 m8 m9 m10 m11 m12 r4 w5 w6 w7 x7 y3 y4 z3 x8 x9 x10 x11 x12 z4 w8 w9 w10 st4=>
     b_2= .box bb 0/\t_2= .box t.b 0/\k_1=k/\v_2=σ t.b/\n_4=(t.es.length:Int)/\n_5=(j:Int)/\v_3=σ eb/\n_6=(l.length:Int)/\m7=7/\c3=false/\c4=false/\r3=[]/\m8=0/\m9=0/\m10=0/\m11=0/\m12=0/\r4=[]/\w5= .nilSlice/\w6= .nilSlice/\w7=v7/\
     x7=6/\y3=false/\y4=false/\z3=[]/\x8=0/\x9=0/\x10=0/\x11=0/\x12=0/\z4=[]/\w8= .nilSlice/\w10= .nilSlice/\∃(i:Nat) (ys:List TV),n_3=(i:Int)/\i<=l.length/\Aj st1 st4/\Own st1.nt 13 st4 w9 i ys/\VsR St.zero (A1 (l.take i)) ys,
    fun n_3 _ _ _ _ _ _ _ _ _ _ _ _ _ _ _ _ _ _ _ _ _ _ _ _ _ _ _ _ _ _ _ _ _ _ _ _ _ _ _ _ _ _ _ _ _ _ _ _=>l.length-n_3.toNat,
    ⟨rfl,rfl,rfl,rfl,rfl,rfl,rfl,by rw[show lenS (σ eb)=l.length from glen],rfl,rfl,rfl,rfl,rfl,rfl,rfl,rfl,rfl,rfl,rfl,rfl,rfl,rfl,rfl,rfl,rfl,rfl,rfl,rfl,rfl,rfl,rfl,rfl,rfl,0,[],rfl,Nat.zero_le _,Aj.refl _,Own.nil _ _ _,by simp only[List.take_zero,A1];unfold VsR;rfl⟩,?_⟩
   rintro n_3 _ _ _ _ _ _ _ _ q1 q2 q3 q4 q5 q6 q7 q8 q9 q10 q11 q12 q13 _ _ _ _ _ _ _ _ _ _ _ _ _ _ _ _ _ _ _ _ _ _ _ _ w9 _ st4 ⟨rfl,rfl,rfl,rfl,rfl,rfl,rfl,rfl,rfl,rfl,rfl,rfl,rfl,rfl,rfl,rfl,rfl,rfl,rfl,rfl,rfl,rfl,rfl,rfl,rfl,rfl,rfl,rfl,rfl,rfl,rfl,rfl,rfl,i,ys,rfl,hi,e4,ho4,hv4⟩
   refine Ab (fun g2=>?_) fun g2=>?_
   ·have hil:i<l.length:=by omega
    obtain⟨u,hu⟩:∃u,l[i]? =some u:=⟨l[i],List.getElem?_eq_getElem hil⟩
    have hwi:IntKind.wrap .i64 ((i:Int)+1)=((i+1:Nat):Int):=by rw[Am _ (by omega) (by omega)];simp
    rw[hwi]
    refine⟨⟨by omega,by rw[glz];omega⟩,?_⟩
    rw[Int.toNat_natCast]
    refine g1.get (x:= .box u.b 0) (by rw[List.getElem?_map,List.getElem?_map,hu];rfl) ?_
    have huc:=UV hu
    have sub:∀s,s∈shT (d+2) u->s∈B2 d t.es:=fun s hs'=>L6 hkn s (by rw[Bb];exact PD hu s hs')
    have subT:∀s,s∈shT (d+2) u->s∈shT d t:=fun s hs'=>by rw[E0];exact .tail _ (sub s hs')
    refine ih u (d+2) (by omega) (by omega) (fun s hs'=>(hs1 s (subT s hs')).fr fun x hx'=>⟨e4.box x (Nat.lt_of_lt_of_le (hx x (Bj (subT s hs') hx')) e1.nb),rfl⟩) (fun s hs'=>(NdL.cons.1 hnd).2 s (sub s hs')) (fun x hx'=>?_) fun uf' st5 hv5 o5 e5=>Aa (Bi rfl rfl o5) ?_
    ·obtain⟨s,hs',hxs⟩:=List.mem_flatMap.1 hx'
     exact Nat.lt_of_lt_of_le (hx x (Bj (subT s hs') hxs)) (Nat.le_trans e1.nb e4.nb)
    refine CM (e4.trans e5) rfl (ho4.ext e5) (by omega) (fun h=>by cases h) fun v9 st6 e6 _ ho6=>Aa (by simp[ho6.rd.one]) ?_
    refine⟨⟨rfl,rfl,rfl,rfl,rfl,rfl,rfl,rfl,rfl,rfl,rfl,rfl,rfl,rfl,rfl,rfl,rfl,rfl,rfl,rfl,rfl,rfl,rfl,rfl,rfl,rfl,rfl,rfl,rfl,rfl,rfl,rfl,rfl,i+1,_,rfl,hil,e6,ho6,?_⟩,by simp only[Int.toNat_natCast];omega⟩
    rw[take_tb hu]
    exact VsR.snoc hv4 hv5
   ·have hii:i=l.length:=by omega
    subst hii
    rw[List.take_length]at hv4
    refine Aa (show(true&&_)=true from by rw[Bool.true_and];exact Bi rfl ho4.rd.one rfl) ?_
    have hvl:VlR St.zero (.mk scL (A1 l) []) (Aq scL .nilSlice w9 .nilSlice):=by
     unfold VlR
     exact⟨.nilSlice,w9,.nilSlice,ys,[],rfl,.of_rd (.inl ⟨rfl,rfl,rfl⟩),.of_rd (by rw[show(A1 l).length=l.length by rw[AU,List.length_map]];exact ho4.rd),hv4,.of_rd (.inl ⟨rfl,rfl,rfl⟩),by unfold FsR;rfl⟩
    rw[hwj]
    exact fin (v:= .mk scL (A1 l) []) (by rw[AA]) hvl e4 fun v17 st3 a1 a2 a3 a4=>Aa (by simp[a1]) ⟨⟨rfl,rfl,rfl,rfl,rfl,rfl,rfl,rfl,rfl,rfl,rfl,rfl,rfl,rfl,rfl,rfl,j+1,_,rfl,hlt,a2,a3,a4⟩,by simp only[Int.toNat_natCast];omega⟩
  | clo v i=>
   obtain⟨cs,_,_,he0,_⟩:=hent
   refine Ad (x:= .nilPtr) (by simp only[Ar,At,Ac,he0];rfl) (Aa rfl (As (fun h=>by cases h) fun _=>?_))
   refine Aa rfl (Aa rfl (Ad (x:= .nilSlice) (by simp only[Ar,At,Ac,he0];rfl) (Aa rfl (Ab (fun h=>absurd h (by simp[lenS])) fun _=>?_))))
   refine Aa (show(true&&_)=true from by rw[Bool.true_and];exact hone) ?_
   exact fin (v:=v) (by rw[AA]) (hclo v i rfl) (Aj.refl st1) fun v17 st3 a1 a2 a3 a4=>Aa (by simp[a1]) ⟨⟨rfl,rfl,rfl,rfl,rfl,rfl,rfl,rfl,rfl,rfl,rfl,rfl,rfl,rfl,rfl,rfl,j+1,_,rfl,hlt,a2,a3,a4⟩,by simp only[Int.toNat_natCast];omega⟩
 ·have hjj:j=t.es.length:=by omega
  subst hjj
  rw[List.take_length]at hf
  refine Aa (Bi rfl rfl ho.rd.one) (hk v7 st1 ?_ ho.rd.one e1)
  rw[B1]
  unfold VlR
  exact⟨.nilSlice,.nilSlice,v7,[],xs,rfl,.of_rd (.inl ⟨rfl,rfl,rfl⟩),.of_rd (.inl ⟨rfl,rfl,rfl⟩),by unfold VsR;rfl,.of_rd (by rw[show(AD t.es).length=t.es.length by rw[IA,List.length_map]];exact ho.rd),hf⟩
theorem Nf {st:St} {K:TV->St->Prop} (hk:∀bb ub r m σ st',BH bb ub (.box r 0) (.mk r m false []) 1 σ st'->K (.box bb 0) st'):CallT PR CO [] [.one .tv] st K:=by
 refine Ht st K (Aa rfl ?_)
 generalize hst0:(st.push (.pmap []) none).push (.cells [.nilPtr,.nilPtr,.map st.nb,.int .i64 0]) (some 74)=st0
 have nb0:st0.nb=st.nb+2:=by rw[<-hst0];rfl
 have nb1:(st.push (.pmap []) none).nb=st.nb+1:=rfl
 rw[nb1]
 have bx0:∀x,st0.box x=if x=st.nb+1 then .cells [.nilPtr,.nilPtr,.map st.nb,.int .i64 0]else if x=st.nb then .pmap []else st.box x:=fun x=>by rw[<-hst0];rfl
 refine IT (bb:=st.nb+1) (ub:=st.nb) (d:=1) (r:= .nilPtr) (n:= .nilPtr) (nodes:=0) (up:=[]) (by rw[bx0,if_pos rfl]) (by rw[bx0,if_neg (by omega),if_pos rfl]) (by omega) (by omega) (fun p hp=>by cases hp) ⟨by omega,by omega⟩ fun st1 q1 q2 q3 q4=>Aa rfl ?_
 have hb1:st1.box (st.nb+1)= .cells [.nilPtr,.nilPtr,.map st.nb,.int .i64 (0+1)]:=by rw[q2];simp only;rw[if_pos trivial]
 refine⟨_,hb1,by simp,?_⟩
 generalize hst2:st1.put (st.nb+1) (.cells (setAll [.nilPtr,.nilPtr,.map st.nb,.int .i64 (0+1)] 0 [.box (st0.nb+1) 0]))=st2
 have hb2:st2.box (st.nb+1)= .cells [.box (st0.nb+1) 0,.nilPtr,.map st.nb,.int .i64 (0+1)]:=by rw[<-hst2];simp[St.put,setAll]
 refine Ad (x:= .box (st0.nb+1) 0) (by simp only[Ac,hb2];rfl) (Aa rfl ?_)
 refine⟨_,hb2,by simp,?_⟩
 generalize hst3:st2.put (st.nb+1) (.cells (setAll [.box (st0.nb+1) 0,.nilPtr,.map st.nb,.int .i64 (0+1)] 1 [.box (st0.nb+1) 0]))=st3
 have bx3:∀x,st3.box x=if x=st.nb+1 then .cells [.box (st0.nb+1) 0,.box (st0.nb+1) 0,.map st.nb,.int .i64 1]else st1.box x:=fun x=>by
  rw[<-hst3,<-hst2]
  by_cases h:x=st.nb+1
  ·simp[St.put,setAll,h]
  ·simp[St.put,h]
 have nb3:st3.nb=st.nb+4:=by rw[<-hst3,<-hst2];show st1.nb=_;omega
 have kr:st3.box (st0.nb+1)= .cells [.nilSlice,.map st0.nb,.int .i64 ((1:Nat):Int)]:=by
  rw[bx3,if_neg (by omega),q2];simp only
  rw[if_neg (by omega),if_neg (by omega),if_pos trivial]
 have km:st3.box st0.nb= .map []:=by
  rw[bx3,if_neg (by omega),q2];simp only
  rw[if_neg (by omega),if_neg (by omega),if_neg (by omega),if_pos trivial]
 have ku:st3.box st.nb= .pmap [(st0.nb+1,.bool true)]:=by
  rw[bx3,if_neg (by omega),q2];simp only
  rw[if_neg (by omega),if_pos trivial];rfl
 have eS:shT 1 (.mk (st0.nb+1) st0.nb false [])=[⟨st0.nb+1,st0.nb,false,1,[]⟩]:=by rw[shT,B2];rfl
 have eB:bxL [⟨st0.nb+1,st0.nb,false,1,[]⟩]=[st0.nb+1,st0.nb]:=rfl
 have mm:∀{x},x∈ [st0.nb+1,st0.nb]->x=st0.nb+1∨x=st0.nb:=fun {x} hx=>by
  rcases List.mem_cons.1 hx with h | h
  ·exact .inl h
  ·exact .inr (List.mem_singleton.1 h)
 refine hk (st.nb+1) st.nb (st0.nb+1) st0.nb (fun _=> .nilSlice) st3 ⟨?_,?_,⟨_,ku,by simp,fun p hp=>?_,fun s hs=>?_⟩,by omega,by omega,fun hx=>?_,fun hx=>?_⟩
 ·rw[eS]
  refine⟨by rw[eB];simp,fun x hx=>?_,fun s hs=>?_,(fun x _ id hid=>by cases hid),(fun x _ y _ _ id hid=>by cases hid)⟩
  ·rw[eB]at hx
   rcases mm hx with h | h<;>omega
  ·rw[List.mem_singleton.1 hs]
   exact⟨kr,Dw.nil,⟨[],km,fun _=>rfl⟩,fun x hx=>by cases hx⟩
 ·rw[bx3,if_pos rfl];rfl
 ·rw[List.mem_singleton.1 hp]
  exact⟨by simp[Ap,kr],by show st0.nb+1<st3.nb;omega⟩
 ·rw[eS]at hs
  rw[List.mem_singleton.1 hs]
  simp[BF]
 ·rw[eS,eB]at hx
  rcases mm hx with h | h<;>omega
 ·rw[eS,eB]at hx
  rcases mm hx with h | h<;>omega
theorem BH.ext {bb ub nodes:Nat} {now:TV} {T:Tb} {σ:Nat->TV} {st st':St} (H:BH bb ub now T nodes σ st) (e:Aj st st'):BH bb ub now T nodes σ st':=by
 obtain⟨up,hup⟩:=H.un
 refine⟨H.hp.same e.nb (fun x hx=>e.box x (H.hp.lt x hx)) fun id h1 h2=>⟨Nat.lt_of_lt_of_le h1 e.nt,(e.live id h1).trans h2⟩,(e.box bb H.bl).trans H.cell,⟨up,(e.box ub H.ul).trans hup.box,hup.nd,fun p hp=>?_,hup.fd⟩,Nat.lt_of_lt_of_le H.bl e.nb,Nat.lt_of_lt_of_le H.ul e.nb,H.bx,H.ux⟩
 obtain⟨q1,q2⟩:=hup.ok p hp
 refine⟨?_,Nat.lt_of_lt_of_le q2 e.nb⟩
 simp only[Ap,e.box p.1 q2]at q1⊢
 exact q1
theorem R8 {bb ub nodes:Nat} {now:TV} {T:Tb} {σ:Nat->TV} {st:St} (H:BH bb ub now T nodes σ st) (hN:NdL (shT 1 T)) (hc:(Ae T).cnt<=900000) (hz:(Ae T).sz<=2000000) {K:Int->St->Prop} (hk:∀st',Aj st st'->K (AY (Ae T):Nat) st'):
  Ai (Ac st [] (.t (.box bb 0)) 0) fun v=>CallT PR Ao [.box bb 0,v] [.agg [.int .i64,.bool,.bool,.str,.int .i64,.int .i64,.int .i64,.int .i64,.int .i64,.str,.tv,.tv,.tv]] st
   fun n1 b1 b2 s1 n2 n3 n4 n5 n6 s2 v1 v2 v3 st5=>CallT PR AK [.agg [.int .i64 n1,.bool b1,.bool b2,.str s1,.int .i64 n2,.int .i64 n3,.int .i64 n4,.int .i64 n5,.int .i64 n6,.str s2,v1,v2,v3]] [.one (.int .i64)] st5 fun n st6=>K n st6:=by
 refine Ad (x:= .box T.b 0) (by simp only[Ac,H.cell];rfl) ?_
 refine K0 (Ae T).cnt T 1 (Nat.le_refl _) hc H.hp.sh hN H.hp.lt fun uf st' hv ho e=>?_
 exact QP hz hv (BS st') fun st6 e6=>hk st6 (e.trans e6)
def reK (bb:Nat) (K:Int->St->Prop) (st:St):Prop:=Ai (Ac st [] (.t (.box bb 0)) 0) fun v=>CallT PR Ao [.box bb 0,v] [.agg [.int .i64,.bool,.bool,.str,.int .i64,.int .i64,.int .i64,.int .i64,.int .i64,.str,.tv,.tv,.tv]] st
   fun n1 b1 b2 s1 n2 n3 n4 n5 n6 s2 v1 v2 v3 st5=>CallT PR AK [.agg [.int .i64 n1,.bool b1,.bool b2,.str s1,.int .i64 n2,.int .i64 n3,.int .i64 n4,.int .i64 n5,.int .i64 n6,.str s2,v1,v2,v3]] [.one (.int .i64)] st5 fun n st6=>K n st6
theorem Ou {bb ub:Nat} {now v3:TV} {T:Tb} {σ:Nat->TV} {st:St} {ks:List B8} {D:Int} (H:BH bb ub now T (Ae T).cnt σ st) (hN:NdL (shT 1 T)) (hc:(Ae T).cnt<=900000) (hz:(Ae T).sz<=2000000)
  (hr:Rd 1 v3 ks.length (ks.map TV.str)) (hl:∀k,k∈ks->k.length<=1000000) (hn:ks.length<=1000000) (hg:D<=48->(Ae T).cnt<=65536->(∀k,k∈ks->U8 k/\k.length<=1024)->AY (Ae T)=0)
  {K:Int->St->Prop} (hk:∀st',Aj st st'->K (AY (Ae T):Nat) st'):
  BIf (decide ((48:Int)<D)) (reK bb K st) (Ai (Ac st [] (.t (.box bb 3)) 0) fun x6=>AE (.int .i64) x6 fun n16=>BIf (decide ((65536:Int)<n16)) (reK bb K st)
   (CallT PR Ay [v3,.func Be []] [.one .bool] st fun b11 st9=>BIf b11 (reK bb K st9) (K 0 st9))):=by
 have re:reK bb K st:=R8 H hN hc hz hk
 refine Ab (fun _=>re) fun h1=>Ad (x:= .int .i64 (Ae T).cnt) (by simp only[Ac,H.cell];rfl) (AV (Ab (fun _=>re) fun h2=>?_))
 refine OX hr hl hn (As (fun _=>re) fun h3=>?_)
 have:AY (Ae T)=0:=hg (by omega) (by omega) fun k hk'=>by
  have h4:Rl k=false:=by
   rw[Bool.eq_false_iff];intro e
   have:=List.any_eq_true.2 ⟨k,hk',e⟩
   rw[this]at h3;cases h3
  unfold Rl at h4
  simp only[Bool.or_eq_false_iff,Bool.not_eq_false',decide_eq_true_eq,decide_eq_false_iff_not]at h4
  exact⟨h4.1,by omega⟩
 have:=hk st (Aj.refl st)
 rw[‹AY (Ae T)=0›]at this
 exact this
theorem BH.count {bb ub nodes nodes':Nat} {now:TV} {T:Tb} {σ:Nat->TV} {st:St} (H:BH bb ub now T nodes σ st):BH bb ub now T nodes' σ (st.put bb (.cells [.box T.b 0,now,.map ub,.int .i64 nodes'])):=by
 obtain⟨up,hup⟩:=H.un
 have kb:∀x,x≠bb->(st.put bb (.cells [.box T.b 0,now,.map ub,.int .i64 nodes'])).box x=st.box x:=fun x h=>if_neg h
 have kbb:(st.put bb (.cells [.box T.b 0,now,.map ub,.int .i64 nodes'])).box bb= .cells [.box T.b 0,now,.map ub,.int .i64 nodes']:=if_pos rfl
 refine⟨H.hp.same (Nat.le_refl _) (fun x hx=>kb x fun e=>H.bx (e▸hx)) fun id h1 h2=>⟨h1,h2⟩,kbb,⟨up,by rw[kb _ (Ne.symm H.bu)];exact hup.box,hup.nd,fun p hp=>?_,hup.fd⟩,H.bl,H.ul,H.bx,H.ux⟩
 obtain⟨q1,q2⟩:=hup.ok p hp
 refine⟨?_,q2⟩
 by_cases c:p.1=bb
 ·simp only[Ap,c,kbb]
 ·simp only[Ap,kb _ c]at q1⊢;exact q1
theorem KQ (a b:List B8):kz (a++b)=kz a+kz b:=by unfold kz;rw[List.map_append,List.sum_append]
theorem TF {bb ub i:Nat} {T u:Tb} {cur:List Hop} {σ:Nat->TV} {st:St} {a:Asg} {a_2:TV} {cs:List TV} {K:Int->St->Prop} (H:BH bb ub (.box u.b 0) T (Ae T).cnt σ st) (hu:atT T cur=some u) (hN:NdL (shT 1 T)) (hNe:NeL (shT 1 T))
  (hV:AY (Ae T)=0) (hc:a.keys.length+a.val.cnt<=100000) (hz:(Ae T).sz+kz a.keys+a.val.sz+2<=1000000) (hr:Rd 1 a_2 a.keys.length (a.keys.map TV.str)) (hv:VlR St.zero a.val cs)
  (hk1:∀nu T' cur' u' σ' st',DZ nu i T cur a= .ok (T',cur')->AY (Ae T')=0->atT T' cur'=some u'->BH bb ub (.box u'.b 0) T' (Ae T').cnt σ' st'->NdL (shT 1 T')->NeL (shT 1 T')->(Ae T').sz<=(Ae T).sz+kz a.keys+a.val.sz+2->K 0 st')
  (hk2:∀nu e st',DZ nu i T cur a= .error e->K e st')
  (hk3:∀nu T' cur' st',DZ nu i T cur a= .ok (T',cur')->AY (Ae T')≠0->K (AY (Ae T'):Nat) st'):
  CallT PR B4 [.box bb 0,.agg (.bool a.tab:: .bool a.elem::a_2::cs),.int .i64 i] [.one (.int .i64)] st K:=by
 obtain⟨tab,elem,ks,v⟩:=a
 simp only at*
 have hcT:=Dv hV
 have hvT:=(Du.1 hV).1
 have hlT:=(Du.1 hV).2.1
 have hvc:=FM v
 have hpz:∀{K:Bool->St->Prop},K (Cm ⟨tab,elem,ks,v⟩) st->CallT PR C7 [.agg (.bool tab:: .bool elem::a_2::cs)] [.one .bool] st K:=fun h=>S7 hr hv h
 have hv0:=hv
 obtain⟨s,l,f⟩:=v
 obtain⟨ub1,ul,uf,xl,xf,rfl,_⟩:=hv0.cells
 have nu0:Nat->Nu:=fun _=>⟨0,0,0⟩
 refine FS bb tab elem a_2 s.kind s.b s.neg s.dg s.ex s.tk s.td s.tn s.tz s.text ub1 ul uf i st K (hpz (As (fun hp=>?_) fun hp=>?_))
 ·refine hk2 nu0 1 st ?_
  unfold DZ
  rw[if_pos (by simpa using hp)]
 have hp':Cm ⟨tab,elem,ks,.mk s l f⟩=true:=by simpa using hp
 have hks:ks≠ []:=fun e=>by subst e;unfold Cm at hp';simp at hp'
 refine Ad (x:= .box u.b 0) (by simp only[Ac,H.cell];rfl) ?_
 --where the keys begin
 generalize hh0:(if tab=true then []else cur)=h0
 obtain⟨u0,hu0,hu0b⟩:∃u0,atT T h0=some u0/\(if tab=true then TV.box T.b 0 else TV.box u.b 0)= .box u0.b 0:=by
  subst hh0
  cases tab with
  | true=>exact⟨T,by cases T;rfl,rfl⟩
  | false=>exact⟨u,hu,rfl⟩
 refine⟨fun from_1 b_1 at_1 b2 b3 v3 n1 b4 b5 s1 n2 n3 n4 n5 n6 s2 v4 v5 v6 st2=>from_1= .box u0.b 0/\b_1= .box bb 0/\at_1=(i:Int)/\tab=b2/\elem=b3/\a_2=v3/\n1=s.kind/\b4=s.b/\b5=s.neg/\s1=s.dg/\n2=s.ex/\n3=s.tk/\n4=s.td/\n5=s.tn/\n6=s.tz/\s2=s.text/\ub1=v4/\ul=v5/\uf=v6/\st=st2,?_,?_⟩
 ·refine As (fun ht=>?_) fun ht=>?_
  ·refine Ad (x:= .box T.b 0) (by simp only[Ac,H.cell];rfl) ⟨?_,rfl,rfl,rfl,rfl,rfl,rfl,rfl,rfl,rfl,rfl,rfl,rfl,rfl,rfl,rfl,rfl,rfl,rfl,rfl⟩
   rw[if_pos (by simpa using ht)]at hu0b;exact hu0b
  ·refine⟨?_,rfl,rfl,rfl,rfl,rfl,rfl,rfl,rfl,rfl,rfl,rfl,rfl,rfl,rfl,rfl,rfl,rfl,rfl,rfl⟩
   rw[if_neg (by simpa using ht)]at hu0b;exact hu0b
 rintro _ _ _ _ _ _ _ _ _ _ _ _ _ _ _ _ _ _ _ _ ⟨rfl,rfl,rfl,rfl,rfl,rfl,rfl,rfl,rfl,rfl,rfl,rfl,rfl,rfl,rfl,rfl,rfl,rfl,rfl,rfl⟩
 have BC:∀nu,BJ nu tab 0 T h0 ks.dropLast=none->DZ nu i T cur ⟨tab,elem,ks,.mk s l f⟩= .error 8:=fun nu hh=>by
  unfold DZ
  rw[if_neg (by rw[hp'];simp)]
  simp only[hh0,hh]
 have step:∀nu T' h,BJ nu tab 0 T h0 ks.dropLast=some (T',h)->DZ nu i T cur ⟨tab,elem,ks,.mk s l f⟩=Cc (nu ks.length) ⟨tab,elem,ks,.mk s l f⟩ i T' h cur (ks.getLastD []):=fun nu T' h hh=>by
  unfold DZ
  rw[if_neg (by rw[hp'];simp)]
  simp only[hh0,hh]
 refine Vb H hu0 hr hks (by omega) (fun nu T1 h t σ1 st1 hh hA H1 hc1=>?_) fun nu st1 hh=>?_
 case refine_2=>
  show K 8 st1
  exact hk2 nu 8 st1 (BC nu hh)
 have klen:1<=ks.length:=List.length_pos_iff.2 hks
 obtain⟨ks',kl,hkl⟩:∃ks' kl,ks=ks'++[kl]:=⟨ks.dropLast,ks.getLast hks,(List.dropLast_concat_getLast hks).symm⟩
 have hgl:ks.getLastD []=kl:=by rw[hkl];simp
 have hdl:ks.dropLast=ks':=by rw[hkl];simp
 have hkzz:kz ks=kz ks'+(kl.length+1):=by rw[hkl,KQ];simp[kz]
 have hkl2:ks.length=ks'.length+1:=by rw[hkl];simp
 rw[hdl]at hh
 have step1:∀x,DZ (K4 nu ks.length x) i T cur ⟨tab,elem,ks,.mk s l f⟩=Cc x ⟨tab,elem,ks,.mk s l f⟩ i T1 h cur kl:=fun x=>by
  rw[step _ T1 h (by rw[hdl,JC (nu':=nu) ks' 0 T h0 (fun j _ h2=>by unfold K4;rw[if_neg (by omega)]),hh]),hgl]
  simp only[K4,if_true]
 obtain⟨W,hNe1⟩:=FD ks' 0 hu0 hNe hh (Nat.le_refl _)
 have hN1:=W.nd hN
 have w1:=W.cnt
 have w2:=W.sz
 have w3:=W.lv
 have hvz:1<=(Vl.mk s l f).sz:=Vl.sz_pos _
 have klK:∀k,k∈ks->k.length<=1000000:=fun k hk=>by
  have:∀(l:List B8),k∈l->k.length<=kz l:=by
   intro l
   induction l with
   | nil=>intro h;cases h
   | cons x r ih=>
    intro h
    simp only[kz,List.map_cons,List.sum_cons]
    rcases List.mem_cons.1 h with rfl | h
    ·omega
    ·have:=ih h;unfold kz at this;omega
  have:=this ks hk
  omega
 have hdp:=JF hA
 have fin:∀{x:Nu} {T':Tb} {cur':List Hop} {D:Int},Cc x ⟨tab,elem,ks,.mk s l f⟩ i T1 h cur kl= .ok (T',cur')->(elem=false->tab=false->AZ (.mk s l f))->((dpH h+3+(if elem=true∨tab=true then 0 else lvV (.mk s l f)-2):Nat):Int)<=max 48 D->
   (D<=48->(Ae T').cnt<=65536->(∀k,k∈ks->U8 k/\k.length<=1024)->AY (Ae T')=0)/\NdL (shT 1 T')/\NeL (shT 1 T')/\(Ae T').cnt<=900000/\(Ae T').sz<=(Ae T).sz+kz ks+(Vl.mk s l f).sz+2:=fun {x T' cur' D} hL hvv hD=>by
  have F:=(Io hNe1 hL).1
  have f1:=F.cnt
  have f2:=F.sz
  have f3:=F.lv
  simp only at f1 f2 f3
  refine⟨fun g1 g2 g3=>Du.2 ⟨?_,?_,g2⟩,F.nd hN1,F.ne hNe1,by omega,by omega⟩
  ·have g4:=g3 kl (by rw[hkl];simp)
   exact F.va ⟨g4.1,g4.2,hvv⟩ (W.va (fun k hk=>g3 k (by rw[hkl];exact List.mem_append_left _ hk)) hvT)
  ·omega
 refine Aa hr.isSl ?_
 have hw:IntKind.wrap .i64 ((lenS a_2:Int)-1)=((ks'.length:Nat):Int):=by
  rw[hr.lenS,Am _ (by omega) (by omega)];omega
 rw[hw]
 refine⟨⟨by omega,by rw[hr.lenZ];omega⟩,?_⟩
 have hk0:(ks.map TV.str)[ks'.length*1+0]? =some (.str kl):=by
  rw[hkl];simp
 refine Ad (x:= .str kl) ?_ (Ct ?_)
 ·rw[Int.toNat_natCast]
  exact hr.ldx st1 ks'.length 0 hk0
 refine Aa rfl (Aa rfl (H1.ldd hA (AV ?_)))
 have hw2:IntKind.wrap .i64 (((1+dpH h:Nat):Int)+2)=((dpH h+3:Nat):Int):=by rw[Am _ (by omega) (by omega)];omega
 rw[hw2]
 cases he:elem with
 | true=>
  have lke:∀x,Cc x ⟨tab,elem,ks,.mk s l f⟩ i T1 h cur kl=Lb x T1 t h kl:=fun x=>by
   unfold Cc Lb
   rw[hA]
   simp only[he,if_true]
   all_goals (rcases Ag kl t.es with _ | ⟨eb,u | l | ⟨v,j⟩⟩<;>rfl)
  subst he
  refine QI H1 hA (by omega) (fun x T' h' u' σ' st' hg hA' H' hc'=>?_) fun x st' hg=>?_
  ·have hL:=(lke x).trans hg
   obtain⟨g1,g2,g3,g4,g5⟩:=fin (D:=((dpH h+3:Nat):Int)) hL (fun h=>by cases h) (by simp;omega)
   ·refine Ou H' g2 g4 (by omega) hr klK (by omega) g1 fun st2 e2=>?_
    by_cases hcv:AY (Ae T')=0
    ·rw[hcv]
     exact hk1 _ _ _ u' σ' st2 ((step1 x).trans hL) hcv hA' (H'.ext e2) g2 g3 g5
    ·exact hk3 _ _ _ st2 ((step1 x).trans hL) hcv
  ·exact hk2 _ _ st' ((step1 x).trans ((lke x).trans hg))
 | false=>
  cases ht:tab with
  | true=>
   have lke:∀x,Cc x ⟨tab,elem,ks,.mk s l f⟩ i T1 h cur kl=J7 x T1 t h kl:=fun x=>by
    unfold Cc J7
    rw[hA]
    simp only[he,ht,if_true,if_false,Bool.false_eq_true]
    all_goals (rcases Ag kl t.es with _ | ⟨eb,u | l | ⟨v,j⟩⟩<;>rfl)
   subst he
   subst ht
   refine RR H1 hA (by omega) (fun x T' h' u' σ' st' hg hA' H' hc'=>?_) fun x st' hg=>?_
   ·have hL:=(lke x).trans hg
    obtain⟨g1,g2,g3,g4,g5⟩:=fin (D:=((dpH h+3:Nat):Int)) hL (fun _ h=>by cases h) (by simp;omega)
    refine Ou H' g2 g4 (by omega) hr klK (by omega) g1 fun st2 e2=>?_
    by_cases hcv:AY (Ae T')=0
    ·rw[hcv]
     exact hk1 _ _ _ u' σ' st2 ((step1 x).trans hL) hcv hA' (H'.ext e2) g2 g3 g5
    ·exact hk3 _ _ _ st2 ((step1 x).trans hL) hcv
   ·exact hk2 _ _ st' ((step1 x).trans ((lke x).trans hg))
  | false=>
   refine Aa rfl (Aa rfl (H1.ldm hA (H1.map hA fun es hes=>?_)))
   rw[hes kl]
   have lkn:∀x,Ag kl t.es=none->Cc x ⟨tab,elem,ks,.mk s l f⟩ i T1 h cur kl= .ok (Ax T1 h (AS t kl x.eb (.clo (.mk s l f) i)),cur):=fun x hl=>by
    unfold Cc
    rw[hA]
    simp only[he,ht,if_false,Bool.false_eq_true,hl]
   have lks:∀x p,Ag kl t.es=some p->Cc x ⟨tab,elem,ks,.mk s l f⟩ i T1 h cur kl= .error 8:=fun x p hl=>by
    unfold Cc
    rw[hA]
    simp only[he,ht,if_false,Bool.false_eq_true,hl]
   subst he
   subst ht
   rcases hl:Ag kl t.es with _ | ⟨eb,e⟩
   ·rw[Option.map_none]
    refine Aa rfl ?_
    show CallT _ _ _ _ _ _
    refine clo_new H1 hA hl (by omega) hv (by rfl) fun σ' st2 H2=>?_
    generalize hT':Ax T1 h (AS t kl st1.nb (.clo (.mk s l f) i))=T' at H2
    have hL:Cc ⟨0,0,st1.nb⟩ ⟨false,false,ks,.mk s l f⟩ i T1 h cur kl= .ok (T',cur):=by rw[lkn _ hl,hT']
    have F2:=(Io hNe1 hL).2 rfl rfl
    simp only at F2
    obtain⟨F3,F4,F5,F7⟩:=F2
    obtain⟨r,u1,hr1,hu1,hub1⟩:∃r u1,h=cur++r/\atT T1 cur=some u1/\u1.b=u.b:=by
     simp only[Bool.false_eq_true,if_false]at hh0
     subst hh0
     have:=Mw (g:=cur) (r:=[]) ks' 0 hu (by rw[List.append_nil];exact hu) hNe (by rw[List.append_nil];exact hh)
     obtain⟨r,u1,a1,a2,a3⟩:=this
     exact⟨r,u1,a1,a2,a3⟩
    obtain⟨u',hu',hub'⟩:∃u',atT T' cur=some u'/\u'.b=u.b:=by
     subst hr1
     obtain⟨u',q1,q2⟩:=RS (x:=AS t kl st1.nb (.clo (.mk s l f) i)) hu1 hA rfl
     rw[hT']at q1
     exact⟨u',q1,q2.trans hub1⟩
    have F:=(Io hNe1 hL).1
    have f2:=F.sz
    simp only at f2
    have F6:AY (Ae T')=0->AY (.mk s l f)=0:=fun e=>by
     obtain⟨e1,e2,e3⟩:=Du.1 e
     exact Du.2 ⟨F3 e1,by omega,by omega⟩
    have hnow:TV.box u.b 0= .box u'.b 0:=by rw[hub']
    rw[hnow]at H2
    refine QP (v:= .mk s l f) (by omega) hv (BS _) fun st21 e21=>Ab (fun hne=>?_) fun heq=>?_
    ·refine Aa rfl (Aa rfl (R8 (H2.ext e21) (F.nd hN1) (by omega) (by omega) fun st' e'=>hk3 _ _ _ st' ((step1 _).trans hL) fun e=>hne (by rw[F6 e];rfl)))
    ·have hcv0:AY (.mk s l f)=0:=by omega
     have H3:=H2.ext e21
     refine Aa rfl (Aa rfl (Ad (x:= .int .i64 (Ae T1).cnt) (by simp only[Ac,At,H3.cell];rfl) (AV ?_)))
     refine Size_ok (v:= .mk s l f) (by omega) (Dv hcv0) hv (BS _) fun st24 e24=>?_
     have H4:=H3.ext e24
     refine⟨by simp only[Ac,At,H4.cell];rfl,Aa rfl (Aa rfl ⟨_,H4.cell,by simp,?_⟩)⟩
     have hw3:IntKind.wrap .i64 (((Ae T1).cnt:Int)+((Vl.mk s l f).cnt:Nat))=((Ae T').cnt:Nat):=by rw[Am _ (by omega) (by omega)];omega
     rw[hw3]
     have H5:=H4.count (nodes':=(Ae T').cnt)
     have hAt:atT T' h=some (AS t kl st1.nb (.clo (.mk s l f) i)):=by rw[<-hT'];exact DW h hA
     refine Aa rfl (Aa rfl ?_)
     show Ai (Ac (st24.put bb (.cells [.box T'.b 0,.box u'.b 0,.map ub,.int .i64 ((Ae T').cnt:Nat)])) [] (.t (.box t.b 2)) 0) _
     refine H5.ldd hAt (AV ?_)
     refine Vg (v:= .mk s l f) (by omega) (Dv hcv0) hv (BS _) fun st26 e26=>?_
     have H6:=H5.ext e26
     have hw4:IntKind.wrap .i64 (((1+dpH h:Nat):Int)+(KY (.mk s l f):Nat))=((1+dpH h+lvV (.mk s l f):Nat):Int):=by
      have:=Mk (.mk s l f)
      rw[RE,Am _ (by omega) (by omega)];omega
     rw[hw4]
     refine⟨?_,?_⟩
     ·have:=(H6.tab hAt).1.cell
      simp only at this
      show Ac st26 [] (.t (.box (AS t kl st1.nb (.clo (.mk s l f) i)).b 2)) 0=_
      simp only[Ac,this];rfl
     have hgood:((1+dpH h+lvV (.mk s l f):Nat):Int)<=48->(Ae T').cnt<=65536->(∀k,k∈ks->U8 k/\k.length<=1024)->AY (Ae T')=0:=fun g1 g2 g3=>by
      have g4:=g3 kl (by rw[hkl];simp)
      refine Du.2 ⟨F.va ⟨g4.1,g4.2,fun _ _=>Ld hcv0⟩ (W.va (fun k hk=>g3 k (by rw[hkl];exact List.mem_append_left _ hk)) hvT),?_,g2⟩
      omega
     refine Ou H6 (F.nd hN1) (by omega) (by omega) hr klK (by omega) hgood fun st2 e2=>?_
     by_cases hcv:AY (Ae T')=0
     ·rw[hcv]
      exact hk1 _ _ _ u' σ' st2 ((step1 _).trans hL) hcv hu' (H6.ext e2) (F.nd hN1) (F.ne hNe1) (by omega)
     ·exact hk3 _ _ _ st2 ((step1 _).trans hL) hcv
   ·rw[Option.map_some]
    refine Aa rfl ?_
    show K 8 st1
    exact hk2 _ 8 st1 ((step1 ⟨0,0,0⟩).trans (lks _ _ hl))
end Go.TVF
section
namespace Go.TVF
open Go.IntKind(i64 u8)
mutual
def erT:Tb->Tb
 | .mk _ _ hd es=> .mk 0 0 hd (Fh es)
def Fh:List Kn->List Kn
 | []=>[]
 | .mk k _ e::r=> .mk k 0 (erE e)::Fh r
def erE:En->En
 | .opn t=> .opn (erT t)
 | .lst l=> .lst (Nk l)
 | .clo v i=> .clo v i
def Nk:List Tb->List Tb
 | []=>[]
 | t::r=>erT t::Nk r
end
theorem EK:∀l:List Tb,Nk l=l.map erT
 | []=>by unfold Nk;rfl
 | t::r=>by unfold Nk;rw[EK r];rfl
theorem Qm:∀a b:List Kn,Fh (a++b)=Fh a++Fh b
 | [],b=>by simp[Fh]
 | .mk k eb e::r,b=>by rw[List.cons_append,Fh,Fh,Qm r b];rfl
theorem Ql (t:Tb):(erT t).es=Fh t.es:=by cases t;rw[erT];rfl
theorem UI (t:Tb):(erT t).hd=t.hd:=by cases t;rw[erT];rfl
mutual
theorem Kr:∀t:Tb,Ae (erT t)=Ae t
 | .mk b m hd es=>by rw[erT,Ae,Ae,Po es]
theorem Po:∀es:List Kn,AD (Fh es)=AD es
 | []=>by rw[Fh]
 | .mk k eb e::r=>by rw[Fh,AD,AD,valE_er e,Po r]
theorem valE_er:∀e:En,AA (erE e)=AA e
 | .opn t=>by rw[erE,AA,AA,Kr t]
 | .lst l=>by rw[erE,AA,AA,Pn l]
 | .clo v i=>by rw[erE]
theorem Pn:∀l:List Tb,A1 (Nk l)=A1 l
 | []=>by rw[Nk]
 | t::r=>by rw[Nk,A1,A1,Kr t,Pn r]
end
theorem FZ (k:B8):∀es:List Kn,Ag k (Fh es)=(Ag k es).map fun p=>(0,erE p.2)
 | []=>by rw[Fh];rfl
 | .mk k' eb e::r=>by
  rw[Fh,Ag,Ag]
  split
  ·rfl
  ·exact FZ k r
theorem Oz (k:B8) (x:En):∀es:List Kn,BR k (erE x) (Fh es)=Fh (BR k x es)
 | []=>by rw[Fh];rfl
 | .mk k' eb e::r=>by
  rw[Fh,BR,BR]
  split
  ·rw[Fh]
  ·rw[Fh,Oz k x r]
theorem SI:∀(h:List Hop) (T:Tb),atT (erT T) h=(atT T h).map erT
 | [],T=>by cases T;rw[erT];simp only[atT,Option.map_some];rw[erT]
 | (k,none)::h,.mk b m hd es=>by
  rw[erT,atT,atT,FZ]
  rcases Ag k es with _ | ⟨eb,u | l | ⟨v,i⟩⟩
  ·rfl
  ·simp only[Option.map_some,erE];exact SI h u
  ·simp only[Option.map_some,erE];rfl
  ·simp only[Option.map_some,erE];rfl
 | (k,some i)::h,.mk b m hd es=>by
  rw[erT,atT,atT,FZ]
  rcases Ag k es with _ | ⟨eb,u | l | ⟨v,j⟩⟩
  ·rfl
  ·simp only[Option.map_some,erE];rfl
  ·simp only[Option.map_some,erE,EK,List.getElem?_map]
   cases l[i]? with
   | none=>rfl
   | some u=>exact SI h u
  ·simp only[Option.map_some,erE];rfl
theorem FX:∀(h:List Hop) (T x:Tb),Ax (erT T) h (erT x)=erT (Ax T h x)
 | [],T,x=>by cases T;cases x;rw[erT,erT];simp only[Ax];rw[erT]
 | (k,none)::h,.mk b m hd es,x=>by
  rw[erT,Ax,Ax,FZ]
  rcases Ag k es with _ | ⟨eb,u | l | ⟨v,i⟩⟩
  ·simp only[Option.map_none];rw[erT]
  ·simp only[Option.map_some,erE]
   rw[erT,FX h u x]
   have:=Oz k (.opn (Ax u h x)) es
   rw[erE]at this
   rw[this]
  ·simp only[Option.map_some,erE];rw[erT]
  ·simp only[Option.map_some,erE];rw[erT]
 | (k,some i)::h,.mk b m hd es,x=>by
  rw[erT,Ax,Ax,FZ]
  rcases Ag k es with _ | ⟨eb,u | l | ⟨v,j⟩⟩
  ·simp only[Option.map_none];rw[erT]
  ·simp only[Option.map_some,erE];rw[erT]
  ·simp only[Option.map_some,erE,EK,List.getElem?_map]
   cases l[i]? with
   | none=>simp only[Option.map_none];rw[erT]
   | some u=>
    simp only[Option.map_some]
    rw[erT,FX h u x]
    have:=Oz k (.lst (l.set i (Ax u h x))) es
    rw[erE,EK,List.map_set]at this
    rw[this]
  ·simp only[Option.map_some,erE];rw[erT]
theorem Pb (t:Tb) (k:B8) (eb:Nat) (e:En):AS (erT t) k 0 (erE e)=erT (AS t k eb e):=by
 unfold AS
 rw[UI,Ql]
 cases t
 rw[erT,erT,Qm,Fh,Fh];rfl
theorem UZ (t:Tb) (k:B8) (e:En):B6 (erT t) k (erE e)=erT (B6 t k e):=by
 unfold B6
 rw[UI,Ql,Oz]
 cases t
 rw[erT,erT];rfl
theorem J3 (nu:Nu) (hd:Bool):erT (AB nu hd)=AB ⟨0,0,0⟩ hd:=by unfold AB;rw[erT,Fh]
theorem head_er (u:Tb):erT (BT u)=BT (erT u):=by cases u;unfold BT;rw[erT,erT]
def n0:Nu:=⟨0,0,0⟩
theorem hop_er (nu:Nu) (hd:Bool) (T:Tb) (h:List Hop) (k:B8):DD n0 hd (erT T) h k=(DD nu hd T h k).map fun p=>(erT p.1,p.2):=by
 unfold DD
 rw[SI]
 cases atT T h with
 | none=>rfl
 | some t=>
  simp only[Option.map_some]
  rw[Ql,FZ]
  rcases Ag k t.es with _ | ⟨eb,u | l | ⟨v,i⟩⟩
  ·simp only[Option.map_none,Option.map_some]
   have:=Pb t k nu.eb (.opn (AB nu false))
   rw[erE,J3]at this
   rw[<-FX,<-this];rfl
  ·simp only[Option.map_some,erE]
  ·simp only[Option.map_some,erE,EK,List.length_map]
   split<;>rfl
  ·simp only[Option.map_some,erE];rfl
theorem Sr (nu:Nat->Nu) (hd:Bool):∀(ks:List B8) (j:Nat) (T:Tb) (h:List Hop),BJ (fun _=>n0) hd j (erT T) h ks=(BJ nu hd j T h ks).map fun p=>(erT p.1,p.2)
 | [],j,T,h=>rfl
 | k::ks,j,T,h=>by
  unfold BJ
  rw[hop_er (nu j)]
  cases DD (nu j) hd T h k with
  | none=>rfl
  | some p=>exact Sr nu hd ks (j+1) p.1 p.2
def erX:Except Int (Tb×List Hop)->Except Int (Tb×List Hop)
 | .ok p=> .ok (erT p.1,p.2)
 | .error e=> .error e
theorem last_er (nu:Nu) (a:Asg) (i:Nat) (T:Tb) (h cur:List Hop) (k:B8):Cc n0 a i (erT T) h cur k=erX (Cc nu a i T h cur k):=by
 unfold Cc
 rw[SI]
 cases atT T h with
 | none=>rfl
 | some t=>
  simp only[Option.map_some]
  rw[Ql,FZ]
  by_cases he:a.elem=true
  ·rw[if_pos he,if_pos he]
   rcases Ag k t.es with _ | ⟨eb,u | l | ⟨v,j⟩⟩
   ·simp only[Option.map_none,erX]
    have:=Pb t k nu.eb (.lst [AB nu false])
    rw[erE,Nk,Nk,J3]at this
    rw[<-FX,<-this];rfl
   ·simp only[Option.map_some,erE,erX]
   ·simp only[Option.map_some,erE,erX,EK,List.length_map]
    have:=UZ t k (.lst (l++[AB nu false]))
    rw[erE,EK,List.map_append,List.map_cons,List.map_nil,J3]at this
    rw[<-FX,<-this];rfl
   ·simp only[Option.map_some,erE,erX]
  ·rw[if_neg he,if_neg he]
   by_cases ht:a.tab=true
   ·rw[if_pos ht,if_pos ht]
    rcases Ag k t.es with _ | ⟨eb,u | l | ⟨v,j⟩⟩
    ·simp only[Option.map_none,erX]
     have:=Pb t k nu.eb (.opn (AB nu true))
     rw[erE,J3]at this
     rw[<-FX,<-this];rfl
    ·simp only[Option.map_some,erE,UI]
     split
     ·rfl
     ·simp only[erX]
      have:=UZ t k (.opn (BT u))
      rw[erE,head_er]at this
      rw[<-FX,<-this]
    ·simp only[Option.map_some,erE,erX]
    ·simp only[Option.map_some,erE,erX]
   ·rw[if_neg ht,if_neg ht]
    rcases Ag k t.es with _ | ⟨eb,e⟩
    ·simp only[Option.map_none,erX]
     have:=Pb t k nu.eb (.clo a.val i)
     rw[erE]at this
     rw[<-FX,<-this];rfl
    ·simp only[Option.map_some,erX]
def BC (i:Nat) (T:Tb) (cur:List Hop) (a:Asg):Except Int (Tb×List Hop):=DZ (fun _=>n0) i T cur a
theorem step_er (nu:Nat->Nu) (i:Nat) (T:Tb) (cur:List Hop) (a:Asg):BC i (erT T) cur a=erX (DZ nu i T cur a):=by
 unfold BC DZ
 split
 ·rfl
 ·rw[Sr nu]
  cases BJ nu a.tab 0 T (if a.tab=true then []else cur) a.keys.dropLast with
  | none=>rfl
  | some p=>exact last_er _ _ _ _ _ _ _
noncomputable def GN:Nat->Tb->List Hop->List Asg->Except (Nat×Nat) (Tb×List Hop)
 | _,T,cur,[]=> .ok (T,cur)
 | i,T,cur,a::r=>match BC i T cur a with
  | .error e=> .error (i,e.toNat)
  | .ok (T',cur')=>if AY (Ae T')=0 then GN (i+1) T' cur' r else .error (i,AY (Ae T'))
def T00:Tb:= .mk 0 0 false []
noncomputable def If (l:List Asg):Except (Nat×Nat) (Tb×List Hop):=GN 0 T00 [] l
theorem Pu {nu:Nat->Nu} {i:Nat} {T:Tb} {cur:List Hop} {a:Asg} {e:Int} (h:DZ nu i T cur a= .error e) (hA:∃u,atT T cur=some u) (hn:NeL (shT 1 T)):e=1∨e=8∨e=6:=by
 unfold DZ at h
 split at h
 ·cases h;exact .inl rfl
 ·split at h
  ·cases h;exact .inr (.inl rfl)
  ·rename_i T' h' hh
   have hu:∃u,atT T (if a.tab=true then []else cur)=some u:=by
    split
    ·exact⟨T,by cases T;rfl⟩
    ·exact hA
   obtain⟨u,hu⟩:=hu
   obtain⟨t,ht⟩:=(FD _ 0 hu hn hh (Nat.le_refl _)).1.at_
   unfold Cc at h
   rw[ht]at h
   simp only at h
   split at h
   ·rcases hl:Ag (a.keys.getLastD []) t.es with _ | ⟨eb,u | l | ⟨v,j⟩⟩<;>rw[hl]at h<;>simp only[Except.error.injEq,reduceCtorEq]at h
    all_goals exact .inr (.inr h.symm)
   ·split at h
    ·rcases hl:Ag (a.keys.getLastD []) t.es with _ | ⟨eb,u | l | ⟨v,j⟩⟩<;>rw[hl]at h<;>simp only[Except.error.injEq,reduceCtorEq]at h
     ·split at h
      ·cases h;exact .inr (.inl rfl)
      ·cases h
     all_goals exact .inr (.inl h.symm)
    ·rcases hl:Ag (a.keys.getLastD []) t.es with _ | ⟨eb,e⟩<;>rw[hl]at h<;>simp only[Except.error.injEq,reduceCtorEq]at h
     exact .inr (.inl h.symm)
end Go.TVF
end
namespace Go.TVF
open Go.IntKind(i64 u8)
open Go Go.Proofs
def QQ (a:Asg) (cs:List TV):Prop:=∃kv vc,cs= .bool a.tab:: .bool a.elem::kv::vc/\Rd 1 kv a.keys.length (a.keys.map TV.str)/\VlR St.zero a.val vc
def Dp:List Asg->List TV->Prop
 | [],xs=>xs=[]
 | a::r,xs=>∃c d,xs=c++d/\QQ a c/\Dp r d
theorem QQ.len {a:Asg} {cs:List TV} (h:QQ a cs):cs.length=16:=by
 obtain⟨kv,vc,rfl,_,h2⟩:=h
 simp[h2.len]
theorem Dp.len:∀{l:List Asg} {xs:List TV},Dp l xs->xs.length=l.length*16
 | [],xs,h=>by unfold Dp at h;subst h;rfl
 | a::r,xs,h=>by
  unfold Dp at h
  obtain⟨c,d,rfl,h1,h2⟩:=h
  rw[List.length_append,h1.len,Dp.len h2,List.length_cons];omega
theorem Dp.get:∀{l:List Asg} {xs:List TV} {i:Nat} {a:Asg},Dp l xs->l[i]? =some a->QQ a ((xs.drop (i*16)).take 16)
 | [],xs,i,a,h,hi=>by simp at hi
 | b::r,xs,i,a,h,hi=>by
  unfold Dp at h
  obtain⟨c,d,rfl,h1,h2⟩:=h
  cases i with
  | zero=>
   simp only[List.getElem?_cons_zero,Option.some.injEq]at hi
   subst hi
   rw[Nat.zero_mul,List.drop_zero,<-h1.len,List.take_left];exact h1
  | succ i=>
   have:=Dp.get h2 (show r[i]? =some a by simpa using hi)
   rw[show(i+1)*16=c.length+i*16 by rw[h1.len];omega,List.drop_append]
   simp only[Nat.add_sub_cancel_left]
   rw[List.drop_of_length_le (by omega),List.nil_append];exact this
def asz (a:Asg):Nat:=kz a.keys+a.val.sz+2
def Dm:List Asg->Nat
 | []=>0
 | a::r=>asz a+Dm r
theorem ldA {l:List Asg} {v:TV} {xs:List TV} {j:Nat} {a:Asg} (hr:Rd 16 v l.length xs) (ha:Dp l xs) (hj:l[j]? =some a) {st:St} {f:Fun [.bool,.bool,.tv,.int .i64,.bool,.bool,.str,.int .i64,.int .i64,.int .i64,.int .i64,.int .i64,.str,.tv,.tv,.tv] Prop}
  (hf:∀kv ub ul uf,Rd 1 kv a.keys.length (a.keys.map TV.str)->VlR St.zero a.val (Aq a.val.sc ub ul uf)->List.all (.bool a.tab:: .bool a.elem::kv::Aq a.val.sc ub ul uf) Ah=true->
   f a.tab a.elem kv a.val.sc.kind a.val.sc.b a.val.sc.neg a.val.sc.dg a.val.sc.ex a.val.sc.tk a.val.sc.td a.val.sc.tn a.val.sc.tz a.val.sc.text ub ul uf):
  Ai ((Al st [] (.t (ixT 16 v j)) 0 16).map TV.agg) fun x=>BG [.bool,.bool,.tv,.int .i64,.bool,.bool,.str,.int .i64,.int .i64,.int .i64,.int .i64,.int .i64,.str,.tv,.tv,.tv] x f:=by
 have hlt:j<l.length:=(List.getElem?_eq_some_iff.1 hj).1
 rw[(SlR.of_rd (st:=st) hr).ldc ha.len hlt]
 obtain⟨kv,vc,hc,h1,h2⟩:=ha.get hj
 rw[hc]
 obtain⟨tab,elem,ks,s,lv,fv⟩:=a
 have h20:=h2
 obtain⟨ub,ul,uf,xl,xf,rfl,w1,w2,_,w4,_⟩:=VlR.cells h20
 refine Ad rfl ?_
 have hone:List.all (Aq s ub ul uf) Ah=true:=Bi w1.one w2.one w4.one
 exact hf kv ub ul uf h1 h2 (by show(true&&(true&&(Ah kv&&List.all (Aq s ub ul uf) Ah)))=true;rw[h1.one,hone];rfl)
theorem Oc {l:List Asg} {j:Nat} {a:Asg} (h:l[j]? =some a):Dm (l.drop j)=asz a+Dm (l.drop (j+1)):=by
 rw[Bt h,Dm]
theorem O5:∀(l:List Asg) (j:Nat),Dm (l.drop j)<=Dm l
 | [],j=>by simp
 | a::r,0=>by simp
 | a::r,j+1=>by
  have:=O5 r j
  rw[List.drop_succ_cons,Dm];omega
theorem Pa {l:List Asg} {v:TV} {xs:List TV} {st:St} {K:TV->Int->Int->St->Prop} (hr:Rd 16 v l.length xs) (ha:Dp l xs) (hz:Dm l<=900000) (hc:∀a,a∈l->a.keys.length+a.val.cnt<=100000)
  (hk1:∀bb ub T cur u σ st',If l= .ok (erT T,cur)->atT T cur=some u->BH bb ub (.box u.b 0) T (Ae T).cnt σ st'->NdL (shT 1 T)->NeL (shT 1 T)->AY (Ae T)=0->(Ae T).sz<=1+Dm l->K (.box bb 0) 0 0 st')
  (hk2:∀(i e:Nat) st',If l= .error (i,e)->e≠0->K .nilPtr i e st'):CallT PR Df [v] [.one .tv,.one (.int .i64),.one (.int .i64)] st K:=by
 have hll:l.length<=Dm l:=by
  have:∀m:List Asg,m.length<=Dm m:=by
   intro m
   induction m with
   | nil=>simp
   | cons a r ih=>rw[Dm,List.length_cons];unfold asz;omega
  exact this l
 refine LR v st K (Nf fun bb ub r m σ0 st0 H0=>Aa hr.isSl ?_)
 rw[hr.lenS]
 have e0:(Tb.mk r m false [])=AB ⟨r,m,0⟩ false:=rfl
 refine⟨fun n_1 b_1 v_1 n_2 st1=>b_1= .box bb 0/\v_1=v/\n_2=(l.length:Int)/\∃(j:Nat) (T:Tb) (cur:List Hop) (u:Tb) (σ:Nat->TV),n_1=(j:Int)/\j<=l.length/\If l=GN j (erT T) cur (l.drop j)/\atT T cur=some u/\
   BH bb ub (.box u.b 0) T (Ae T).cnt σ st1/\NdL (shT 1 T)/\NeL (shT 1 T)/\AY (Ae T)=0/\(Ae T).sz+Dm (l.drop j)<=1+Dm l,
  fun n_1 _ _ _ _=>l.length-n_1.toNat,⟨rfl,rfl,rfl,0,.mk r m false [],[],.mk r m false [],σ0,rfl,Nat.zero_le _,?_,rfl,?_,?_,?_,?_,?_⟩,?_⟩
 ·rw[e0,J3];rfl
 ·rw[show(Ae (.mk r m false [])).cnt=1 from by rw[Ae,AD];simp[Vl.cnt,AF,AI]];exact H0
 ·rw[e0];exact G9 _ _ _
 ·rw[e0];exact G8 _ _ _
 ·rw[e0];exact Du.2 ⟨DT _ _,by rw[LB];omega,by have:=EM ⟨r,m,0⟩ false;rw[AA]at this;omega⟩
 ·rw[e0,Lo,List.drop_zero];omega
 rintro n_1 _ _ _ st1 ⟨rfl,rfl,rfl,j,T,cur,u,σ,rfl,hj,hrun,hu,H,hN,hNe,hV,hsz⟩
 refine Ab (fun g=>?_) fun g=>?_
 ·have hlt:j<l.length:=by omega
  obtain⟨a,hja⟩:∃a,l[j]? =some a:=⟨_,List.getElem?_eq_getElem hlt⟩
  have hmem:=List.mem_of_getElem? hja
  have hwj:IntKind.wrap .i64 ((j:Int)+1)=((j+1:Nat):Int):=by rw[Am _ (by omega) (by omega)];simp
  rw[hwj]
  refine⟨⟨by omega,by rw[hr.lenZ];omega⟩,?_⟩
  rw[Int.toNat_natCast]
  rw[Oc hja]at hsz
  have hle:=O5 l (j+1)
  unfold asz at hsz
  rw[Bt hja]at hrun
  refine ldA hr ha hja fun kv ub' ul uf h1 h2 h3=>Aa h3 ?_
  have hstep:∀nu,BC j (erT T) cur a=erX (DZ nu j T cur a):=fun nu=>step_er nu j T cur a
  refine TF H hu hN hNe hV (hc a hmem) (by omega) h1 h2 (fun nu T' cur' u' σ' st' hs hcv hu' H' hN' hNe' hsz'=>?_) (fun nu e st' hs=>?_) fun nu T' cur' st' hs hcv=>?_
  ·refine Ab (fun h=>absurd rfl h) fun _=>?_
   refine⟨⟨rfl,rfl,rfl,j+1,T',cur',u',σ',rfl,hlt,?_,hu',H',hN',hNe',hcv,by omega⟩,by simp only[Int.toNat_natCast];omega⟩
   rw[hrun,GN,hstep nu,hs]
   simp only[erX]
   rw[Kr,if_pos hcv]
  ·have he:=Pu hs ⟨u,hu⟩ hNe
   refine Ab (fun _=>?_) fun h=>absurd (by omega) h
   have:=hk2 j e.toNat st' ?_ (by omega)
   ·have e2:((e.toNat:Nat):Int)=e:=by omega
    rw[e2]at this;exact this
   ·rw[hrun,GN,hstep nu,hs];rfl
  ·refine Ab (fun _=>?_) fun h=>absurd (by omega) h
   refine hk2 j (AY (Ae T')) st' ?_ hcv
   rw[hrun,GN,hstep nu,hs]
   simp only[erX]
   rw[Kr,if_neg hcv]
 ·have hjj:j=l.length:=by omega
  subst hjj
  rw[List.drop_length,GN]at hrun
  rw[List.drop_length,Dm]at hsz
  exact hk1 bb ub T cur u σ st1 hrun hu H hN hNe hV (by omega)
theorem Oj {l:List Asg} {v:TV} {xs:List TV} {st:St} {K:Int->Int->St->Prop} (hr:Rd 16 v l.length xs) (ha:Dp l xs) (hz:Dm l<=900000) (hc:∀a,a∈l->a.keys.length+a.val.cnt<=100000)
  (hk1:∀T cur st',If l= .ok (T,cur)->K 0 0 st') (hk2:∀(i e:Nat) st',If l= .error (i,e)->e≠0->K i e st'):CallT PR Dt [v] [.one (.int .i64),.one (.int .i64)] st K:=
 Ko v st K (Pa hr ha hz hc (fun bb ub T cur u σ st' h _ _ _ _ _ _=>hk1 _ _ st' h) hk2)
theorem TH {l:List Asg} {v:TV} {xs:List TV} {st:St} {K:Int->Bool->Bool->B8->Int->Int->Int->Int->Int->B8->TV->TV->TV->Int->Int->St->Prop} (hr:Rd 16 v l.length xs) (ha:Dp l xs) (hz:Dm l<=900000) (hc:∀a,a∈l->a.keys.length+a.val.cnt<=100000)
  (hk1:∀T cur ub ul uf st',If l= .ok (T,cur)->AY (Ae T)=0->(Ae T).sz<=1+Dm l->VlR St.zero (Ae T) (Aq (Ae T).sc ub ul uf)->List.all (Aq (Ae T).sc ub ul uf) Ah=true->
   K (Ae T).sc.kind (Ae T).sc.b (Ae T).sc.neg (Ae T).sc.dg (Ae T).sc.ex (Ae T).sc.tk (Ae T).sc.td (Ae T).sc.tn (Ae T).sc.tz (Ae T).sc.text ub ul uf 0 0 st')
  (hk2:∀(i e:Nat) st',If l= .error (i,e)->e≠0->K 0 false false [] 0 0 0 0 0 [] .nilSlice .nilSlice .nilSlice i e st'):
  CallT PR Er [v] [.agg [.int .i64,.bool,.bool,.str,.int .i64,.int .i64,.int .i64,.int .i64,.int .i64,.str,.tv,.tv,.tv],.one (.int .i64),.one (.int .i64)] st K:=by
 refine Kp v st K (Pa hr ha hz hc (fun bb ub T cur u σ st' h hu H hN hNe hV hs=>?_) fun i e st' h he=>Ab (fun _=>hk2 i e st' h he) fun h0=>absurd (by omega) h0)
 refine Ab (fun h=>absurd rfl h) fun _=>Aa rfl (Aa rfl (Ad (x:= .box T.b 0) (by simp only[Ac,At,H.cell];rfl) ?_))
 refine K0 (Ae T).cnt T 1 (Nat.le_refl _) (by have:=Dv hV;omega) H.hp.sh hN H.hp.lt fun uf st2 hv ho e2=>?_
 refine Kf (v:=Ae T) (by omega) (Dv hV) (VlR.keep (BS st2) hv) fun ub' ul' uf' st3 hv3 o1 o2 o3 _ _=>Aa (Bi o1 o2 o3) ?_
 have e1:Ae (erT T)=Ae T:=Kr T
 have:=hk1 (erT T) cur ub' ul' uf' st3 h (by rw[e1];exact hV) (by rw[e1];exact hs) (by rw[e1];exact hv3) (by rw[e1];exact Bi o1 o2 o3)
 rw[e1]at this
 exact this
section
theorem Oa {k:Nat} {tv:List TV} (h:strQ k tv):∃l,tv=[.str l]:=by
 obtain⟨l,rfl,_⟩:=h;exact⟨l,rfl⟩
abbrev stepQs:List (Nat×(Nat->List TV->Prop)):=[(1,cellQ .bool),(1,strQ),(1,cellQ (.int .i64))]
abbrev asgQs:List (Nat×(Nat->List TV->Prop)):=[(1,cellQ .bool),(1,cellQ .bool),(1,Kw 1 strQ),(13,valQ)]
theorem To {k:Nat} {tv:List TV} (h:inQ stepQs k tv):∃s:AT,tv=Ca s:=by
 obtain⟨_,_,_,_,_,_,rfl,_,t1,⟨_,_,_,_,rfl,_,t2,⟨_,_,_,_,rfl,_,t3,rfl,_⟩,_⟩,_⟩:=h
 obtain⟨b,rfl⟩:=FO t1
 obtain⟨l,rfl⟩:=Oa t2
 obtain⟨n,rfl⟩:=Eu t3
 exact⟨(b,l,n),rfl⟩
theorem SlQ.strs {k:Nat} {v:TV} (h:SlQ 1 strQ k v):∃l:List B8,Rd 1 v l.length (l.map TV.str):=by
 rcases h with rfl | ⟨ps,rfl,h,hkk⟩
 ·exact⟨[],.inl ⟨rfl,rfl,rfl⟩⟩
 ·have:∃l:List B8,l.length=ps.length/\(ps.map (·.1)).flatten=l.map TV.str:=by
   clear hkk
   induction ps with
   | nil=>exact⟨[],rfl,rfl⟩
   | cons p r ih=>
    obtain⟨l,h1,h2⟩:=ih (fun q hq=>h q (.tail _ hq))
    obtain⟨s,hs⟩:=Oa (h p (.head _)).2
    exact⟨s::l,by simp[h1],by rw[List.map_cons,List.flatten_cons,hs,h2];rfl⟩
  obtain⟨l,h1,h2⟩:=this
  exact⟨l,.inr ⟨.non,by rw[h1,h2]⟩⟩
theorem SlQ.steps {k:Nat} {v:TV} (h:SlQ 3 (inQ stepQs) k v):∃ss,BA v ss:=by
 rcases h with rfl | ⟨ps,rfl,h,hkk⟩
 ·exact⟨[],.inl ⟨rfl,rfl,rfl⟩⟩
 ·have:∃ss:List AT,ss.length=ps.length/\(ps.map (·.1)).flatten=ss.flatMap Ca:=by
   clear hkk
   induction ps with
   | nil=>exact⟨[],rfl,rfl⟩
   | cons p r ih=>
    obtain⟨l,h1,h2⟩:=ih (fun q hq=>h q (.tail _ hq))
    obtain⟨s,hs⟩:=To (h p (.head _)).2
    exact⟨s::l,by simp[h1],by rw[List.map_cons,List.flatten_cons,hs,h2,List.flatMap_cons]⟩
  obtain⟨l,h1,h2⟩:=this
  exact⟨l,.inr ⟨.non,by rw[h1,h2]⟩⟩
theorem UN {k:Nat} {tv:List TV} (h:inQ asgQs k tv):∃a:Asg,QQ a tv:=by
 obtain⟨_,_,_,_,_,_,rfl,_,t1,⟨_,_,_,_,rfl,_,t2,⟨_,_,_,_,rfl,_,⟨kv,rfl,t3⟩,⟨_,_,_,_,rfl,_,⟨v,hv,_⟩,rfl,_⟩,_⟩,_⟩,_⟩:=h
 obtain⟨b1,rfl⟩:=FO t1
 obtain⟨b2,rfl⟩:=FO t2
 obtain⟨ks,hk⟩:=t3.strs
 exact⟨⟨b1,b2,ks,v⟩,kv,_,by simp,hk,hv⟩
theorem SlQ.asgs {k:Nat} {v:TV} (h:SlQ 16 (inQ asgQs) k v):∃l xs,Rd 16 v (List.length l) xs/\Dp l xs:=by
 rcases h with rfl | ⟨ps,rfl,h,hkk⟩
 ·exact⟨[],[],.inl ⟨rfl,rfl,rfl⟩,by unfold Dp;rfl⟩
 ·have:∃l:List Asg,l.length=ps.length/\Dp l (ps.map (·.1)).flatten:=by
   clear hkk
   induction ps with
   | nil=>exact⟨[],rfl,by unfold Dp;rfl⟩
   | cons p r ih=>
    obtain⟨l,h1,h2⟩:=ih (fun q hq=>h q (.tail _ hq))
    obtain⟨a,ha⟩:=UN (h p (.head _)).2
    exact⟨a::l,by simp[h1],by unfold Dp;exact⟨_,_,by simp,ha,h2⟩⟩
  obtain⟨l,h1,h2⟩:=this
  exact⟨l,_,.inr ⟨.non,by rw[h1]⟩,h2⟩
def IsSteps (v:TV):Prop:=∃ss,BA v ss
def IsAsgs (v:TV):Prop:=∃l xs,Rd 16 v (List.length l) xs/\Dp l xs
section
variable {H:Type} {enc:TypeId×Value->H} {P:Program} {w:World} {base b0:Nat} {held:Bool} {bk:DataW H->Nat}
theorem open_stepsQ {t e:TypeId} {v:Value} {d:DataW H} {p:List MemPlace} (ht:P.underlying t=some (.slice e)) (hop:∀n,OpQ bk enc P w base held n 1 (Kw 3 (inQ stepQs)) t)
  (hval:Value.okWide P w .any b0 t v) (h:DataW.Trod enc P w base (fun _=>true) held t v d p):∃tv,Rel (Ghost.start w) w tv v/\IsSteps tv:=by
 obtain⟨n,hn⟩:=h
 have hv:v.cells.toList=[v]:=by
  simp only[Value.okWide,ht,Cell.okWide,Cell.ok]at hval
  split at hval<;>first | rfl | (simp_all) | exact hval.elim
 rw[hv]at hn
 obtain⟨cs,hr,_,u,rfl,hs⟩:=(hop n).2 _ _ hn
 obtain⟨ss,hg⟩:=hs.steps
 exact⟨u,hr.2 0 (by simp),ss,hg⟩
theorem open_asgs {t e:TypeId} {v:Value} {d:DataW H} {p:List MemPlace} (ht:P.underlying t=some (.slice e)) (hop:∀n,OpQ bk enc P w base held n 1 (Kw 16 (inQ asgQs)) t)
  (hval:Value.okWide P w .any b0 t v) (h:DataW.Trod enc P w base (fun _=>true) held t v d p):∃tv,Rel (Ghost.start w) w tv v/\IsAsgs tv:=by
 obtain⟨n,hn⟩:=h
 have hv:v.cells.toList=[v]:=by
  simp only[Value.okWide,ht,Cell.okWide,Cell.ok]at hval
  split at hval<;>first | rfl | (simp_all) | exact hval.elim
 rw[hv]at hn
 obtain⟨cs,hr,_,u,rfl,hs⟩:=(hop n).2 _ _ hn
 obtain⟨l,xs,h1,h2⟩:=hs.asgs
 exact⟨u,hr.2 0 (by simp),l,xs,h1,h2⟩
end
end
def scZ:Sc:=⟨0,false,false,[],0,0,0,0,0,[],[]⟩
def vlZ:Vl:= .mk scZ [] []
def E4 (f:List Fd) (key:B8):Vl×Bool:=match f.find? (fun d=>decide (d.key=key))with | some d=>(d.val,true) | none=>(vlZ,false)
theorem R5 (st:St) (s:Sc) (h:s.bytes=[]):VlR st (.mk s [] []) (Aq s .nilSlice .nilSlice .nilSlice):=by
 unfold VlR
 refine⟨_,_,_,[],[],rfl,?_,.of_rd (.inl ⟨rfl,rfl,rfl⟩),by unfold VsR;rfl,.of_rd (.inl ⟨rfl,rfl,rfl⟩),by unfold FsR;rfl⟩
 rw[h];exact .of_rd (.inl ⟨rfl,rfl,rfl⟩)
theorem UD {f:List Fd} {key:B8} {k:Nat} {d:Fd} (h:f[k]? =some d) (he:d.key=key) (hn:E4 f key=E4 (f.drop k) key):E4 f key=(d.val,true):=by
 rw[hn,Bt h]
 unfold E4
 rw[List.find?_cons_of_pos (by simpa using he)]
theorem Tl {f:List Fd} {key:B8} {k:Nat} {d:Fd} (h:f[k]? =some d) (he:¬d.key=key) (hn:E4 f key=E4 (f.drop k) key):E4 f key=E4 (f.drop (k+1)) key:=by
 rw[hn,Bt h]
 unfold E4
 rw[List.find?_cons_of_neg (by simpa using he)]
def Ll (c:UInt8):Vl:= .mk {scZ with kind:=2,dg:=[c]} [] []
end Go.TVF
