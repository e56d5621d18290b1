/- What the laws below rest on: a framework for Go programs, and contracts of the functions that they reach. -/
import Derived.Test.YtbbjecpcjdmfgaaGreatDoorSbE
import Derived.Shelf.Unicode.ValidAny
import Derived.Test.YtbbjecpcjdmfgaaGreatDoorProg
import Derived.Lib.ValidU
set_option maxRecDepth 20000
set_option linter.unusedVariables false
set_option linter.unusedSimpArgs false
namespace Go.TVF
open Go.IntKind(i64 u8)
open Go Go.Proofs
theorem Mp {k:B8}:∀{es:List Kn} {eb:Nat} {e:En},Am k es=some (eb,e)->∃P Q,es.map shK=P++(k,eb,shE e)::Q/\∀x,(Cc k x es).map shK=P++(k,eb,shE x)::Q
 | .mk k' eb' e'::r,eb,e,h=>by
  unfold Am at h
  by_cases hk:k=k'
  ·rw[if_pos hk]at h
   cases h
   subst hk
   exact⟨[],r.map shK,rfl,fun x=>by rw[Cc,if_pos rfl];rfl⟩
  ·rw[if_neg hk]at h
   obtain⟨P,Q,h1,h2⟩:=Mp h
   exact⟨shK (.mk k' eb' e')::P,Q,by rw[List.map_cons,h1];rfl,fun x=>by rw[Cc,if_neg hk,List.map_cons,h2 x];rfl⟩
theorem Mz {k k2:B8} {eb:Nat} {e e':ShE} {G:List (B8×Nat×ShE)}:∀F:List (B8×Nat×ShE),(Eb k2 (F++(k,eb,e')::G)).map (fun p=>TV.box p.1 0)=(Eb k2 (F++(k,eb,e)::G)).map fun p=>TV.box p.1 0
 | []=>by
  rw[List.nil_append,List.nil_append,Eb,Eb]
  split<;>rfl
 | (k',p)::F=>by
  rw[List.cons_append,List.cons_append,Eb,Eb]
  split
  ·rfl
  ·exact Mz F
theorem BH.more {bb ub eb n m nodes nodes':Nat} {now now' lv:TV} {T t:Tb} {σ:Nat->TV} {st st':St} {h:List Hop} {k:B8} {l:List Tb} {up:List (Nat×TV)} (H:BH bb ub now T nodes σ st) (hA:atT T h=some t) (hl:Am k t.es=some (eb,.lst l))
  (hnb:st.nb<=st'.nb) (hup:Un ub (shT 1 T) st up)
  (kx:∀x,x<st.nb->x≠bb->x≠ub->x≠eb->st'.box x=st.box x)
  (ke:st'.box eb= .cells (.nilPtr::lv::(z13++[.int .i64 0]))) (kr:C5 lv ((l.map fun t=> .box t.b 0)++[.box n 0]))
  (kb:st'.box bb= .cells [.box T.b 0,now',.map ub,.int .i64 nodes']) (ku:st'.box ub= .pmap (Ex n (.bool true) up))
  (kn:st'.box n= .cells [.nilSlice,.map m,.int .i64 ((1+dpH h+2:Nat):Int)]) (km:st'.box m= .map []) (hn:st.nb<=n/\n<st'.nb) (hm:st.nb<=m/\m<st'.nb) (hnm:n≠m)
  (htip:∀id,A9 lv=some id->st.nt<=id/\id<st'.nt/\st'.live id=true)
  (hlv:∀i,i<st.nt->st.live i=true->A9 (σ eb)≠some i->i<st'.nt/\st'.live i=true):
  BH bb ub now' (AK T h (Ds t k (.lst (l++[.mk n m false []])))) nodes' (fun x=>if x=eb then lv else if x<st.nb then σ x else .nilSlice) st':=by
 obtain⟨A,B,e1,e2⟩:=HR h hA 1
 rw[Es (1+dpH h) t]at e1
 have hp:=H.hp
 rw[e1]at hp
 have ht':=e2 (Ds t k (.lst (l++[.mk n m false []]))) rfl
 obtain⟨P,Q,p1,p2⟩:=FU (1+dpH h) hl
 obtain⟨F,G,f1,f2⟩:=Mp hl
 have eC:shT (1+dpH h) (Ds t k (.lst (l++[.mk n m false []])))=⟨t.b,t.m,t.hd,1+dpH h,F++(k,eb,.lst (l.map Tb.b++[n]))::G⟩::(P++((A3 (1+dpH h) (.lst l)++[⟨n,m,false,1+dpH h+2,[]⟩])++Q)):=by
  unfold Ds
  rw[shT,f2,p2]
  congr 2
  ·show F++(k,eb,ShE.lst ((l++[Tb.mk n m false []]).map Tb.b))::G=_
   rw[List.map_append];rfl
  ·show A3 (1+dpH h) (.lst (l++[Tb.mk n m false []]))++Q=_
   rw[A3,IT,DC,DC,shT,BR,A3];rfl
 rw[eC]at ht'
 rw[f1,p1]at hp e1
 generalize A3 (1+dpH h) (.lst l)=S at*
 have hin:∀{x},x∈bxL (⟨t.b,t.m,t.hd,1+dpH h,F++(k,eb,shE (.lst l))::G⟩::(P++(S++Q)))->x∈bxL (A++((⟨t.b,t.m,t.hd,1+dpH h,F++(k,eb,shE (.lst l))::G⟩::(P++(S++Q)))++B)):=fun hx=>by
  rw[AF,AF];exact List.mem_append_right _ (List.mem_append_left _ hx)
 have hsm:(⟨t.b,t.m,t.hd,1+dpH h,F++(k,eb,shE (.lst l))::G⟩:Sh)∈A++((⟨t.b,t.m,t.hd,1+dpH h,F++(k,eb,shE (.lst l))::G⟩::(P++(S++Q)))++B):=List.mem_append_right A (List.mem_append_left B (List.mem_cons_self ..))
 have hS:=hp.sh _ hsm
 have heb:eb∈bxL (⟨t.b,t.m,t.hd,1+dpH h,F++(k,eb,shE (.lst l))::G⟩::(P++(S++Q))):=by
  rw[AX];exact List.mem_append_left _ (EB (x:=(k,eb,shE (.lst l))) (by simp))
 have leb:eb<st.nb:=hp.lt _ (hin heb)
 have bx:=H.bx
 have ux:=H.ux
 rw[e1]at bx ux
 have hbl:=H.bl
 have hul:=H.ul
 obtain⟨n1,n2,n3⟩:=I8 hp.nd
 --the boxes of the new shapes
 have eX:bxL (⟨t.b,t.m,t.hd,1+dpH h,F++(k,eb,.lst (l.map Tb.b++[n]))::G⟩::(P++((S++[⟨n,m,false,1+dpH h+2,[]⟩])++Q)))=(bxS ⟨t.b,t.m,t.hd,1+dpH h,F++(k,eb,shE (.lst l))::G⟩++(bxL P++bxL S))++([n,m]++bxL Q):=by
  rw[AX,AF,AF,AF]
  have:bxS ⟨t.b,t.m,t.hd,1+dpH h,F++(k,eb,.lst (l.map Tb.b++[n]))::G⟩=bxS ⟨t.b,t.m,t.hd,1+dpH h,F++(k,eb,shE (.lst l))::G⟩:=by simp[bxS]
  rw[this]
  show _++(bxL P++((bxL S++[n,m])++bxL Q))=_
  simp only[List.append_assoc]
 have eX0:bxL (⟨t.b,t.m,t.hd,1+dpH h,F++(k,eb,shE (.lst l))::G⟩::(P++(S++Q)))=(bxS ⟨t.b,t.m,t.hd,1+dpH h,F++(k,eb,shE (.lst l))::G⟩++(bxL P++bxL S))++bxL Q:=by
  rw[AX,AF,AF];simp only[List.append_assoc]
 have mem':∀{x},x∈bxL (⟨t.b,t.m,t.hd,1+dpH h,F++(k,eb,.lst (l.map Tb.b++[n]))::G⟩::(P++((S++[⟨n,m,false,1+dpH h+2,[]⟩])++Q)))->x∈bxL (⟨t.b,t.m,t.hd,1+dpH h,F++(k,eb,shE (.lst l))::G⟩::(P++(S++Q)))∨x=n∨x=m:=fun {x} hx=>by
  rw[eX]at hx
  rw[eX0]
  rcases List.mem_append.1 hx with h1 | h1
  ·exact .inl (List.mem_append_left _ h1)
  ·rcases List.mem_append.1 h1 with h1 | h1
   ·rcases List.mem_cons.1 h1 with h1 | h1
    ·exact .inr (.inl h1)
    ·exact .inr (.inr (List.mem_singleton.1 h1))
   ·exact .inl (List.mem_append_right _ h1)
 have same:∀x,x∈bxL (A++((⟨t.b,t.m,t.hd,1+dpH h,F++(k,eb,shE (.lst l))::G⟩::(P++(S++Q)))++B))->x≠eb->st'.box x=st.box x/\(if x=eb then lv else if x<st.nb then σ x else .nilSlice)=σ x:=fun x hx hne=>
  ⟨kx x (hp.lt x hx) (fun e=>bx (e▸hx)) (fun e=>ux (e▸hx)) hne,by rw[if_neg hne,if_pos (hp.lt x hx)]⟩
 have neb:∀{x},x∈bxL A∨x∈bxL B->x≠eb:=fun {x} hx e=>by subst e;exact hx.elim (n3 _ heb).1 (n3 _ heb).2
 have mAB:∀{x},x∈bxL A∨x∈bxL B->x∈bxL (A++((⟨t.b,t.m,t.hd,1+dpH h,F++(k,eb,shE (.lst l))::G⟩::(P++(S++Q)))++B)):=fun hx=>by
  rw[AF,AF];exact hx.elim (fun h=>List.mem_append_left _ h) fun h=>List.mem_append_right _ (List.mem_append_right _ h)
 have htipx:∀x,x∈bxL (⟨t.b,t.m,t.hd,1+dpH h,F++(k,eb,.lst (l.map Tb.b++[n]))::G⟩::(P++((S++[⟨n,m,false,1+dpH h+2,[]⟩])++Q)))->∀id,A9 (if x=eb then lv else if x<st.nb then σ x else .nilSlice)=some id->
   (x=eb/\A9 lv=some id)∨(x∈bxL (⟨t.b,t.m,t.hd,1+dpH h,F++(k,eb,shE (.lst l))::G⟩::(P++(S++Q)))/\x≠eb/\A9 (σ x)=some id):=fun x hx id hid=>by
  by_cases hxe:x=eb
  ·rw[if_pos hxe]at hid;exact .inl ⟨hxe,hid⟩
  ·rw[if_neg hxe]at hid
   rcases mem' hx with h1 | h1 | h1
   ·rw[if_pos (hp.lt x (hin h1))]at hid;exact .inr ⟨h1,hxe,hid⟩
   ·rw[if_neg (by omega)]at hid;cases hid
   ·rw[if_neg (by omega)]at hid;cases hid
 have n2':=n2
 rw[AX]at n2'
 obtain⟨c1,c2,c3⟩:=List.nodup_append.1 n2'
 have hebS:eb∈bxS ⟨t.b,t.m,t.hd,1+dpH h,F++(k,eb,shE (.lst l))::G⟩:=EB (x:=(k,eb,shE (.lst l))) (by simp)
 have itb:t.b∈bxL (⟨t.b,t.m,t.hd,1+dpH h,F++(k,eb,shE (.lst l))::G⟩::(P++(S++Q))):=by rw[AX];exact List.mem_append_left _ (.head _)
 have itm:t.m∈bxL (⟨t.b,t.m,t.hd,1+dpH h,F++(k,eb,shE (.lst l))::G⟩::(P++(S++Q))):=by rw[AX];exact List.mem_append_left _ (.tail _ (.head _))
 have hebM:eb∈(F++(k,eb,shE (.lst l))::G).map fun x=>x.2.1:=List.mem_map.2 ⟨(k,eb,shE (.lst l)),by simp,rfl⟩
 have d1:t.b≠eb:=fun e=>(List.nodup_cons.1 c1).1 (.tail _ (e▸hebM))
 have d2:t.m≠eb:=fun e=>(List.nodup_cons.1 (List.nodup_cons.1 c1).2).1 (e▸hebM)
 have dFG:((F.map fun x=>x.2.1)++eb::(G.map fun x=>x.2.1)).Nodup:=by
  have:=(List.nodup_cons.1 (List.nodup_cons.1 c1).2).2
  simpa using this
 have dF:∀x,x∈F->x.2.1≠eb:=fun x hx e=>(List.nodup_append.1 dFG).2.2 x.2.1 (List.mem_map.2 ⟨x,hx,rfl⟩) eb (.head _) e
 have dG:∀x,x∈G->x.2.1≠eb:=fun x hx e=>(List.nodup_cons.1 (List.nodup_append.1 dFG).2.1).1 (e▸List.mem_map.2 ⟨x,hx,rfl⟩)
 have rest:∀s,s∈P++(S++Q)->LN (fun x=>if x=eb then lv else if x<st.nb then σ x else .nilSlice) st' s:=fun s hs=>by
  refine(hp.sh s (List.mem_append_right _ (List.mem_append_left _ (.tail _ hs)))).fr fun x hx=>?_
  have hx':x∈bxL (P++(S++Q)):=Bh hs hx
  exact same x (hin (by rw[AX];exact List.mem_append_right _ hx')) fun e=>c3 eb hebS x hx' e.symm
 have HP':HP (fun x=>if x=eb then lv else if x<st.nb then σ x else .nilSlice) st' (A++((⟨t.b,t.m,t.hd,1+dpH h,F++(k,eb,.lst (l.map Tb.b++[n]))::G⟩::(P++((S++[⟨n,m,false,1+dpH h+2,[]⟩])++Q)))++B)):=by
  refine HP.upd hp hnb (fun x hx=>same x (mAB hx) (neb hx)) (fun x hx id hid=>?_) (fun s hs=>?_) ?_ (fun x hx=>?_) (fun x hx id hid=>?_) fun x hx y hy hne id g1 g2=>?_
  ·have hq:=hp.tip x (mAB hx) id hid
   exact hlv id hq.1 hq.2 fun e=>hp.td x (mAB hx) eb (hin heb) (neb hx) id hid e
  ·rcases List.mem_cons.1 hs with rfl | hs
   ·have q1:=same _ (hin itb) d1
    have q2:=same _ (hin itm) d2
    refine⟨?_,?_,?_,fun x hx=>?_⟩
    ·show st'.box t.b= .cells [(if t.b=eb then lv else if t.b<st.nb then σ t.b else .nilSlice),_,_]
     rw[q1.1,q1.2];exact hS.cell
    ·show C5 (if t.b=eb then lv else if t.b<st.nb then σ t.b else .nilSlice) _
     rw[q1.2]
     have:=hS.row
     simp only[List.map_append,List.map_cons]at this⊢
     exact this
    ·obtain⟨mp,h1,h2⟩:=hS.mp
     refine⟨mp,by show st'.box t.m=_;rw[q2.1];exact h1,fun k2=>?_⟩
     rw[h2 k2]
     exact(Mz F).symm
    ·rcases List.mem_append.1 hx with h1 | h1
     ·have:=same x.2.1 (hin (by rw[AX];exact List.mem_append_left _ (EB (s:=⟨t.b,t.m,t.hd,1+dpH h,F++(k,eb,shE (.lst l))::G⟩) (List.mem_append_left _ h1)))) (dF x h1)
      exact(hS.en x (List.mem_append_left _ h1)).fr this.1 this.2
     ·rcases List.mem_cons.1 h1 with rfl | h1
      ·refine⟨?_,by simp,?_⟩
       ·show C5 (if eb=eb then lv else _) _
        rw[if_pos rfl,List.map_append,List.map_map];exact kr
       ·show st'.box eb= .cells (.nilPtr::(if eb=eb then lv else _)::_)
        rw[if_pos rfl];exact ke
      ·have:=same x.2.1 (hin (by rw[AX];exact List.mem_append_left _ (EB (s:=⟨t.b,t.m,t.hd,1+dpH h,F++(k,eb,shE (.lst l))::G⟩) (List.mem_append_right _ (.tail _ h1))))) (dG x h1)
       exact(hS.en x (List.mem_append_right _ (.tail _ h1))).fr this.1 this.2
   ·rcases List.mem_append.1 hs with h1 | h1
    ·exact rest s (List.mem_append_left _ h1)
    ·rcases List.mem_append.1 h1 with h1 | h1
     ·rcases List.mem_append.1 h1 with h1 | h1
      ·exact rest s (List.mem_append_right _ (List.mem_append_left _ h1))
      ·rw[List.mem_singleton.1 h1]
       have s4:(if n=eb then lv else if n<st.nb then σ n else .nilSlice)= .nilSlice:=by rw[if_neg (by omega),if_neg (by omega)]
       exact⟨by show st'.box n= .cells [(if n=eb then lv else if n<st.nb then σ n else .nilSlice),_,_];rw[s4];exact kn,by show C5 (if n=eb then lv else if n<st.nb then σ n else .nilSlice) _;rw[s4];exact C5.nil,⟨[],km,fun _=>rfl⟩,fun x hx=>by cases hx⟩
     ·exact rest s (List.mem_append_right _ (List.mem_append_right _ h1))
  ·rw[eX]
   rw[eX0]at n2
   obtain⟨b1,b2,b3⟩:=List.nodup_append.1 n2
   have ol:∀{x},x∈(bxS ⟨t.b,t.m,t.hd,1+dpH h,F++(k,eb,shE (.lst l))::G⟩++(bxL P++bxL S))++bxL Q->x<st.nb:=fun hx=>hp.lt _ (hin (by rw[eX0];exact hx))
   have mm:∀{y},y∈ [n,m]->st.nb<=y:=fun {y} hy=>by
    rcases List.mem_cons.1 hy with rfl | hy
    ·exact hn.1
    ·rw[List.mem_singleton.1 hy];exact hm.1
   refine List.nodup_append.2 ⟨b1,List.nodup_append.2 ⟨by simp[hnm],b2,fun x hx y hy e=>?_⟩,fun x hx y hy e=>?_⟩
   ·have g1:=mm hx
    have g2:=ol (List.mem_append_right _ hy)
    omega
   ·rcases List.mem_append.1 hy with h1 | h1
    ·have g1:=mm h1
     have g2:=ol (List.mem_append_left _ hx)
     omega
    ·exact b3 x hx y h1 e
  ·rcases mem' hx with h1 | h1 | h1
   ·exact⟨Nat.lt_of_lt_of_le (hp.lt x (hin h1)) hnb,.inl h1⟩
   ·exact⟨by omega,.inr (by omega)⟩
   ·exact⟨by omega,.inr (by omega)⟩
  ·rcases htipx x hx id hid with⟨_,h1⟩ | ⟨h1,h2,h3⟩
   ·have:=htip id h1;exact⟨this.2.1,this.2.2,.inr this.1⟩
   ·have hq:=hp.tip x (hin h1) id h3
    have:=hlv id hq.1 hq.2 fun e=>hp.td x (hin h1) eb (hin heb) h2 id h3 e
    exact⟨this.1,this.2,.inl ⟨x,h1,h3⟩⟩
  ·rcases htipx x hx id g1 with⟨h1,h1'⟩ | ⟨h1,h2,h3⟩<;>rcases htipx y hy id g2 with⟨h4,h4'⟩ | ⟨h4,h5,h6⟩
   ·exact hne (h1.trans h4.symm)
   ·have:=(htip id h1').1;have:=(hp.tip y (hin h4) id h6).1;omega
   ·have:=(htip id h4').1;have:=(hp.tip x (hin h1) id h3).1;omega
   ·exact hp.td x (hin h1) y (hin h4) hne id h3 h6
 have isc:∀p,p∈up->Ao st' p.1=true/\p.1<st'.nb:=fun p hp'=>by
  obtain⟨q1,q2⟩:=hup.ok p hp'
  refine⟨?_,by omega⟩
  by_cases c3:p.1=bb
  ·rw[c3];simp[Ao,kb]
  ·by_cases c4:p.1=ub
   ·rw[c4]at q1;simp[Ao,hup.box]at q1
   ·by_cases c5:p.1=eb
    ·rw[c5];simp[Ao,ke]
    ·simp only[Ao,kx _ q2 c3 c4 c5]at q1⊢;exact q1
 have fdo:∀s,s∈A++((⟨t.b,t.m,t.hd,1+dpH h,F++(k,eb,shE (.lst l))::G⟩::(P++(S++Q)))++B)->BA s.b (Ex n (.bool true) up)=(if s.hd=true then none else some (.bool true)):=fun s hs=>by
  have hlt:s.b<st.nb:=hp.lt _ (Bh hs (.head _))
  rw[D3,if_neg (by omega)]
  exact hup.fd s (by rw[e1];exact hs)
 have memb:∀x,x∈bxL (A++((⟨t.b,t.m,t.hd,1+dpH h,F++(k,eb,.lst (l.map Tb.b++[n]))::G⟩::(P++((S++[⟨n,m,false,1+dpH h+2,[]⟩])++Q)))++B))->
   x∈bxL (A++((⟨t.b,t.m,t.hd,1+dpH h,F++(k,eb,shE (.lst l))::G⟩::(P++(S++Q)))++B))∨st.nb<=x:=fun x hx=>by
  rw[AF,AF]at hx
  rcases List.mem_append.1 hx with h1 | h1
  ·exact .inl (mAB (.inl h1))
  ·rcases List.mem_append.1 h1 with h1 | h1
   ·rcases mem' h1 with h2 | h2 | h2
    ·exact .inl (hin h2)
    ·exact .inr (by omega)
    ·exact .inr (by omega)
   ·exact .inl (mAB (.inr h1))
 have hsb:(AK T h (Ds t k (.lst (l++[Tb.mk n m false []])))).b=T.b:=Fi h hA rfl
 refine⟨by rw[ht'];exact HP',by rw[hsb];exact kb,⟨_,ku,?_,fun p hp'=>?_,fun s hs=>?_⟩,by omega,by omega,fun hx=>?_,fun hx=>?_⟩
 ·rw[HA _ _ _ fun p hp' e=>by have:=(hup.ok p hp').2;omega]
  refine List.nodup_append.2 ⟨hup.nd,by simp,fun x hx y hy e=>?_⟩
  obtain⟨p,hp',rfl⟩:=List.mem_map.1 hx
  have:=(hup.ok p hp').2
  rw[List.mem_singleton.1 hy]at e
  omega
 ·rcases IV _ _ _ p hp' with rfl | hp'
  ·exact⟨by simp[Ao,kn],hn.2⟩
  ·exact isc p hp'
 ·rw[ht']at hs
  rcases List.mem_append.1 hs with h1 | h1
  ·exact fdo s (List.mem_append_left _ h1)
  ·rcases List.mem_append.1 h1 with h1 | h1
   ·rcases List.mem_cons.1 h1 with rfl | h1
    ·exact fdo ⟨t.b,t.m,t.hd,1+dpH h,F++(k,eb,shE (.lst l))::G⟩ hsm
    ·rcases List.mem_append.1 h1 with h1 | h1
     ·exact fdo s (List.mem_append_right _ (List.mem_append_left _ (.tail _ (List.mem_append_left _ h1))))
     ·rcases List.mem_append.1 h1 with h1 | h1
      ·rcases List.mem_append.1 h1 with h1 | h1
       ·exact fdo s (List.mem_append_right _ (List.mem_append_left _ (.tail _ (List.mem_append_right _ (List.mem_append_left _ h1)))))
       ·rw[List.mem_singleton.1 h1,D3,if_pos rfl];rfl
      ·exact fdo s (List.mem_append_right _ (List.mem_append_left _ (.tail _ (List.mem_append_right _ (List.mem_append_right _ h1)))))
   ·exact fdo s (List.mem_append_right _ (List.mem_append_right _ h1))
 ·rw[ht']at hx
  rcases memb bb hx with h1 | h1
  ·exact bx h1
  ·omega
 ·rw[ht']at hx
  rcases memb ub hx with h1 | h1
  ·exact ux h1
  ·omega
theorem JN {t:Tb} {k:B8} {eb:Nat} {e x:En} (h:Am k t.es=some (eb,e)):Am k (Ds t k x).es=some (eb,x):=by
 have:=SJ (k2:=k) (x:=x) h
 rw[if_pos rfl]at this;exact this
theorem cnt_lst (T t:Tb) {h:List Hop} {k:B8} {eb:Nat} {l:List Tb} {u:Tb} (hA:atT T h=some t) (hl:Am k t.es=some (eb,.lst l)):(Af (AK T h (Ds t k (.lst (l++[u]))))).cnt=(Af T).cnt+(Af u).cnt:=by
 have h1:=(DK h hA (Ds t k (.lst (l++[u])))).cnt
 obtain⟨F,G,f1,f2⟩:=DY hl
 have e1:(Af (Ds t k (.lst (l++[u])))).cnt=(Af t).cnt+(Af u).cnt:=by
  unfold Ds
  rw[Af,f2,Fx t,f1]
  have:Br (l++[u])=Br l++[Af u]:=by rw[CZ,CZ,List.map_append];rfl
  simp only[Vl.cnt,EL,Ay,Fd.cnt,AQ,this,DT,Az]
  omega
 omega
theorem ent_bx {bb ub nodes eb:Nat} {now:TV} {T t:Tb} {σ:Nat->TV} {st:St} {h:List Hop} {k:B8} {e:En} (H:BH bb ub now T nodes σ st) (hA:atT T h=some t) (hl:Am k t.es=some (eb,e)):eb∈bxL (shT 1 T):=
 Bh (H.tab hA).2 (EB (x:=(k,eb,shE e)) (List.mem_map.2 ⟨.mk k eb e,HG hl,rfl⟩))
theorem RK {bb ub eb:Nat} {now:TV} {T t:Tb} {σ:Nat->TV} {st:St} {h:List Hop} {k:B8} {l:List Tb} {K:Int->St->Prop} (H:BH bb ub now T (Af T).cnt σ st) (hA:atT T h=some t) (hl:Am k t.es=some (eb,.lst l)) (hc:(Af T).cnt<=800000)
  (hk:∀nu σ' st',BH bb ub (.box nu.b 0) (AK T h (Ds t k (.lst (l++[AN nu false])))) ((Af T).cnt+1) σ' st'->K 0 st'):
  Ai (Ac st [] (.t (.box t.b 2)) 0) fun x7=>AS (.int .i64) x7 fun n3=>CallT PR Ax [.box bb 0,.int .i64 (IntKind.wrap .i64 (n3+2))] [.one .tv] st fun v7 st7=>need (List.all [v7] Aq) (stB st7 (.box bb 1) [v7] fun st8=>
   Ai (Ac st8 [] (.t (.box eb 1)) 0) fun v8=>Ai (Ac st8 [] (.t (.box bb 1)) 0) fun v9=>need (List.all [v9] Aq) (need (List.all [v9] Aq) (Bl 71 1 8 v8 1 [v9] st8 fun v10 st9=>need (List.all [v10] Aq) (stB st9 (.box eb 1) [v10] fun st10=>K 0 st10)))):=by
 obtain⟨up,hup⟩:=H.un
 have hbl:=H.bl
 have hul:=H.ul
 have hbu:=H.bu
 have hdp:=Lv hA
 have hent:=H.ent hA hl
 obtain⟨g1,g2,g3⟩:=hent
 have hebx:=ent_bx H hA hl
 have leb:eb<st.nb:=H.hp.lt _ hebx
 have eb1:eb≠bb:=fun e=>H.bx (e▸hebx)
 have eb2:eb≠ub:=fun e=>H.ux (e▸hebx)
 refine H.ldd hA (Cj ?_)
 have hwd:IntKind.wrap .i64 (((1+dpH h:Nat):Int)+2)=((1+dpH h+2:Nat):Int):=by rw[Aj _ (by omega) (by omega)];simp
 rw[hwd]
 refine HK H.cell hup.box hbl hul hup.ok ⟨by omega,by omega⟩ fun st7 q1 q2 q3 q4=>Aa rfl ?_
 have hbb7:st7.box bb= .cells [.box T.b 0,now,.map ub,.int .i64 (((Af T).cnt:Int)+1)]:=by rw[q2];simp only;rw[if_pos trivial]
 refine⟨_,hbb7,by simp,?_⟩
 generalize hst8:st7.put bb (.cells (setAll [.box T.b 0,now,.map ub,.int .i64 (((Af T).cnt:Int)+1)] 1 [.box (st.nb+1) 0]))=st8
 have bx8:∀x,st8.box x=if x=bb then .cells [.box T.b 0,.box (st.nb+1) 0,.map ub,.int .i64 (((Af T).cnt:Int)+1)]else st7.box x:=fun x=>by rw[<-hst8];rfl
 have nbs8:st8.nb=st.nb+2:=by rw[<-hst8];show st7.nb=_;omega
 have nts8:st8.nt=st.nt:=by rw[<-hst8];show st7.nt=_;omega
 have lvs8:st8.live=st.live:=by rw[<-hst8];show st7.live=_;rw[q4]
 have he8:st8.box eb= .cells (.nilPtr::σ eb::(z13++[.int .i64 0])):=by
  rw[bx8,if_neg eb1,q2];simp only
  rw[if_neg eb1,if_neg eb2,if_neg (by omega),if_neg (by omega)];exact g3
 refine Ad (x:=σ eb) (by simp only[Ac,he8];rfl) (Ad (x:= .box (st.nb+1) 0) (by simp only[Ac,bx8,if_pos trivial];rfl) (Aa rfl (Aa rfl ?_)))
 have hll:=SH hl
 have hlt:=(Q9 hA).1
 refine LJ g1 (fun id hid=>?_) (by rw[List.length_map,List.length_map];omega) fun v10 st9 w1 w2 w3 w4 w5 w6 w7 w8=>?_
 ·rw[nts8,lvs8];exact H.hp.tip eb hebx id hid
 have w1':Aq v10=true:=by
  rcases w1 with⟨_,hx⟩ | ⟨tip,h9,_⟩
  ·simp at hx
  ·rw[h9];rfl
 have he9:st9.box eb= .cells (.nilPtr::σ eb::(z13++[.int .i64 0])):=by rw[w3];exact he8
 refine Aa (by simp[w1']) ⟨_,he9,by simp,?_⟩
 generalize hst10:st9.put eb (.cells (setAll (.nilPtr::σ eb::(z13++[.int .i64 0])) 1 [v10]))=st10
 have bx10:∀x,st10.box x=if x=eb then .cells (.nilPtr::v10::(z13++[.int .i64 0]))else st8.box x:=fun x=>by rw[<-hst10,<-w3];rfl
 have nbs10:st10.nb=st.nb+2:=by rw[<-hst10];show st9.nb=_;omega
 have nts10:st10.nt=st.nt+1:=by rw[<-hst10];show st9.nt=_;omega
 have lvs10:st10.live=st9.live:=by rw[<-hst10];rfl
 rw[nts8]at w2 w7 w8
 refine hk ⟨st.nb+1,st.nb,0⟩ _ st10 (BH.more (n:=st.nb+1) (m:=st.nb) (lv:=v10) H hA hl (by omega) hup (fun x h1 h2 h3 h4=>?_) ?_ ?_ ?_ ?_ ?_ ?_ ⟨by omega,by omega⟩ ⟨Nat.le_refl _,by omega⟩ (by omega) (fun id hid=>?_) fun i h1 h2 h3=>?_)
 ·rw[bx10,if_neg h4,bx8,if_neg h2,q2];simp only
  rw[if_neg h2,if_neg h3,if_neg (by omega),if_neg (by omega)]
 ·rw[bx10,if_pos rfl]
 ·rw[List.map_map]at w1;exact w1
 ·rw[bx10,if_neg (Ne.symm eb1),bx8,if_pos rfl];simp
 ·rw[bx10,if_neg (Ne.symm eb2),bx8,if_neg (Ne.symm hbu),q2];simp only
  rw[if_neg (Ne.symm hbu),if_pos trivial]
 ·rw[bx10,if_neg (by omega),bx8,if_neg (by omega),q2];simp only
  rw[if_neg (by omega),if_neg (by omega),if_pos trivial]
 ·rw[bx10,if_neg (by omega),bx8,if_neg (by omega),q2];simp only
  rw[if_neg (by omega),if_neg (by omega),if_neg (by omega),if_pos trivial]
 ·rw[w2]at hid
  cases hid
  exact⟨Nat.le_refl _,by omega,by rw[lvs10];exact w7⟩
 ·exact⟨by omega,by rw[lvs10,w8 i h1 h3,lvs8];exact h2⟩
theorem Po {bb ub:Nat} {now:TV} {T t:Tb} {σ:Nat->TV} {st:St} {h:List Hop} {k:B8} {K:Int->St->Prop} (H:BH bb ub now T (Af T).cnt σ st) (hA:atT T h=some t) (hc:(Af T).cnt<=800000)
  (hk1:∀nu T' h' u σ' st',Kd nu T t h k= .ok (T',h')->atT T' h'=some u->BH bb ub (.box u.b 0) T' (Af T').cnt σ' st'->(Af T').cnt<=(Af T).cnt+2->K 0 st')
  (hk2:∀nu st',Kd nu T t h k= .error 6->K 6 st'):
  CallT PR BM [.box bb 0,.box t.b 0,.str k] [.one (.int .i64)] st K:=by
 refine EQ bb t.b k st K (H.ldm hA (H.map hA fun es hes=>?_))
 rw[hes k]
 have nu0:Nu:=⟨0,0,0⟩
 rcases hl:Am k t.es with _ | ⟨eb,e⟩
 ·rw[Option.map_none]
  refine Aa rfl ?_
  show CallT _ _ _ _ _ _
  refine Te H hA hl hc fun nu σ' st' H1=>?_
  have hcn:=KA (k:=k) (eb:=nu.eb) (e:= .lst [AN nu false]) hA
  have hc2:(AQ (.lst [AN nu false])).cnt=2:=by rw[AQ,Br,Br,AN,Af,AO];simp[Vl.cnt,Az,Ay]
  rw[hc2]at hcn
  rw[<-hcn]at H1
  have hl1:Am k (A8 t k nu.eb (.lst [AN nu false])).es=some (nu.eb,.lst [AN nu false]):=by
   have:=I9 (k2:=k) (eb:=nu.eb) (e:= .lst [AN nu false]) hl
   rw[if_pos rfl]at this;exact this
  exact hk1 nu _ _ (AN nu false) σ' st' (by unfold Kd;rw[hl]) (JZ (DM h hA) hl1 rfl) H1 (by omega)
 ·rw[Option.map_some]
  refine Aa rfl (show need _ _ from Aa rfl (Aa rfl (H.ent1 hA hl fun v hv=>Aa hv.sl ?_)))
  rw[hv.len]
  cases e with
  | opn u=>exact Ab (fun _=>hk2 nu0 st (by unfold Kd;rw[hl])) fun hne=>absurd rfl hne
  | clo v i=>exact Ab (fun _=>hk2 nu0 st (by unfold Kd;rw[hl])) fun hne=>absurd rfl hne
  | lst l=>
   have hne:l≠ []:=by have:=(H.ent hA hl).2.1;intro e;rw[e]at this;exact this rfl
   have hlp:0<l.length:=List.length_pos_iff.2 hne
   refine Ab (fun hz=>absurd hz (by simp[Oy];exact hne)) fun _=>?_
   refine RK H hA hl hc fun nu σ' st' H1=>?_
   have hcn:=cnt_lst T t (u:=AN nu false) hA hl
   have hc1:(Af (AN nu false)).cnt=1:=by rw[AN,Af,AO];simp[Vl.cnt,Az,Ay]
   rw[hc1]at hcn
   rw[<-hcn]at H1
   exact hk1 nu _ _ (AN nu false) σ' st' (by unfold Kd;rw[hl]) (JZ (DM h hA) (JN hl) (by simp)) H1 (by omega)
end Go.TVF
section
namespace Go.Proofs
open Go.Shelf
def Tryz.laysValid_ren:Go.Shelf.Ren:=⟨fun | 196=>107 | 259=>124 | n=>n,fun | 9=>9 | 4=>4 | 3=>3 | 5=>5 | 12=>12 | 119=>162 | 0=>0 | 46=>166 | 139=>165 | 138=>164 | 53=>176 | n=>n,fun | 3=>0 | 4=>1 | n=>n⟩
theorem Tryz.laysValid:Go.Proofs.Lays.n196 Tryz.prog Tryz.laysValid_ren:={
 mixed:=by kernel_rfl
 f196:=Tryz.func107.trans (congrArg some (by kernel_rfl))
 f259:=Tryz.func124.trans (congrArg some (by kernel_rfl))
 t0:=Tryz.underlying0
 a0:=Tryz.isAgg0
 z0:=Tryz.sizeOf0
 v0:=Tryz.zeroValue0
 t3:=Tryz.underlying3
 a3:=Tryz.isAgg3
 z3:=Tryz.sizeOf3
 v3:=Tryz.zeroValue3
 t4:=Tryz.underlying4
 a4:=Tryz.isAgg4
 z4:=Tryz.sizeOf4
 v4:=Tryz.zeroValue4
 t5:=Tryz.underlying5
 a5:=Tryz.isAgg5
 z5:=Tryz.sizeOf5
 v5:=Tryz.zeroValue5
 t9:=Tryz.underlying9
 a9:=Tryz.isAgg9
 z9:=Tryz.sizeOf9
 v9:=Tryz.zeroValue9
 t12:=Tryz.underlying12
 a12:=Tryz.isAgg12
 z12:=Tryz.sizeOf12
 v12:=Tryz.zeroValue12
 t46:=Tryz.underlying166
 a46:=Tryz.isAgg166
 z46:=Tryz.sizeOf166
 v46:=Tryz.zeroValue166
 t53:=Tryz.underlying176
 a53:=Tryz.isAgg176
 z53:=Tryz.sizeOf176
 v53:=Tryz.zeroValue176
 t119:=Tryz.underlying162
 a119:=Tryz.isAgg162
 z119:=Tryz.sizeOf162
 t138:=Tryz.underlying164
 a138:=Tryz.isAgg164
 z138:=Tryz.sizeOf164
 v138:=Tryz.zeroValue164
 t139:=Tryz.underlying165
 a139:=Tryz.isAgg165
 z139:=Tryz.sizeOf165
 v139:=Tryz.zeroValue165
 g3:=by kernel_rfl
 g4:=by kernel_rfl}
open Go.RowKit in
theorem Tryz.utf8_ValidString (s:ByteArray) (w:World) (hs:s.size<=9223372036854775807) (hT:Lib.Utf8Tabs 0 1 w):
  Calls Tryz.prog 107 #[.string s] w fun e w'=>e= .returned (.bool (Lib.validD s.data.toList))/\Below w.heap.size w w':=Any.utf8_ValidString Tryz.laysValid s w hs hT
end Go.Proofs
end
section
namespace Go.TVF
open Go.IntKind(i64 u8)
open Go Go.Proofs Go.RowKit
theorem Sim.grown {g:Ghost} {st:St} {loc:List (Option (List TV))} {w w':World} (s:Sim g st loc w) (h:Below w.heap.size w w'):Sim g st loc w'/\Ext g w g w':=
 s.world h.size (s.below.trans (h.mono s.fits)) h.block
theorem decL_dN {l:B8} (h:l≠ []):Lib.decodeL l=dN l:=by
 unfold Lib.decodeL dN bt
 rw[Lib.decode_at]
 have hg:∀i,(ByteArray.get! ⟨l.toArray⟩ i)=l.getD i 0:=fun i=>by
  simp[ByteArray.get!,List.getD]
  rfl
 simp only[hg,Nat.zero_add,Nat.sub_zero]
 rfl
theorem II:∀(n:Nat) (l:B8),l.length<=n->Lib.validGoD n l=decide (DO l=l.length)
 | 0,l,h=>by
  have:l=[]:=List.eq_nil_of_length_eq_zero (by omega)
  subst this
  simp[Lib.validGoD,BX [] (by simp[ul])]
 | n+1,l,h=>by
  unfold Lib.validGoD
  by_cases h0:l=[]
  ·subst h0
   simp[BX [] (by simp[ul])]
  ·rw[if_neg h0,decL_dN h0]
   have hl:l.length≠0:=fun e=>h0 (List.eq_nil_of_length_eq_zero e)
   by_cases hz:ul l=0
   ·have hd:=(Nd l h0).1 hz
    rw[if_pos (by rw[hd];exact⟨rfl,rfl⟩),BX l hz]
    exact(decide_eq_false (by omega)).symm
   ·have hd:=Tl l hz
    have hn:=ul_not l hz
    have hle:=Od l
    rw[if_neg (by rw[hd];exact hn),hd,II n (l.drop (ul l)) (by simp only[List.length_drop];omega),FQ l hz]
    simp only[List.length_drop]
    exact decide_eq_decide.2 (by omega)
theorem KM {l:B8} {st:St} {K:Bool->St->Prop} (hl:l.length<=9223372036854775807) (hk:K (decide (U8 l)) st):CallT PR Eu [.str l] [.one .bool] st K:=by
 refine Gm (fun _ _=>by kernel_rfl) fun g w vargs s hr=>?_
 obtain⟨v,rfl,hv⟩:=Sn hr
 rw[Hi hv]
 refine Calls.mono (Tryz.utf8_ValidString ⟨l.toArray⟩ w (by simpa [ByteArray.size]using hl) (s.glob w s.below)) ?_
 rintro e w' ⟨rfl,hb⟩
 obtain⟨s',e'⟩:=s.grown hb
 rw[show Lib.validD (ByteArray.mk l.toArray).data.toList=decide (U8 l)from II l.length l (Nat.le_refl _)]
 exact⟨_,rfl,.bool (decide (U8 l)),st,g,hk,s',Rel.bool _,e'⟩
end Go.TVF
end
namespace Go.TVF
open Go.IntKind(i64 u8)
open Go Go.Proofs
theorem zero_ok {v:Vl} {st0 st:St} {cs:List TV} {K:Bool->St->Prop} (h:VlR st0 v cs) (hk:K (KD v) st):CallT PR Cv [.agg cs] [.one .bool] st K:=by
 obtain⟨s,l,f⟩:=v
 obtain⟨ub,ul,uf,xl,xf,rfl,h1,h2,_,h3,_⟩:=h.cells
 have kf:¬(s=scO/\l=[]/\f=[])->K false st:=fun hn=>by
  have:KD (.mk s l f)=false:=by
   rw[Bool.eq_false_iff]
   intro e
   unfold KD at e
   simp only[Bool.and_eq_true,decide_eq_true_eq,List.isEmpty_iff]at e
   exact hn ⟨e.1.1,e.1.2,e.2⟩
  rw[<-this];exact hk
 refine Kh s.kind s.b s.neg s.dg s.ex s.tk s.td s.tn s.tz s.text ub ul uf st K (Ab (fun g1=>?_) fun g1=>kf fun e=>g1 (by rw[e.1];rfl))
 refine As (fun g2=>?_) fun g2=>kf fun e=>by rw[e.1]at g2;simp[scO]at g2
 refine As (fun g3=>?_) fun g3=>kf fun e=>by rw[e.1]at g3;simp[scO]at g3
 refine As (fun g4=>?_) fun g4=>kf fun e=>by rw[e.1]at g4;simp[scO]at g4
 refine Ab (fun g5=>?_) fun g5=>kf fun e=>g5 (by rw[e.1];rfl)
 refine Aa h1.isSl ?_
 rw[h1.lenS]
 refine Ab (fun g6=>?_) fun g6=>kf fun e=>g6 (by rw[e.1];rfl)
 refine Aa h2.isSl ?_
 rw[h2.lenS]
 refine Ab (fun g7=>?_) fun g7=>kf fun e=>g7 (by rw[e.2.1];rfl)
 refine Aa h3.isSl ?_
 rw[h3.lenS]
 have hs:s=scO:=by
  obtain⟨kind,b,neg,dg,ex,tk,td,tn,tz,text,bytes⟩:=s
  simp only[Bool.not_eq_true',Bool.and_true,Bool.and_eq_true,beq_iff_eq,decide_eq_true_eq]at g1 g2 g3 g4 g5 g6
  have:bytes=[]:=List.eq_nil_of_length_eq_zero (by omega)
  unfold scO
  simp only[g1,g2,g3.1,g3.2.1,g3.2.2,g4.1,g4.2.1,g4.2.2.1,g4.2.2.2,g5,this]
 have hl:l=[]:=List.eq_nil_of_length_eq_zero (by omega)
 have:decide ((f.length:Int)=0)=KD (.mk s l f):=by
  unfold KD
  rw[hs,hl]
  cases f<;>simp[Vl.sc,Vl.list,Vl.flds]<;>omega
 rw[this];exact hk
theorem Rz {a_0 a_1:Bool} {a_2:TV} {ks:List B8} {v:Vl} {st0 st:St} {cs:List TV} {K:Bool->St->Prop} (hr:Rd 1 a_2 ks.length (ks.map TV.str)) (h:VlR st0 v cs)
  (hk:K (D4 ⟨a_0,a_1,ks,v⟩) st):CallT PR CI [.agg (.bool a_0:: .bool a_1::a_2::cs)] [.one .bool] st K:=by
 have hz:∀{K:Bool->St->Prop},K (KD v) st->CallT PR Cv [.agg cs] [.one .bool] st K:=fun hk=>zero_ok h hk
 obtain⟨s,l,f⟩:=v
 obtain⟨ub,ul,uf,xl,xf,rfl,_⟩:=h.cells
 have hsl:isSl a_2=true:=by rcases hr with⟨rfl,_⟩ | ⟨tip,rfl⟩<;>rfl
 have hle:lenS a_2=ks.length:=by
  rcases hr with⟨rfl,e,_⟩ | ⟨tip,rfl⟩
  ·exact e.symm
  ·rfl
 unfold D4 at hk
 refine IG a_0 a_1 a_2 s.kind s.b s.neg s.dg s.ex s.tk s.td s.tn s.tz s.text ub ul uf st K (Aa hsl ?_)
 rw[hle]
 refine Ab (fun g=>?_) fun g=>?_
 ·have hne:ks.isEmpty=false:=by cases ks with | nil=>simp at g | cons a b=>rfl
  simp only[hne,Bool.not_false,Bool.true_and]at hk
  cases a_0 with
  | true=>exact hz (by simpa using hk)
  | false=>
   cases a_1 with
   | true=>exact(show K false st from by simpa using hk)
   | false=>exact(show K true st from by simpa using hk)
 ·have hne:ks=[]:=List.eq_nil_of_length_eq_zero (by omega)
  simp only[hne,List.isEmpty_nil,Bool.not_true,Bool.false_and]at hk
  exact hk
def PS (k:B8):Bool:= !(decide (U8 k)) || decide (1024<k.length)
theorem odd_ok {k:B8} {st:St} {K:Bool->St->Prop} (hl:k.length<=1000000) (hk:K (PS k) st):CallT PR Bc [.str k] [.one .bool] st K:=by
 refine KK k st K (KM (by omega) ?_)
 unfold PS at hk
 by_cases h:U8 k
 ·simp only[h,decide_true,Bool.not_true,Bool.false_or]at hk⊢
  show K (decide ((1024:Int)<(k.length:Int))) st
  have:decide ((1024:Int)<(k.length:Int))=decide (1024<k.length):=decide_eq_decide.2 (by omega)
  rw[this];exact hk
 ·simp only[h,decide_false,Bool.not_false,Bool.true_or]at hk⊢
  exact hk
theorem NL {a_2:TV} {ks:List B8} {st:St} {K:Bool->St->Prop} (hr:Rd 1 a_2 ks.length (ks.map TV.str)) (hl:∀k,k∈ks->k.length<=1000000) (hn:ks.length<=1000000) (hk:K (ks.any PS) st):
  CallT PR Av [a_2,.func Bc []] [.one .bool] st K:=by
 have hsl:isSl a_2=true:=by rcases hr with⟨rfl,_⟩ | ⟨tip,rfl⟩<;>rfl
 have hle:lenS a_2=ks.length:=by
  rcases hr with⟨rfl,e,_⟩ | ⟨tip,rfl⟩
  ·exact e.symm
  ·rfl
 have hlz:0<ks.length->lenZ 1 a_2=ks.length:=fun h0=>by
  rcases hr with⟨rfl,e,_⟩ | ⟨tip,rfl⟩
  ·omega
  ·rfl
 refine CJ a_2 _ st K (C9 a_2 _ st _ (Aa hsl ?_))
 refine⟨fun n_1 s_1 f_1 n_2 st1=>∃j:Nat,n_1=(j:Int)/\j<=ks.length/\s_1=a_2/\f_1= .func Bc []/\n_2=(ks.length:Int)/\st1=st/\(ks.take j).any PS=false,fun n_1 _ _ _ _=>ks.length-n_1.toNat,⟨0,rfl,Nat.zero_le _,rfl,rfl,by rw[hle],rfl,rfl⟩,?_⟩
 rintro n_1 s_1 f_1 n_2 st1 ⟨j,rfl,hj,rfl,rfl,rfl,rfl,ha⟩
 refine Ab (fun hlt=>?_) fun hge=>?_
 ·have hlt:j<ks.length:=by omega
  refine⟨⟨by omega,by rw[hlz (by omega)];omega⟩,?_⟩
  refine Ad (x:= .str (ks.getD j [])) ?_ (Dk ?_)
  ·have:=D0 hlt
   rcases hr with⟨rfl,e,_⟩ | ⟨tip,rfl⟩
   ·omega
   ·simp only[ixT,Ac,Int.toNat_natCast,Nat.mul_one,List.getElem?_drop,Nat.add_zero]
    exact this
  have hmem:ks.getD j []∈ks:=by
   rw[List.getD_eq_getElem?_getD,List.getElem?_eq_getElem hlt];exact List.getElem_mem hlt
  show CallT PR Bc [.str (ks.getD j [])] _ _ _
  refine odd_ok (hl _ hmem) (As (fun hb=>?_) fun hb=>?_)
  ·have:ks.any PS=true:=List.any_eq_true.2 ⟨_,hmem,hb⟩
   rw[this]at hk
   show K (decide ((0:Int)<=(j:Int))) _
   rw[decide_eq_true (by omega)];exact hk
  ·have hwj:IntKind.wrap .i64 ((j:Int)+1)=((j+1:Nat):Int):=by rw[Aj _ (by omega) (by omega)];simp
   rw[hwj]
   refine⟨⟨j+1,rfl,hlt,rfl,rfl,rfl,rfl,?_⟩,by simp only[Int.toNat_natCast];omega⟩
   rw[Hb hlt,List.any_append,ha,List.any_cons,hb];rfl
 ·have:j=ks.length:=by omega
  subst this
  rw[List.take_length]at ha
  rw[ha]at hk
  exact hk
def NdL (L:List Sh):Prop:=∀s,s∈L->(s.es.map fun x=>x.1).Nodup
theorem NdL.app {A B:List Sh}:NdL (A++B)↔NdL A/\NdL B:=
 ⟨fun h=>⟨fun s hs=>h s (List.mem_append_left _ hs),fun s hs=>h s (List.mem_append_right _ hs)⟩,fun h s hs=>(List.mem_append.1 hs).elim (h.1 s) (h.2 s)⟩
theorem NdL.cons {s:Sh} {B:List Sh}:NdL (s::B)↔(s.es.map fun x=>x.1).Nodup/\NdL B:=
 ⟨fun h=>⟨h s (.head _),fun x hx=>h x (.tail _ hx)⟩,fun h x hx=>(List.mem_cons.1 hx).elim (fun e=>e▸h.1) (h.2 x)⟩
theorem IU (es:List Kn):(es.map shK).map (fun x=>x.1)=es.map Kn.key:=by rw[List.map_map];rfl
theorem OL:∀{es:List Kn} {j:Nat} {k:B8} {eb:Nat} {e:En},(es.map Kn.key).Nodup->es[j]? =some (.mk k eb e)->Am k es=some (eb,e)
 | .mk k' eb' e'::r,0,k,eb,e,hn,hj=>by
  cases hj
  unfold Am
  rw[if_pos rfl]
 | .mk k' eb' e'::r,j+1,k,eb,e,hn,hj=>by
  rw[List.map_cons,List.nodup_cons]at hn
  have hj':r[j]? =some (.mk k eb e):=by simpa using hj
  unfold Am
  have hne:k≠k':=fun e2=>hn.1 (List.mem_map.2 ⟨_,List.mem_of_getElem? hj',e2⟩)
  rw[if_neg hne]
  exact OL hn.2 hj'
theorem SE {T t t':Tb} {h:List Hop} (hA:atT T h=some t) (hb:t'.b=t.b) (hn:NdL (shT 1 T)) (ht:NdL (shT (1+dpH h) t)->NdL (shT (1+dpH h) t')):NdL (shT 1 (AK T h t')):=by
 obtain⟨A,B,e1,e2⟩:=HR h hA 1
 rw[e1]at hn
 rw[e2 t' hb]
 obtain⟨h1,h2⟩:=NdL.app.1 hn
 obtain⟨h3,h4⟩:=NdL.app.1 h2
 exact NdL.app.2 ⟨h1,NdL.app.2 ⟨ht h3,h4⟩⟩
theorem SF {T t:Tb} {h:List Hop} {k:B8} {eb:Nat} {e:En} (hA:atT T h=some t) (hl:Am k t.es=none) (hn:NdL (shT 1 T)) (he:NdL (A3 (1+dpH h) e)):NdL (shT 1 (AK T h (A8 t k eb e))):=by
 refine SE (t':=A8 t k eb e) hA rfl hn fun ht=>?_
 rw[Es]at ht
 rw[Nl]
 obtain⟨h1,h2⟩:=NdL.cons.1 ht
 refine NdL.cons.2 ⟨?_,NdL.app.2 ⟨h2,he⟩⟩
 simp only at h1⊢
 rw[List.map_append]
 refine List.nodup_append.2 ⟨h1,by simp,fun x hx y hy e=>?_⟩
 rw[IU]at hx
 obtain⟨d,hd,rfl⟩:=List.mem_map.1 hx
 simp only[List.map_cons,List.map_nil,List.mem_singleton]at hy
 subst hy
 exact Ir hl d hd e
theorem nd_chg {T t:Tb} {h:List Hop} {k:B8} {eb:Nat} {e x:En} (hA:atT T h=some t) (hl:Am k t.es=some (eb,e)) (hn:NdL (shT 1 T)) (he:NdL (A3 (1+dpH h) e)->NdL (A3 (1+dpH h) x)):NdL (shT 1 (AK T h (Ds t k x))):=by
 refine SE (t':=Ds t k x) hA rfl hn fun ht=>?_
 rw[Es]at ht
 obtain⟨P,Q,p1,p2⟩:=FU (1+dpH h) hl
 unfold Ds
 rw[shT,p2]
 obtain⟨h1,h2⟩:=NdL.cons.1 ht
 rw[p1]at h2
 obtain⟨h3,h4⟩:=NdL.app.1 h2
 obtain⟨h5,h6⟩:=NdL.app.1 h4
 refine NdL.cons.2 ⟨?_,NdL.app.2 ⟨h3,NdL.app.2 ⟨he h5,h6⟩⟩⟩
 simp only at h1⊢
 rw[IU]at h1⊢
 rw[Mq];exact h1
theorem KV {d:Nat}:∀{es:List Kn} {j:Nat} {k:B8} {eb:Nat} {e:En},es[j]? =some (.mk k eb e)->∀s,s∈A3 d e->s∈BR d es
 | .mk k' eb' e'::r,0,k,eb,e,hj,s,hs=>by cases hj;rw[BR];exact List.mem_append_left _ hs
 | .mk k' eb' e'::r,j+1,k,eb,e,hj,s,hs=>by rw[BR];exact List.mem_append_right _ (KV (j:=j) (by simpa using hj) s hs)
theorem Os {d:Nat}:∀{l:List Tb} {i:Nat} {u:Tb},l[i]? =some u->∀s,s∈shT d u->s∈DC d l
 | t::r,0,u,hi,s,hs=>by cases hi;rw[DC];exact List.mem_append_left _ hs
 | t::r,i+1,u,hi,s,hs=>by rw[DC];exact List.mem_append_right _ (Os (i:=i) (by simpa using hi) s hs)
theorem cnt_kn {es:List Kn} {j:Nat} {k:B8} {eb:Nat} {e:En} (hj:es[j]? =some (.mk k eb e)):(AQ e).cnt<=Ay (AO es):=by
 have hm:Fd.mk k (AQ e)∈AO es:=by
  rw[Hy];exact List.mem_map.2 ⟨_,List.mem_of_getElem? hj,rfl⟩
 have gen:∀(f:List Fd) (d:Fd),d∈f->d.cnt<=Ay f:=by
  intro f
  induction f with
  | nil=>intro d hd;cases hd
  | cons a r ih=>
   intro d hd
   unfold Ay
   rcases List.mem_cons.1 hd with rfl | hd
   ·omega
   ·have:=ih d hd;omega
 exact gen _ _ hm
theorem cnt_tb {l:List Tb} {i:Nat} {u:Tb} (hi:l[i]? =some u):(Af u).cnt<=Az (Br l):=by
 have gen:∀(f:List Vl) (d:Vl),d∈f->d.cnt<=Az f:=by
  intro f
  induction f with
  | nil=>intro d hd;cases hd
  | cons a r ih=>
   intro d hd
   unfold Az
   rcases List.mem_cons.1 hd with rfl | hd
   ·omega
   ·have:=ih d hd;omega
 refine gen _ _ ?_
 rw[CZ];exact List.mem_map.2 ⟨u,List.mem_of_getElem? hi,rfl⟩
end Go.TVF
section
namespace Go.TVF
open Go.IntKind(i64 u8)
structure Way (T T':Tb) (h h':List Hop) (n z:Nat) (good:Prop):Prop where
 at_:∃t,atT T' h'=some t
 cnt:(Af T').cnt<=(Af T).cnt+n
 sz:(Af T').sz<=(Af T).sz+z
 dp:dpH h<=dpH h'
 lv:lvV (Af T')<=max (lvV (Af T)) (dpH h'+1)
 va:good->AD (Af T)->AD (Af T')
 nd:NdL (shT 1 T)->NdL (shT 1 T')
 bx:T'.b=T.b
theorem DU (nu:Nu) (hd:Bool):AD (Af (AN nu hd)):=by
 rw[AN,Af,AO]
 unfold AD BW BE
 refine⟨⟨⟨by decide,by decide,fun _=>rfl,fun _=>⟨rfl,rfl,rfl⟩,fun _=>⟨rfl,rfl,rfl,rfl⟩,fun _=>rfl,fun _=>rfl,fun _=>rfl,fun _=>rfl⟩,by show DA false [] 0;decide,fun h=>absurd h (by decide),by show DO []=0;exact BX [] (by simp[ul]),by decide,by decide,rfl⟩,trivial,trivial⟩
theorem NB (nu:Nu) (hd:Bool):lvV (Af (AN nu hd))=1:=by rw[AN,Af,AO];simp[lvV,CN,Cz]
theorem Nj (nu:Nu) (hd:Bool):(Af (AN nu hd)).sz=1:=by rw[AN,Af,AO];simp[Vl.sz,Bw,Bu,scM]
theorem HF (d:Nat) (nu:Nu) (hd:Bool):NdL (shT d (AN nu hd)):=by
 rw[AN,shT,BR]
 intro s hs
 rw[List.mem_singleton.1 hs]
 exact List.nodup_nil
theorem QV {nu:Nu} {hd:Bool} {T T' t:Tb} {h h':List Hop} {k:B8} (hA:atT T h=some t) (hne:∀eb l,Am k t.es=some (eb,.lst l)->l≠ []) (hh:FD nu hd T h k=some (T',h')):Way T T' h h' 1 (k.length+1) (U8 k/\k.length<=1024):=by
 unfold FD at hh
 rw[hA]at hh
 simp only at hh
 have id:∀{h'},(∃u,atT T h'=some u)->dpH h<=dpH h'->Way T T h h' 1 (k.length+1) (U8 k/\k.length<=1024):=fun h1 h2=>⟨h1,by omega,by omega,h2,by omega,fun _ h=>h,fun h=>h,rfl⟩
 rcases hl:Am k t.es with _ | ⟨eb,e⟩
 ·rw[hl]at hh
  simp only[Option.some.injEq,Prod.mk.injEq]at hh
  obtain⟨rfl,rfl⟩:=hh
  have c:=DK h hA (A8 t k nu.eb (.opn (AN nu false)))
  have c1:=c.cnt
  have c2:=c.sz
  have c3:=c.lv
  have c4:=c.lvu
  rw[KB,E8]at c1
  rw[Sb,AQ,Nj]at c2
  rw[PV,AQ,NB]at c3
  have hdp:dpH (h++[(k,none)])=dpH h+1:=by rw[Jj];rfl
  refine⟨⟨_,LI hA hl⟩,by omega,by omega,by omega,by omega,fun g hv=>?_,fun hn=>SF hA hl hn (by rw[A3];exact HF _ _ _),Fi h hA rfl⟩
  exact c.va hv (Ml (c.vu hv) hl g.1 g.2 (by rw[AQ];exact DU _ _))
 ·rw[hl]at hh
  cases e with
  | opn u=>
   simp only[Option.some.injEq,Prod.mk.injEq]at hh
   obtain⟨rfl,rfl⟩:=hh
   exact id ⟨u,NT hA hl⟩ (by rw[Jj];omega)
  | lst l=>
   simp only at hh
   cases hd with
   | false=>simp at hh
   | true=>
    simp only[if_true,Option.some.injEq,Prod.mk.injEq]at hh
    obtain⟨rfl,rfl⟩:=hh
    have h0:0<l.length:=List.length_pos_iff.2 (hne eb l hl)
    exact id ⟨_,JZ hA hl (List.getElem?_eq_getElem (by omega))⟩ (by rw[Jj];omega)
  | clo v i=>simp at hh
end Go.TVF
end
section
namespace Go.TVF
open Go.IntKind(i64 u8)
def NeL (L:List Sh):Prop:=∀s,s∈L->∀x,x∈s.es->∀bs,x.2.2= .lst bs->bs≠ []
theorem NeL.app {A B:List Sh}:NeL (A++B)↔NeL A/\NeL B:=
 ⟨fun h=>⟨fun s hs=>h s (List.mem_append_left _ hs),fun s hs=>h s (List.mem_append_right _ hs)⟩,fun h s hs=>(List.mem_append.1 hs).elim (h.1 s) (h.2 s)⟩
theorem NeL.cons {s:Sh} {B:List Sh}:NeL (s::B)↔(∀x,x∈s.es->∀bs,x.2.2= .lst bs->bs≠ [])/\NeL B:=
 ⟨fun h=>⟨h s (.head _),fun x hx=>h x (.tail _ hx)⟩,fun h x hx=>(List.mem_cons.1 hx).elim (fun e=>e▸h.1) (h.2 x)⟩
theorem SC {T t t':Tb} {h:List Hop} (hA:atT T h=some t) (hb:t'.b=t.b) (hn:NeL (shT 1 T)) (ht:NeL (shT (1+dpH h) t)->NeL (shT (1+dpH h) t')):NeL (shT 1 (AK T h t')):=by
 obtain⟨A,B,e1,e2⟩:=HR h hA 1
 rw[e1]at hn
 rw[e2 t' hb]
 obtain⟨h1,h2⟩:=NeL.app.1 hn
 obtain⟨h3,h4⟩:=NeL.app.1 h2
 exact NeL.app.2 ⟨h1,NeL.app.2 ⟨ht h3,h4⟩⟩
theorem SD {T t:Tb} {h:List Hop} {k:B8} {eb:Nat} {e:En} (hA:atT T h=some t) (hn:NeL (shT 1 T)) (h0:∀bs,shE e= .lst bs->bs≠ []) (he:NeL (A3 (1+dpH h) e)):NeL (shT 1 (AK T h (A8 t k eb e))):=by
 refine SC (t':=A8 t k eb e) hA rfl hn fun ht=>?_
 rw[Es]at ht
 rw[Nl]
 obtain⟨h1,h2⟩:=NeL.cons.1 ht
 refine NeL.cons.2 ⟨fun x hx=>?_,NeL.app.2 ⟨h2,he⟩⟩
 rcases List.mem_append.1 hx with h3 | h3
 ·exact h1 x h3
 ·rw[List.mem_singleton.1 h3];exact h0
theorem ne_at {T t:Tb} {h:List Hop} {k:B8} {eb:Nat} {l:List Tb} (hA:atT T h=some t) (hn:NeL (shT 1 T)) (hl:Am k t.es=some (eb,.lst l)):l≠ []:=by
 obtain⟨A,B,e1,_⟩:=HR h hA 1
 rw[e1]at hn
 have h3:=(NeL.app.1 (NeL.app.1 hn).2).1
 rw[Es]at h3
 have:=(NeL.cons.1 h3).1 (k,eb,shE (.lst l)) (List.mem_map.2 ⟨.mk k eb (.lst l),HG hl,rfl⟩) (l.map Tb.b) rfl
 intro e
 rw[e]at this
 exact this rfl
theorem ne_chg {T t:Tb} {h:List Hop} {k:B8} {eb:Nat} {e x:En} (hA:atT T h=some t) (hl:Am k t.es=some (eb,e)) (hn:NeL (shT 1 T)) (h0:∀bs,shE x= .lst bs->bs≠ []) (he:NeL (A3 (1+dpH h) e)->NeL (A3 (1+dpH h) x)):NeL (shT 1 (AK T h (Ds t k x))):=by
 refine SC (t':=Ds t k x) hA rfl hn fun ht=>?_
 rw[Es]at ht
 obtain⟨P,Q,p1,p2⟩:=FU (1+dpH h) hl
 unfold Ds
 rw[shT,p2]
 obtain⟨h1,h2⟩:=NeL.cons.1 ht
 rw[p1]at h2
 obtain⟨h3,h4⟩:=NeL.app.1 h2
 obtain⟨h5,h6⟩:=NeL.app.1 h4
 refine NeL.cons.2 ⟨fun y hy bs hb=>?_,NeL.app.2 ⟨h3,NeL.app.2 ⟨he h5,h6⟩⟩⟩
 have mem:∀es:List Kn,y∈(Cc k x es).map shK->y∈es.map shK∨y.2.2=shE x:=by
  intro es
  induction es with
  | nil=>intro hy;cases hy
  | cons d r ih=>
   obtain⟨k',eb',e'⟩:=d
   intro hy
   unfold Cc at hy
   split at hy
   ·rcases List.mem_cons.1 hy with rfl | hy
    ·exact .inr rfl
    ·exact .inl (.tail _ hy)
   ·rcases List.mem_cons.1 hy with rfl | hy
    ·exact .inl (.head _)
    ·exact(ih hy).imp (.tail _) id
 rcases mem t.es hy with h7 | h7
 ·exact h1 y h7 bs hb
 ·exact h0 bs (h7▸hb)
theorem HE (d:Nat) (nu:Nu) (hd:Bool):NeL (shT d (AN nu hd)):=by
 rw[AN,shT,BR]
 intro s hs
 rw[List.mem_singleton.1 hs]
 intro x hx
 cases hx
theorem SY {nu:Nu} {hd:Bool} {T T' t:Tb} {h h':List Hop} {k:B8} (hA:atT T h=some t) (hh:FD nu hd T h k=some (T',h')) (hn:NeL (shT 1 T)):NeL (shT 1 T'):=by
 unfold FD at hh
 rw[hA]at hh
 simp only at hh
 rcases hl:Am k t.es with _ | ⟨eb,e⟩
 ·rw[hl]at hh
  simp only[Option.some.injEq,Prod.mk.injEq]at hh
  obtain⟨rfl,rfl⟩:=hh
  exact SD hA hn (fun bs h=>by cases h) (by rw[A3];exact HE _ _ _)
 ·rw[hl]at hh
  cases e with
  | opn u=>
   simp only[Option.some.injEq,Prod.mk.injEq]at hh
   rw[<-hh.1];exact hn
  | lst l=>
   simp only at hh
   cases hd with
   | false=>simp at hh
   | true=>
    simp only[if_true,Option.some.injEq,Prod.mk.injEq]at hh
    rw[<-hh.1];exact hn
  | clo v i=>simp at hh
def kz (ks:List B8):Nat:=(ks.map fun k=>k.length+1).sum
theorem Hp {nu:Nat->Nu} {hd:Bool}:∀(ks:List B8) (j:Nat) {T T' t:Tb} {h h':List Hop},atT T h=some t->NeL (shT 1 T)->Ct nu hd j T h ks=some (T',h')->lvV (Af T)<=lvV (Af T)->
  Way T T' h h' ks.length (kz ks) (∀k,k∈ks->U8 k/\k.length<=1024)/\NeL (shT 1 T')
 | [],j,T,T',t,h,h',hA,hn,hh,_=>by
  unfold Ct at hh
  cases hh
  exact⟨⟨⟨t,hA⟩,by omega,by omega,Nat.le_refl _,by omega,fun _ h=>h,fun h=>h,rfl⟩,hn⟩
 | k::ks,j,T,T',t,h,h',hA,hn,hh,_=>by
  unfold Ct at hh
  cases h1:FD (nu j) hd T h k with
  | none=>rw[h1]at hh;cases hh
  | some p=>
   obtain⟨T1,h1'⟩:=p
   rw[h1]at hh
   have w1:=QV hA (fun eb l=>ne_at hA hn) h1
   obtain⟨t1,hA1⟩:=w1.at_
   obtain⟨w2,n2⟩:=Hp ks (j+1) hA1 (SY hA h1 hn) hh (Nat.le_refl _)
   have a1:=w1.cnt
   have a2:=w2.cnt
   have a3:=w1.sz
   have a4:=w2.sz
   have a5:=w1.dp
   have a6:=w2.dp
   have a7:=w1.lv
   have a8:=w2.lv
   refine⟨⟨w2.at_,by rw[List.length_cons];omega,by unfold kz at a4⊢;simp only[List.map_cons,List.sum_cons];omega,by omega,by omega,fun g hv=>?_,fun h=>w2.nd (w1.nd h),w2.bx.trans w1.bx⟩,n2⟩
   exact w2.va (fun k' hk'=>g k' (.tail _ hk')) (w1.va (g k (.head _)) hv)
end Go.TVF
end
section
namespace Go.TVF
open Go.IntKind(i64 u8)
mutual
theorem Qd:∀v:Vl,JV v=lvV v
 | .mk s l f=>by unfold JV lvV;rw[Q3 l,Q4 f]
theorem Q3:∀l:List Vl,C8 l=CN l
 | []=>by unfold C8 CN;rfl
 | v::r=>by unfold C8 CN;rw[Qd v,Q3 r]
theorem depd_lv:∀d:Fd,RL d=lvD d
 | .mk k v=>by unfold RL lvD;exact Qd v
theorem Q4:∀l:List Fd,Ia l=Cz l
 | []=>by unfold Ia Cz;rfl
 | d::r=>by unfold Ia Cz;rw[depd_lv d,Q4 r]
end
theorem BY {v:Vl}:AP v=0↔AD v/\lvV v<=48/\v.cnt<=65536:=
 ⟨fun h=>⟨Eh h,NO v 1 0 h,EM h⟩,fun h=>Ts h.1 h.2.1 h.2.2⟩
theorem chg_fld {t:Tb} {k:B8} {eb:Nat} {e x:En} (hl:Am k t.es=some (eb,e)):Chg (Af t) (Af (Ds t k x)) (AQ e) (AQ x) 1:=by
 obtain⟨F,G,h1,h2⟩:=DY hl
 unfold Ds
 rw[Fx t,Af,h1,h2]
 exact Chg.fld F G k _ _
structure TD (T T':Tb) (n z d:Nat) (good:Prop):Prop where
 cnt:(Af T').cnt<=(Af T).cnt+n
 sz:(Af T').sz<=(Af T).sz+z
 lv:lvV (Af T')<=max (lvV (Af T)) d
 va:good->AD (Af T)->AD (Af T')
 nd:NdL (shT 1 T)->NdL (shT 1 T')
 ne:NeL (shT 1 T)->NeL (shT 1 T')
theorem NJ {T t:Tb} {h:List Hop} {k:B8} {eb:Nat} {e:En} (hA:atT T h=some t) (hl:Am k t.es=none) (hn:NdL (A3 (1+dpH h) e)) (hne:∀bs,shE e= .lst bs->bs≠ []) (hne2:NeL (A3 (1+dpH h) e)):
  TD T (AK T h (A8 t k eb e)) (AQ e).cnt (k.length+(AQ e).sz) (dpH h+1+lvV (AQ e)) (U8 k/\k.length<=1024/\AD (AQ e)):=by
 have c:=DK h hA (A8 t k eb e)
 have c1:=c.cnt
 have c2:=c.sz
 have c3:=c.lv
 have c4:=c.lvu
 rw[KB]at c1
 rw[Sb]at c2
 rw[PV]at c3
 exact⟨by omega,by omega,by omega,fun g hv=>c.va hv (Ml (c.vu hv) hl g.1 g.2.1 g.2.2),fun h=>SF hA hl h hn,fun h=>SD hA h hne hne2⟩
theorem QX {T t:Tb} {h:List Hop} {k:B8} {eb:Nat} {e x:En} (hA:atT T h=some t) (hl:Am k t.es=some (eb,e)) {n:Nat} (hc:(AQ x).cnt=(AQ e).cnt+n) (hz:(AQ x).sz=(AQ e).sz+n) (hlv:lvV (AQ x)<=max (lvV (AQ e)) 2) (hv:AD (AQ e)->AD (AQ x))
  (hn:NdL (A3 (1+dpH h) e)->NdL (A3 (1+dpH h) x)) (hne:∀bs,shE x= .lst bs->bs≠ []) (hne2:NeL (A3 (1+dpH h) e)->NeL (A3 (1+dpH h) x)):
  TD T (AK T h (Ds t k x)) n n (dpH h+3) True:=by
 have c:=(DK h hA (Ds t k x)).trans (chg_fld (x:=x) hl)
 have c1:=c.cnt
 have c2:=c.sz
 have c3:=c.lv
 have c4:=c.lvu
 exact⟨by omega,by omega,by omega,fun _ h=>c.va h (hv (c.vu h)),fun h=>nd_chg hA hl h hn,fun h=>ne_chg hA hl h hne hne2⟩
theorem IJ (u:Tb):Af (CQ u)=Af u:=by cases u;unfold CQ;rw[Af,Af]
theorem one_lst (l:List Tb) (u:Tb):AQ (.lst (l++[u]))= .mk scL (Br l++[Af u]) []:=by
 rw[AQ,CZ,CZ,List.map_append];rfl
theorem Mk {l:List Vl} (h:BW l):AD (.mk scL l []):=by
 unfold AD BE
 exact⟨⟨⟨by decide,by decide,fun _=>rfl,fun _=>⟨rfl,rfl,rfl⟩,fun _=>⟨rfl,rfl,rfl,rfl⟩,fun _=>rfl,fun _=>rfl,fun h=>absurd rfl h,fun _=>rfl⟩,by show DA false [] 0;decide,fun h=>absurd h (by decide),by show DO []=0;exact BX [] (by simp[ul]),by decide,by decide,rfl⟩,h,trivial⟩
theorem Ii {l:List Vl}:BW l↔∀x,x∈l->AD x:=by
 induction l with
 | nil=>unfold BW;simp
 | cons x r ih=>unfold BW;rw[ih];simp
theorem Oo (d:Nat) (u:Tb):shT d (CQ u)=⟨u.b,u.m,true,d,u.es.map shK⟩::BR d u.es:=by cases u;rfl
theorem Ho {nu:Nu} {a:Asg} {i:Nat} {T T':Tb} {h cur cur':List Hop} {k:B8} (hn:NeL (shT 1 T)) (hh:Dx nu a i T h cur k= .ok (T',cur')):
  TD T T' (2+a.val.cnt) (k.length+2+a.val.sz) (dpH h+3+(if a.elem=true∨a.tab=true then 0 else lvV a.val-2)) (U8 k/\k.length<=1024/\(a.elem=false->a.tab=false->AD a.val))/\
   (a.elem=false->a.tab=false->(AD (Af T')->AD a.val)/\(Af T').cnt=(Af T).cnt+a.val.cnt/\dpH h+1+lvV a.val<=lvV (Af T')/\lvV (Af T')<=max (lvV (Af T)) (dpH h+1+lvV a.val)):=by
 unfold Dx at hh
 have mono:∀{n z d n' z' d':Nat} {g g':Prop},TD T T' n z d g->n<=n'->z<=z'->d<=d'->(g'->g)->TD T T' n' z' d' g':=fun f h1 h2 h3 h4=>
  ⟨Nat.le_trans f.cnt (by omega),Nat.le_trans f.sz (by omega),by have:=f.lv;omega,fun g=>f.va (h4 g),f.nd,f.ne⟩
 cases hA:atT T h with
 | none=>rw[hA]at hh;cases hh
 | some t=>
 rw[hA]at hh
 simp only at hh
 cases he:a.elem with
 | true=>
  rw[if_pos (by rw[he])]at hh
  refine⟨?_,fun h=>by cases h⟩
  rcases hl:Am k t.es with _ | ⟨eb,u | l | ⟨v,j⟩⟩<;>rw[hl]at hh<;>simp only[Except.ok.injEq,Prod.mk.injEq,reduceCtorEq]at hh
  ·obtain⟨rfl,rfl⟩:=hh
   have e1:AQ (.lst [AN nu false])= .mk scL [Af (AN nu false)] []:=by rw[AQ,Br,Br]
   have e2:(AQ (.lst [AN nu false])).cnt=2:=by rw[e1,AN,Af,AO];simp[Vl.cnt,Az,Ay]
   have e3:(AQ (.lst [AN nu false])).sz=2:=by rw[e1,AN,Af,AO];simp[Vl.sz,Bw,Bu,scL,scM]
   have e4:lvV (AQ (.lst [AN nu false]))=2:=by rw[e1,AN,Af,AO];simp[lvV,CN,Cz]
   have f:=NJ (eb:=nu.eb) (e:= .lst [AN nu false]) hA hl (by rw[A3,DC,DC,List.append_nil];exact HF _ _ _) (fun bs h=>by cases h;simp) (by rw[A3,DC,DC,List.append_nil];exact HE _ _ _)
   rw[e2,e3,e4]at f
   refine mono f (by omega) (by omega) (by simp) fun g=>⟨g.1,g.2.1,?_⟩
   rw[e1]
   refine Mk (Ii.2 fun x hx=>?_)
   rw[List.mem_singleton.1 hx];exact DU _ _
  ·obtain⟨rfl,rfl⟩:=hh
   have e1:=one_lst l (AN nu false)
   have e0:AQ (.lst l)= .mk scL (Br l) []:=by rw[AQ]
   have f:=QX (x:= .lst (l++[AN nu false])) (n:=1) hA hl ?_ ?_ ?_ ?_ ?_ ?_ ?_
   ·exact mono f (by omega) (by omega) (by simp) fun _=>trivial
   ·rw[e1,e0];simp only[Vl.cnt,DT,Az,AN,Af,AO,Ay];omega
   ·rw[e1,e0];simp only[Vl.sz,IF,Bw,AN,Af,AO,Bu,scL,scM,List.length_nil];omega
   ·rw[e1,e0];simp only[lvV,K9,CN,AN,Af,AO,Cz];omega
   ·rw[e1,e0]
    intro hv
    unfold AD at hv
    exact Mk ((Gl _ _).2 ⟨hv.2.1,Ii.2 fun x hx=>by rw[List.mem_singleton.1 hx];exact DU _ _⟩)
   ·intro h1
    rw[A3]at h1⊢
    rw[IT,DC,DC,List.append_nil]
    exact NdL.app.2 ⟨h1,HF _ _ _⟩
   ·intro bs h1;cases h1;simp
   ·intro h1
    rw[A3]at h1⊢
    rw[IT,DC,DC,List.append_nil]
    exact NeL.app.2 ⟨h1,HE _ _ _⟩
 | false=>
  rw[if_neg (by rw[he];simp)]at hh
  cases ht:a.tab with
  | true=>
   rw[if_pos (by rw[ht])]at hh
   refine⟨?_,fun _ h=>by cases h⟩
   rcases hl:Am k t.es with _ | ⟨eb,u | l | ⟨v,j⟩⟩<;>rw[hl]at hh<;>simp only[Except.ok.injEq,Prod.mk.injEq,reduceCtorEq]at hh
   ·obtain⟨rfl,rfl⟩:=hh
    have f:=NJ (eb:=nu.eb) (e:= .opn (AN nu true)) hA hl (by rw[A3];exact HF _ _ _) (fun bs h=>by cases h) (by rw[A3];exact HE _ _ _)
    rw[E8,AQ,Nj,NB]at f
    exact mono f (by omega) (by omega) (by omega) fun g=>⟨g.1,g.2.1,DU _ _⟩
   ·split at hh
    ·cases hh
    ·simp only[Except.ok.injEq,Prod.mk.injEq]at hh
     obtain⟨rfl,rfl⟩:=hh
     have f:=QX (x:= .opn (CQ u)) (n:=0) hA hl ?_ ?_ ?_ ?_ ?_ ?_ ?_
     ·exact mono f (by omega) (by omega) (by simp) fun _=>trivial
     ·rw[AQ,AQ,IJ];rfl
     ·rw[AQ,AQ,IJ];rfl
     ·rw[AQ,AQ,IJ];omega
     ·rw[AQ,AQ,IJ];exact id
     ·rw[A3,A3]
      intro h1 s hs
      rw[Oo]at hs
      rw[Es]at h1
      rcases List.mem_cons.1 hs with rfl | hs
      ·exact h1 ⟨u.b,u.m,u.hd,1+dpH h+1,u.es.map shK⟩ (.head _)
      ·exact h1 s (.tail _ hs)
     ·intro bs h;cases h
     ·rw[A3,A3]
      intro h1 s hs
      rw[Oo]at hs
      rw[Es]at h1
      rcases List.mem_cons.1 hs with rfl | hs
      ·exact h1 ⟨u.b,u.m,u.hd,1+dpH h+1,u.es.map shK⟩ (.head _)
      ·exact h1 s (.tail _ hs)
  | false=>
   rw[if_neg (by rw[ht];simp)]at hh
   rcases hl:Am k t.es with _ | ⟨eb,e⟩<;>rw[hl]at hh<;>simp only[Except.ok.injEq,Prod.mk.injEq,reduceCtorEq]at hh
   obtain⟨rfl,rfl⟩:=hh
   have f:=NJ (eb:=nu.eb) (e:= .clo a.val i) hA hl (by rw[A3];intro s hs;cases hs) (fun bs h=>by cases h) (by rw[A3];intro s hs;cases hs)
   have e1:AQ (.clo a.val i)=a.val:=by rw[AQ]
   rw[e1]at f
   refine⟨mono f (by omega) (by omega) (by simp;omega) fun g=>⟨g.1,g.2.1,g.2.2 rfl rfl⟩,fun _ _=>⟨fun hv=>?_,?_,?_,f.lv⟩⟩
   ·have:=(DK h hA (A8 t k nu.eb (.clo a.val i)))
    have hv2:AD (Af (A8 t k nu.eb (.clo a.val i))):=by
     have c:=DK h (DM h (x:=A8 t k nu.eb (.clo a.val i)) hA) (A8 t k nu.eb (.clo a.val i))
     exact c.vu hv
    rw[IK]at hv2
    unfold AD at hv2
    have:=((ES _ _).1 hv2.2.2).2
    unfold BE Ep at this
    rw[<-e1];exact this.1
   ·have c:=(DK h hA (A8 t k nu.eb (.clo a.val i))).cnt
    rw[KB,e1]at c
    omega
   ·have c:=(DK h (DM h (x:=A8 t k nu.eb (.clo a.val i)) hA) (A8 t k nu.eb (.clo a.val i))).lvu
    rw[PV,e1]at c
    omega
theorem Qr {T u t x:Tb} {g r:List Hop} (hg:atT T g=some u) (hA:atT T (g++r)=some t) (hx:x.b=t.b):∃u',atT (AK T (g++r) x) g=some u'/\u'.b=u.b:=by
 refine⟨AK u r x,?_,Fi r (T:=u) (t:=t) (by rw[HL,hg]at hA;exact hA) hx⟩
 rw[Ks g r hg,DM g hg]
theorem hop_pre {nu:Nu} {hd:Bool} {T T' u t:Tb} {g r h':List Hop} {k:B8} (hg:atT T g=some u) (hA:atT T (g++r)=some t) (hne:NeL (shT 1 T)) (hh:FD nu hd T (g++r) k=some (T',h')):
  ∃r' u' t',h'=g++r'/\atT T' g=some u'/\u'.b=u.b/\atT T' h'=some t':=by
 have w:=QV hA (fun eb l=>ne_at hA hne) hh
 obtain⟨t',ht'⟩:=w.at_
 unfold FD at hh
 rw[hA]at hh
 simp only at hh
 rcases hl:Am k t.es with _ | ⟨eb,e⟩
 ·rw[hl]at hh
  simp only[Option.some.injEq,Prod.mk.injEq]at hh
  obtain⟨rfl,rfl⟩:=hh
  obtain⟨u',h1,h2⟩:=Qr (x:=A8 t k nu.eb (.opn (AN nu false))) hg hA rfl
  exact⟨r++[(k,none)],u',t',by rw[List.append_assoc],h1,h2,ht'⟩
 ·rw[hl]at hh
  cases e with
  | opn w=>
   simp only[Option.some.injEq,Prod.mk.injEq]at hh
   obtain⟨rfl,rfl⟩:=hh
   exact⟨r++[(k,none)],u,t',by rw[List.append_assoc],hg,rfl,ht'⟩
  | lst l=>
   simp only at hh
   cases hd with
   | false=>simp at hh
   | true=>
    simp only[if_true,Option.some.injEq,Prod.mk.injEq]at hh
    obtain⟨rfl,rfl⟩:=hh
    exact⟨r++[(k,some (l.length-1))],u,t',by rw[List.append_assoc],hg,rfl,ht'⟩
  | clo v i=>simp at hh
theorem Lm {nu:Nat->Nu} {hd:Bool}:∀(ks:List B8) (j:Nat) {T T' u t:Tb} {g r h':List Hop},atT T g=some u->atT T (g++r)=some t->NeL (shT 1 T)->Ct nu hd j T (g++r) ks=some (T',h')->
  ∃r' u',h'=g++r'/\atT T' g=some u'/\u'.b=u.b
 | [],j,T,T',u,t,g,r,h',hg,hA,hn,hh=>by
  unfold Ct at hh
  cases hh
  exact⟨r,u,rfl,hg,rfl⟩
 | k::ks,j,T,T',u,t,g,r,h',hg,hA,hn,hh=>by
  unfold Ct at hh
  cases h1:FD (nu j) hd T (g++r) k with
  | none=>rw[h1]at hh;cases hh
  | some p=>
   obtain⟨T1,h1'⟩:=p
   rw[h1]at hh
   obtain⟨r1,u1,t1,e1,e2,e3,e4⟩:=hop_pre hg hA hn h1
   subst e1
   obtain⟨r2,u2,e5,e6,e7⟩:=Lm ks (j+1) e2 e4 (SY hA h1 hn) hh
   exact⟨r2,u2,e5,e6,e7.trans e3⟩
end Go.TVF
end
namespace Go.TVF
open Go.IntKind(i64 u8)
open Go Go.Proofs
theorem QC:VlR St.zero vlO z13:=by
 unfold vlO VlR
 refine⟨.nilSlice,.nilSlice,.nilSlice,[],[],rfl,.of_rd (.inl ⟨rfl,rfl,rfl⟩),.of_rd (.inl ⟨rfl,rfl,rfl⟩),by unfold VsR;rfl,.of_rd (.inl ⟨rfl,rfl,rfl⟩),by unfold FsR;rfl⟩
theorem ent13 {σ:Nat->TV} {st:St} {eb:Nat} {e:En} (h:Kq σ st eb (shE e)) (hlt:eb<st.nb) {f:Fun [.int .i64,.bool,.bool,.str,.int .i64,.int .i64,.int .i64,.int .i64,.int .i64,.str,.tv,.tv,.tv] Prop}
  (hf:∀s ub ul uf,(∀v i,e= .clo v i->VlR St.zero v (AA s ub ul uf))->List.all (AA s ub ul uf) Aq=true->f s.kind s.b s.neg s.dg s.ex s.tk s.td s.tn s.tz s.text ub ul uf):
  Ai ((Al st [] (.t (.box eb 2)) 0 13).map TV.agg) fun x=>Cd [.int .i64,.bool,.bool,.str,.int .i64,.int .i64,.int .i64,.int .i64,.int .i64,.str,.tv,.tv,.tv] x f:=by
 obtain⟨a,b,cs,x,v,h1,h2,h3,h4⟩:∃a b cs x v,st.box eb= .cells (a::b::(cs++[x]))/\cs.length=13/\VlR St.zero v cs/\∀w i,e= .clo w i->w=v:=by
  cases e with
  | opn u=>exact⟨_,_,z13,_,vlO,h.1,rfl,QC,fun w i h=>by cases h⟩
  | lst l=>exact⟨_,_,z13,_,vlO,h.2.2,rfl,QC,fun w i h=>by cases h⟩
  | clo v i=>
   obtain⟨cs,q1,q2,q3,_⟩:=h
   exact⟨_,_,cs,_,v,q3,q2,q1,fun w j h=>by cases h;rfl⟩
 have hS:SlR st 13 (.ms 13 eb 2 1 1) 1 cs:= .inr ⟨eb,2,1,_,rfl,hlt,h1,by simp[h2],Nat.le_refl _,by
  show cs=((a::b::(cs++[x])).drop 2).take 13
  show cs=(cs++[x]).take 13
  rw[<-h2,List.take_left'];rfl⟩
 have:=hS.ldc (i:=0) (by omega) (by omega)
 simp only[ixT,Nat.zero_mul,Nat.add_zero,List.drop_zero]at this
 rw[this]
 have ht:cs.take 13=cs:=List.take_of_length_le (by omega)
 rw[ht]
 obtain⟨s,l,g⟩:=v
 have h30:=h3
 obtain⟨ub,ul,uf,xl,xf,rfl,w1,w2,_,w4,_⟩:=h3.cells
 exact Ad rfl (JW (hf s ub ul uf (fun w i e=>by rw[h4 w i e];exact h30) (C7 w1.one w2.one w4.one)))
theorem take_kn {es:List Kn} {j:Nat} {k:B8} {eb:Nat} {e:En} (hj:es[j]? =some (.mk k eb e)):AO (es.take (j+1))=AO (es.take j)++[.mk k (AQ e)]:=by
 rw[A0 hj,Jw,AO,AO]
theorem take_tb {l:List Tb} {i:Nat} {u:Tb} (hi:l[i]? =some u):Br (l.take (i+1))=Br (l.take i)++[Af u]:=by
 rw[A0 hi,CZ,CZ,List.map_append];rfl
theorem MW:∀(N:Nat) (t:Tb) (d:Nat),(Af t).cnt<=N->N<=900000->∀{σ:Nat->TV} {st:St} {bb:Nat} {K:Int->Bool->Bool->B8->Int->Int->Int->Int->Int->B8->TV->TV->TV->St->Prop},(∀s,s∈shT d t->LN σ st s)->NdL (shT d t)->(∀x,x∈bxL (shT d t)->x<st.nb)->
  (∀uf st',VlR St.zero (Af t) (AA scM .nilSlice .nilSlice uf)->Aq uf=true->Ah st st'->K 7 false false [] 0 0 0 0 0 [] .nilSlice .nilSlice uf st')->
  CallT PR Ak [.box bb 0,.box t.b 0] [.agg [.int .i64,.bool,.bool,.str,.int .i64,.int .i64,.int .i64,.int .i64,.int .i64,.str,.tv,.tv,.tv]] st K:=by
 intro N
 induction N with
 | zero=>
   intro t d h
   have:1<=(Af t).cnt:=by cases Af t;unfold Vl.cnt;omega
   omega
 | succ N ih=>
 intro t d hN hN2 σ st bb K hs hnd hx hk
 rw[Es]at hnd
 have htm:(⟨t.b,t.m,t.hd,d,t.es.map shK⟩:Sh)∈shT d t:=by rw[Es];exact .head _
 have hS:=hs _ htm
 have hrow:C5 (σ t.b) ((t.es.map Kn.key).map TV.str):=by have:=hS.row;simp only[IU]at this;exact this
 have hndk:(t.es.map Kn.key).Nodup:=by have:=(NdL.cons.1 hnd).1;simp only[IU]at this;exact this
 have hcnt:(Af t).cnt=1+Ay (AO t.es):=by rw[Fx];simp only[Vl.cnt,Az]
 have hlen:t.es.length<=900000:=by have:=NE t;omega
 have hc0:st.box t.b= .cells [σ t.b,.map t.m,.int .i64 (d:Int)]:=hS.cell
 refine Ft bb t.b st K (Ad (x:=σ t.b) (by simp only[Ac,hc0];rfl) (Aa hrow.sl ?_))
 rw[hrow.len,List.length_map,List.length_map]
 refine⟨fun n_1 b_1 t_1 v_1 n_2 _ _ _ _ _ _ _ _ _ _ _ _ _ n7 b3 b4 s3 n8 n9 n10 n11 n12 s4 v5 v6 v7 st1=>b_1= .box bb 0/\t_1= .box t.b 0/\v_1=σ t.b/\n_2=(t.es.length:Int)/\n7=7/\b3=false/\b4=false/\s3=[]/\n8=0/\n9=0/\n10=0/\n11=0/\n12=0/\s4=[]/\v5= .nilSlice/\v6= .nilSlice/\
   ∃(j:Nat) (xs:List TV),n_1=(j:Int)/\j<=t.es.length/\Ah st st1/\Own st.nt 14 st1 v7 j xs/\FsR St.zero (AO (t.es.take j)) xs,
  fun n_1 _ _ _ _ _ _ _ _ _ _ _ _ _ _ _ _ _ _ _ _ _ _ _ _ _ _ _ _ _ _ _=>t.es.length-n_1.toNat,
  ⟨rfl,rfl,rfl,rfl,rfl,rfl,rfl,rfl,rfl,rfl,rfl,rfl,rfl,rfl,rfl,rfl,0,[],rfl,Nat.zero_le _,Ah.refl _,Own.nil _ _ _,by simp only[List.take_zero,AO];unfold FsR;rfl⟩,?_⟩
 rintro n_1 _ _ _ _ n1 b1 b2 s1 n2 n3 n4 n5 n6 s2 v2 v3 v4 _ _ _ _ _ _ _ _ _ _ _ _ v7 st1 ⟨rfl,rfl,rfl,rfl,rfl,rfl,rfl,rfl,rfl,rfl,rfl,rfl,rfl,rfl,rfl,rfl,j,xs,rfl,hj,e1,ho,hf⟩
 have hs1:∀s,s∈shT d t->LN σ st1 s:=fun s hs'=>(hs s hs').fr fun x hx'=>⟨e1.box x (hx x (Bh hs' hx')),rfl⟩
 refine Ab (fun g=>?_) fun g=>?_
 ·have hlt:j<t.es.length:=by omega
  have hwj:IntKind.wrap .i64 ((j:Int)+1)=((j+1:Nat):Int):=by rw[Aj _ (by omega) (by omega)];simp
  obtain⟨k,eb,e,hkn⟩:∃k eb e,t.es[j]? =some (.mk k eb e):=by
   rw[List.getElem?_eq_getElem hlt]
   cases t.es[j]with
   | mk k eb e=>exact⟨k,eb,e,rfl⟩
  have hl:=OL hndk hkn
  have hent0:(k,eb,shE e)∈t.es.map shK:=List.mem_map.2 ⟨.mk k eb e,List.mem_of_getElem? hkn,rfl⟩
  have hent:Kq σ st1 eb (shE e):=(hs1 _ htm).en _ hent0
  have heb:eb<st1.nb:=Nat.lt_of_lt_of_le (hx _ (Bh htm (EB (s:=⟨t.b,t.m,t.hd,d,t.es.map shK⟩) (x:=(k,eb,shE e)) hent0))) e1.nb
  have hec:=cnt_kn hkn
  rw[hwj]
  refine⟨⟨by omega,by rw[hrow.lenZ,List.length_map,List.length_map];omega⟩,?_⟩
  rw[Int.toNat_natCast]
  refine hrow.get (x:= .str k) (by rw[List.getElem?_map,List.getElem?_map,hkn];rfl) (Dk ?_)
  have hc1:st1.box t.b= .cells [σ t.b,.map t.m,.int .i64 (d:Int)]:=(hs1 _ htm).cell
  obtain⟨mp,hm1,hm2⟩:=(hs1 _ htm).mp
  have hm1':st1.box t.m= .map mp:=hm1
  have hfm:Aw k mp=some (.box eb 0):=by
   rw[hm2 k,F8,hl];rfl
  refine Aa rfl (Aa rfl (Ad (x:= .map t.m) (by simp only[Au,Ac,hc1];rfl) (Ad (x:=mp) (by simp only[Et,hm1']) ?_)))
  rw[hfm]
  refine Aa rfl (Aa rfl (ent13 hent heb fun sc ub ul uf hclo hone=>Aa hone (Aa rfl (Aa rfl ?_))))
  have fin:∀{v:Vl} {sc:Sc} {ub ul uf:TV} {st2:St},AQ e=v->VlR St.zero v (AA sc ub ul uf)->Ah st1 st2->∀{K':TV->St->Prop},(∀v17 st3,Aq v17=true->Ah st st3->Own st.nt 14 st3 v17 (j+1) (xs++ .str k::AA sc ub ul uf)->FsR St.zero (AO (t.es.take (j+1))) (xs++ .str k::AA sc ub ul uf)->K' v17 st3)->
    Bl 65 14 184 v7 1 (.str k::AA sc ub ul uf) st2 K':=fun {v sc ub ul uf st2} hv hvr e2 K' hk'=>by
   refine Bj (e1.trans e2) rfl (ho.ext e2) (by omega) (fun h=>by cases h) fun v9 st3 e3 _ ho3=>hk' v9 st3 ho3.rd.one e3 ho3 ?_
   rw[take_kn hkn,hv]
   refine FsR.snoc hf ?_
   unfold FdR
   exact⟨_,rfl,hvr⟩
  cases e with
  | opn u=>
   have he0:st1.box eb= .cells (.box u.b 0:: .nilSlice::(z13++[.int .i64 0])):=hent.1
   refine Ad (x:= .box u.b 0) (by simp only[At,Au,Ac,he0];rfl) (Aa rfl (As (fun _=>?_) fun h=>by cases h))
   refine Aa rfl (Aa rfl (Ad (x:= .box u.b 0) (by simp only[At,Au,Ac,he0];rfl) ?_))
   have sub:∀s,s∈shT (d+1) u->s∈BR d t.es:=fun s hs'=>KV hkn s (by rw[A3];exact hs')
   have subT:∀s,s∈shT (d+1) u->s∈shT d t:=fun s hs'=>by rw[Es];exact .tail _ (sub s hs')
   refine ih u (d+1) (by rw[AQ]at hec;omega) (by omega) (fun s hs'=>hs1 s (subT s hs')) (fun s hs'=>(NdL.cons.1 hnd).2 s (sub s hs')) (fun x hx'=>?_) fun uf' st2 hv2 o2 e2=>Aa (C7 rfl rfl o2) (Aa (show(true&&_)=true from by rw[Bool.true_and];exact C7 rfl rfl o2) ?_)
   ·obtain⟨s,hs',hxs⟩:=List.mem_flatMap.1 hx'
    exact Nat.lt_of_lt_of_le (hx x (Bh (subT s hs') hxs)) e1.nb
   ·exact fin (v:=Af u) (by rw[AQ]) hv2 e2 fun v17 st3 a1 a2 a3 a4=>Aa (by simp[a1]) ⟨⟨rfl,rfl,rfl,rfl,rfl,rfl,rfl,rfl,rfl,rfl,rfl,rfl,rfl,rfl,rfl,rfl,j+1,_,rfl,hlt,a2,a3,a4⟩,by simp only[Int.toNat_natCast];omega⟩
  | lst l=>
   obtain⟨g1,gne,he0⟩:=hent
   have glen:(σ eb |> lenS)=l.length:=by show lenS (σ eb)=_;rw[g1.len,List.length_map,List.length_map]
   have glz:lenZ 1 (σ eb)=l.length:=by rw[g1.lenZ,List.length_map,List.length_map]
   have hle:=ND l
   have hec2:1+Az (Br l)<=Ay (AO t.es):=by rw[AQ]at hec;simp only[Vl.cnt,Ay]at hec;omega
   have hl0:0<l.length:=List.length_pos_iff.2 fun e=>gne (by rw[e];rfl)
   refine Ad (x:= .nilPtr) (by simp only[At,Au,Ac,he0];rfl) (Aa rfl (As (fun h=>by cases h) fun _=>?_))
   refine Aa rfl (Aa rfl (Ad (x:=σ eb) (by simp only[At,Au,Ac,he0];rfl) (Aa g1.sl (Ab (fun _=>?_) fun h=>absurd (by omega) h))))
   refine Aa rfl (Aa rfl (Ad (x:=σ eb) (by simp only[At,Au,Ac,he0];rfl) (Aa g1.sl ?_)))
   refine⟨fun n_3 b_2 t_2 k_1 v_2 n_4 n_5 v_3 n_6 _ _ _ _ _ _ _ _ _ _ _ _ _ m7 c3 c4 r3 m8 m9 m10 m11 m12 r4 w5 w6 w7 x7 y3 y4 z3 x8 x9 x10 x11 x12 z4 w8 w9 w10 st4=>
     b_2= .box bb 0/\t_2= .box t.b 0/\k_1=k/\v_2=σ t.b/\n_4=(t.es.length:Int)/\n_5=(j:Int)/\v_3=σ eb/\n_6=(l.length:Int)/\m7=7/\c3=false/\c4=false/\r3=[]/\m8=0/\m9=0/\m10=0/\m11=0/\m12=0/\r4=[]/\w5= .nilSlice/\w6= .nilSlice/\w7=v7/\
     x7=6/\y3=false/\y4=false/\z3=[]/\x8=0/\x9=0/\x10=0/\x11=0/\x12=0/\z4=[]/\w8= .nilSlice/\w10= .nilSlice/\∃(i:Nat) (ys:List TV),n_3=(i:Int)/\i<=l.length/\Ah st1 st4/\Own st1.nt 13 st4 w9 i ys/\VsR St.zero (Br (l.take i)) ys,
    fun n_3 _ _ _ _ _ _ _ _ _ _ _ _ _ _ _ _ _ _ _ _ _ _ _ _ _ _ _ _ _ _ _ _ _ _ _ _ _ _ _ _ _ _ _ _ _ _ _ _=>l.length-n_3.toNat,
    ⟨rfl,rfl,rfl,rfl,rfl,rfl,rfl,by rw[show lenS (σ eb)=l.length from glen],rfl,rfl,rfl,rfl,rfl,rfl,rfl,rfl,rfl,rfl,rfl,rfl,rfl,rfl,rfl,rfl,rfl,rfl,rfl,rfl,rfl,rfl,rfl,rfl,rfl,0,[],rfl,Nat.zero_le _,Ah.refl _,Own.nil _ _ _,by simp only[List.take_zero,Br];unfold VsR;rfl⟩,?_⟩
   rintro n_3 _ _ _ _ _ _ _ _ q1 q2 q3 q4 q5 q6 q7 q8 q9 q10 q11 q12 q13 _ _ _ _ _ _ _ _ _ _ _ _ _ _ _ _ _ _ _ _ _ _ _ _ w9 _ st4 ⟨rfl,rfl,rfl,rfl,rfl,rfl,rfl,rfl,rfl,rfl,rfl,rfl,rfl,rfl,rfl,rfl,rfl,rfl,rfl,rfl,rfl,rfl,rfl,rfl,rfl,rfl,rfl,rfl,rfl,rfl,rfl,rfl,rfl,i,ys,rfl,hi,e4,ho4,hv4⟩
   refine Ab (fun g2=>?_) fun g2=>?_
   ·have hil:i<l.length:=by omega
    obtain⟨u,hu⟩:∃u,l[i]? =some u:=⟨l[i],List.getElem?_eq_getElem hil⟩
    have hwi:IntKind.wrap .i64 ((i:Int)+1)=((i+1:Nat):Int):=by rw[Aj _ (by omega) (by omega)];simp
    rw[hwi]
    refine⟨⟨by omega,by rw[glz];omega⟩,?_⟩
    rw[Int.toNat_natCast]
    refine g1.get (x:= .box u.b 0) (by rw[List.getElem?_map,List.getElem?_map,hu];rfl) ?_
    have huc:=cnt_tb hu
    have sub:∀s,s∈shT (d+2) u->s∈BR d t.es:=fun s hs'=>KV hkn s (by rw[A3];exact Os hu s hs')
    have subT:∀s,s∈shT (d+2) u->s∈shT d t:=fun s hs'=>by rw[Es];exact .tail _ (sub s hs')
    refine ih u (d+2) (by omega) (by omega) (fun s hs'=>(hs1 s (subT s hs')).fr fun x hx'=>⟨e4.box x (Nat.lt_of_lt_of_le (hx x (Bh (subT s hs') hx')) e1.nb),rfl⟩) (fun s hs'=>(NdL.cons.1 hnd).2 s (sub s hs')) (fun x hx'=>?_) fun uf' st5 hv5 o5 e5=>Aa (C7 rfl rfl o5) ?_
    ·obtain⟨s,hs',hxs⟩:=List.mem_flatMap.1 hx'
     exact Nat.lt_of_lt_of_le (hx x (Bh (subT s hs') hxs)) (Nat.le_trans e1.nb e4.nb)
    refine Bj (e4.trans e5) rfl (ho4.ext e5) (by omega) (fun h=>by cases h) fun v9 st6 e6 _ ho6=>Aa (by simp[ho6.rd.one]) ?_
    refine⟨⟨rfl,rfl,rfl,rfl,rfl,rfl,rfl,rfl,rfl,rfl,rfl,rfl,rfl,rfl,rfl,rfl,rfl,rfl,rfl,rfl,rfl,rfl,rfl,rfl,rfl,rfl,rfl,rfl,rfl,rfl,rfl,rfl,rfl,i+1,_,rfl,hil,e6,ho6,?_⟩,by simp only[Int.toNat_natCast];omega⟩
    rw[take_tb hu]
    exact VsR.snoc hv4 hv5
   ·have hii:i=l.length:=by omega
    subst hii
    rw[List.take_length]at hv4
    refine Aa (show(true&&_)=true from by rw[Bool.true_and];exact C7 rfl ho4.rd.one rfl) ?_
    have hvl:VlR St.zero (.mk scL (Br l) []) (AA scL .nilSlice w9 .nilSlice):=by
     unfold VlR
     exact⟨.nilSlice,w9,.nilSlice,ys,[],rfl,.of_rd (.inl ⟨rfl,rfl,rfl⟩),.of_rd (by rw[show(Br l).length=l.length by rw[CZ,List.length_map]];exact ho4.rd),hv4,.of_rd (.inl ⟨rfl,rfl,rfl⟩),by unfold FsR;rfl⟩
    rw[hwj]
    exact fin (v:= .mk scL (Br l) []) (by rw[AQ]) hvl e4 fun v17 st3 a1 a2 a3 a4=>Aa (by simp[a1]) ⟨⟨rfl,rfl,rfl,rfl,rfl,rfl,rfl,rfl,rfl,rfl,rfl,rfl,rfl,rfl,rfl,rfl,j+1,_,rfl,hlt,a2,a3,a4⟩,by simp only[Int.toNat_natCast];omega⟩
  | clo v i=>
   obtain⟨cs,_,_,he0,_⟩:=hent
   refine Ad (x:= .nilPtr) (by simp only[At,Au,Ac,he0];rfl) (Aa rfl (As (fun h=>by cases h) fun _=>?_))
   refine Aa rfl (Aa rfl (Ad (x:= .nilSlice) (by simp only[At,Au,Ac,he0];rfl) (Aa rfl (Ab (fun h=>absurd h (by simp[lenS])) fun _=>?_))))
   refine Aa (show(true&&_)=true from by rw[Bool.true_and];exact hone) ?_
   exact fin (v:=v) (by rw[AQ]) (hclo v i rfl) (Ah.refl st1) fun v17 st3 a1 a2 a3 a4=>Aa (by simp[a1]) ⟨⟨rfl,rfl,rfl,rfl,rfl,rfl,rfl,rfl,rfl,rfl,rfl,rfl,rfl,rfl,rfl,rfl,j+1,_,rfl,hlt,a2,a3,a4⟩,by simp only[Int.toNat_natCast];omega⟩
 ·have hjj:j=t.es.length:=by omega
  subst hjj
  rw[List.take_length]at hf
  refine Aa (C7 rfl rfl ho.rd.one) (hk v7 st1 ?_ ho.rd.one e1)
  rw[Fx]
  unfold VlR
  exact⟨.nilSlice,.nilSlice,v7,[],xs,rfl,.of_rd (.inl ⟨rfl,rfl,rfl⟩),.of_rd (.inl ⟨rfl,rfl,rfl⟩),by unfold VsR;rfl,.of_rd (by rw[show(AO t.es).length=t.es.length by rw[Hy,List.length_map]];exact ho.rd),hf⟩
theorem L5 {st:St} {K:TV->St->Prop} (hk:∀bb ub r m σ st',BH bb ub (.box r 0) (.mk r m false []) 1 σ st'->K (.box bb 0) st'):CallT PR CA [] [.one .tv] st K:=by
 refine GN st K (Aa rfl ?_)
 generalize hst0:(st.push (.pmap []) none).push (.cells [.nilPtr,.nilPtr,.map st.nb,.int .i64 0]) (some 74)=st0
 have nb0:st0.nb=st.nb+2:=by rw[<-hst0];rfl
 have nb1:(st.push (.pmap []) none).nb=st.nb+1:=rfl
 rw[nb1]
 have bx0:∀x,st0.box x=if x=st.nb+1 then .cells [.nilPtr,.nilPtr,.map st.nb,.int .i64 0]else if x=st.nb then .pmap []else st.box x:=fun x=>by rw[<-hst0];rfl
 refine HK (bb:=st.nb+1) (ub:=st.nb) (d:=1) (r:= .nilPtr) (n:= .nilPtr) (nodes:=0) (up:=[]) (by rw[bx0,if_pos rfl]) (by rw[bx0,if_neg (by omega),if_pos rfl]) (by omega) (by omega) (fun p hp=>by cases hp) ⟨by omega,by omega⟩ fun st1 q1 q2 q3 q4=>Aa rfl ?_
 have hb1:st1.box (st.nb+1)= .cells [.nilPtr,.nilPtr,.map st.nb,.int .i64 (0+1)]:=by rw[q2];simp only;rw[if_pos trivial]
 refine⟨_,hb1,by simp,?_⟩
 generalize hst2:st1.put (st.nb+1) (.cells (setAll [.nilPtr,.nilPtr,.map st.nb,.int .i64 (0+1)] 0 [.box (st0.nb+1) 0]))=st2
 have hb2:st2.box (st.nb+1)= .cells [.box (st0.nb+1) 0,.nilPtr,.map st.nb,.int .i64 (0+1)]:=by rw[<-hst2];simp[St.put,setAll]
 refine Ad (x:= .box (st0.nb+1) 0) (by simp only[Ac,hb2];rfl) (Aa rfl ?_)
 refine⟨_,hb2,by simp,?_⟩
 generalize hst3:st2.put (st.nb+1) (.cells (setAll [.box (st0.nb+1) 0,.nilPtr,.map st.nb,.int .i64 (0+1)] 1 [.box (st0.nb+1) 0]))=st3
 have bx3:∀x,st3.box x=if x=st.nb+1 then .cells [.box (st0.nb+1) 0,.box (st0.nb+1) 0,.map st.nb,.int .i64 1]else st1.box x:=fun x=>by
  rw[<-hst3,<-hst2]
  by_cases h:x=st.nb+1
  ·simp[St.put,setAll,h]
  ·simp[St.put,h]
 have nb3:st3.nb=st.nb+4:=by rw[<-hst3,<-hst2];show st1.nb=_;omega
 have kr:st3.box (st0.nb+1)= .cells [.nilSlice,.map st0.nb,.int .i64 ((1:Nat):Int)]:=by
  rw[bx3,if_neg (by omega),q2];simp only
  rw[if_neg (by omega),if_neg (by omega),if_pos trivial]
 have km:st3.box st0.nb= .map []:=by
  rw[bx3,if_neg (by omega),q2];simp only
  rw[if_neg (by omega),if_neg (by omega),if_neg (by omega),if_pos trivial]
 have ku:st3.box st.nb= .pmap [(st0.nb+1,.bool true)]:=by
  rw[bx3,if_neg (by omega),q2];simp only
  rw[if_neg (by omega),if_pos trivial];rfl
 have eS:shT 1 (.mk (st0.nb+1) st0.nb false [])=[⟨st0.nb+1,st0.nb,false,1,[]⟩]:=by rw[shT,BR];rfl
 have eB:bxL [⟨st0.nb+1,st0.nb,false,1,[]⟩]=[st0.nb+1,st0.nb]:=rfl
 have mm:∀{x},x∈ [st0.nb+1,st0.nb]->x=st0.nb+1∨x=st0.nb:=fun {x} hx=>by
  rcases List.mem_cons.1 hx with h | h
  ·exact .inl h
  ·exact .inr (List.mem_singleton.1 h)
 refine hk (st.nb+1) st.nb (st0.nb+1) st0.nb (fun _=> .nilSlice) st3 ⟨?_,?_,⟨_,ku,by simp,fun p hp=>?_,fun s hs=>?_⟩,by omega,by omega,fun hx=>?_,fun hx=>?_⟩
 ·rw[eS]
  refine⟨by rw[eB];simp,fun x hx=>?_,fun s hs=>?_,(fun x _ id hid=>by cases hid),(fun x _ y _ _ id hid=>by cases hid)⟩
  ·rw[eB]at hx
   rcases mm hx with h | h<;>omega
  ·rw[List.mem_singleton.1 hs]
   exact⟨kr,C5.nil,⟨[],km,fun _=>rfl⟩,fun x hx=>by cases hx⟩
 ·rw[bx3,if_pos rfl];rfl
 ·rw[List.mem_singleton.1 hp]
  exact⟨by simp[Ao,kr],by show st0.nb+1<st3.nb;omega⟩
 ·rw[eS]at hs
  rw[List.mem_singleton.1 hs]
  simp[BA]
 ·rw[eS,eB]at hx
  rcases mm hx with h | h<;>omega
 ·rw[eS,eB]at hx
  rcases mm hx with h | h<;>omega
theorem BH.ext {bb ub nodes:Nat} {now:TV} {T:Tb} {σ:Nat->TV} {st st':St} (H:BH bb ub now T nodes σ st) (e:Ah st st'):BH bb ub now T nodes σ st':=by
 obtain⟨up,hup⟩:=H.un
 refine⟨H.hp.same e.nb (fun x hx=>e.box x (H.hp.lt x hx)) fun id h1 h2=>⟨Nat.lt_of_lt_of_le h1 e.nt,(e.live id h1).trans h2⟩,(e.box bb H.bl).trans H.cell,⟨up,(e.box ub H.ul).trans hup.box,hup.nd,fun p hp=>?_,hup.fd⟩,Nat.lt_of_lt_of_le H.bl e.nb,Nat.lt_of_lt_of_le H.ul e.nb,H.bx,H.ux⟩
 obtain⟨q1,q2⟩:=hup.ok p hp
 refine⟨?_,Nat.lt_of_lt_of_le q2 e.nb⟩
 simp only[Ao,e.box p.1 q2]at q1⊢
 exact q1
theorem QE {bb ub nodes:Nat} {now:TV} {T:Tb} {σ:Nat->TV} {st:St} (H:BH bb ub now T nodes σ st) (hN:NdL (shT 1 T)) (hc:(Af T).cnt<=900000) (hz:(Af T).sz<=2000000) {K:Int->St->Prop} (hk:∀st',Ah st st'->K (AP (Af T):Nat) st'):
  Ai (Ac st [] (.t (.box bb 0)) 0) fun v=>CallT PR Ak [.box bb 0,v] [.agg [.int .i64,.bool,.bool,.str,.int .i64,.int .i64,.int .i64,.int .i64,.int .i64,.str,.tv,.tv,.tv]] st
   fun n1 b1 b2 s1 n2 n3 n4 n5 n6 s2 v1 v2 v3 st5=>CallT PR AB [.agg [.int .i64 n1,.bool b1,.bool b2,.str s1,.int .i64 n2,.int .i64 n3,.int .i64 n4,.int .i64 n5,.int .i64 n6,.str s2,v1,v2,v3]] [.one (.int .i64)] st5 fun n st6=>K n st6:=by
 refine Ad (x:= .box T.b 0) (by simp only[Ac,H.cell];rfl) ?_
 refine MW (Af T).cnt T 1 (Nat.le_refl _) hc H.hp.sh hN H.hp.lt fun uf st' hv ho e=>?_
 exact Jq hz hv (Bg st') fun st6 e6=>hk st6 (e.trans e6)
def reK (bb:Nat) (K:Int->St->Prop) (st:St):Prop:=Ai (Ac st [] (.t (.box bb 0)) 0) fun v=>CallT PR Ak [.box bb 0,v] [.agg [.int .i64,.bool,.bool,.str,.int .i64,.int .i64,.int .i64,.int .i64,.int .i64,.str,.tv,.tv,.tv]] st
   fun n1 b1 b2 s1 n2 n3 n4 n5 n6 s2 v1 v2 v3 st5=>CallT PR AB [.agg [.int .i64 n1,.bool b1,.bool b2,.str s1,.int .i64 n2,.int .i64 n3,.int .i64 n4,.int .i64 n5,.int .i64 n6,.str s2,v1,v2,v3]] [.one (.int .i64)] st5 fun n st6=>K n st6
theorem Nh {bb ub:Nat} {now v3:TV} {T:Tb} {σ:Nat->TV} {st:St} {ks:List B8} {D:Int} (H:BH bb ub now T (Af T).cnt σ st) (hN:NdL (shT 1 T)) (hc:(Af T).cnt<=900000) (hz:(Af T).sz<=2000000)
  (hr:Rd 1 v3 ks.length (ks.map TV.str)) (hl:∀k,k∈ks->k.length<=1000000) (hn:ks.length<=1000000) (hg:D<=48->(Af T).cnt<=65536->(∀k,k∈ks->U8 k/\k.length<=1024)->AP (Af T)=0)
  {K:Int->St->Prop} (hk:∀st',Ah st st'->K (AP (Af T):Nat) st'):
  BIf (decide ((48:Int)<D)) (reK bb K st) (Ai (Ac st [] (.t (.box bb 3)) 0) fun x6=>AS (.int .i64) x6 fun n16=>BIf (decide ((65536:Int)<n16)) (reK bb K st)
   (CallT PR Av [v3,.func Bc []] [.one .bool] st fun b11 st9=>BIf b11 (reK bb K st9) (K 0 st9))):=by
 have re:reK bb K st:=QE H hN hc hz hk
 refine Ab (fun _=>re) fun h1=>Ad (x:= .int .i64 (Af T).cnt) (by simp only[Ac,H.cell];rfl) (Cj (Ab (fun _=>re) fun h2=>?_))
 refine NL hr hl hn (As (fun _=>re) fun h3=>?_)
 have:AP (Af T)=0:=hg (by omega) (by omega) fun k hk'=>by
  have h4:PS k=false:=by
   rw[Bool.eq_false_iff];intro e
   have:=List.any_eq_true.2 ⟨k,hk',e⟩
   rw[this]at h3;cases h3
  unfold PS at h4
  simp only[Bool.or_eq_false_iff,Bool.not_eq_false',decide_eq_true_eq,decide_eq_false_iff_not]at h4
  exact⟨h4.1,by omega⟩
 have:=hk st (Ah.refl st)
 rw[‹AP (Af T)=0›]at this
 exact this
theorem BH.count {bb ub nodes nodes':Nat} {now:TV} {T:Tb} {σ:Nat->TV} {st:St} (H:BH bb ub now T nodes σ st):BH bb ub now T nodes' σ (st.put bb (.cells [.box T.b 0,now,.map ub,.int .i64 nodes'])):=by
 obtain⟨up,hup⟩:=H.un
 have kb:∀x,x≠bb->(st.put bb (.cells [.box T.b 0,now,.map ub,.int .i64 nodes'])).box x=st.box x:=fun x h=>if_neg h
 have kbb:(st.put bb (.cells [.box T.b 0,now,.map ub,.int .i64 nodes'])).box bb= .cells [.box T.b 0,now,.map ub,.int .i64 nodes']:=if_pos rfl
 refine⟨H.hp.same (Nat.le_refl _) (fun x hx=>kb x fun e=>H.bx (e▸hx)) fun id h1 h2=>⟨h1,h2⟩,kbb,⟨up,by rw[kb _ (Ne.symm H.bu)];exact hup.box,hup.nd,fun p hp=>?_,hup.fd⟩,H.bl,H.ul,H.bx,H.ux⟩
 obtain⟨q1,q2⟩:=hup.ok p hp
 refine⟨?_,q2⟩
 by_cases c:p.1=bb
 ·simp only[Ao,c,kbb]
 ·simp only[Ao,kb _ c]at q1⊢;exact q1
theorem SP (a b:List B8):kz (a++b)=kz a+kz b:=by unfold kz;rw[List.map_append,List.sum_append]
theorem RZ {bb ub i:Nat} {T u:Tb} {cur:List Hop} {σ:Nat->TV} {st:St} {a:Asg} {a_2:TV} {cs:List TV} {K:Int->St->Prop} (H:BH bb ub (.box u.b 0) T (Af T).cnt σ st) (hu:atT T cur=some u) (hN:NdL (shT 1 T)) (hNe:NeL (shT 1 T))
  (hV:AP (Af T)=0) (hc:a.keys.length+a.val.cnt<=100000) (hz:(Af T).sz+kz a.keys+a.val.sz+2<=1000000) (hr:Rd 1 a_2 a.keys.length (a.keys.map TV.str)) (hv:VlR St.zero a.val cs)
  (hk1:∀nu T' cur' u' σ' st',D9 nu i T cur a= .ok (T',cur')->AP (Af T')=0->atT T' cur'=some u'->BH bb ub (.box u'.b 0) T' (Af T').cnt σ' st'->NdL (shT 1 T')->NeL (shT 1 T')->(Af T').sz<=(Af T).sz+kz a.keys+a.val.sz+2->K 0 st')
  (hk2:∀nu e st',D9 nu i T cur a= .error e->K e st')
  (hk3:∀nu T' cur' st',D9 nu i T cur a= .ok (T',cur')->AP (Af T')≠0->K (AP (Af T'):Nat) st'):
  CallT PR BT [.box bb 0,.agg (.bool a.tab:: .bool a.elem::a_2::cs),.int .i64 i] [.one (.int .i64)] st K:=by
 obtain⟨tab,elem,ks,v⟩:=a
 simp only at*
 have hcT:=EM hV
 have hvT:=(BY.1 hV).1
 have hlT:=(BY.1 hV).2.1
 have hvc:=IA v
 have hpz:∀{K:Bool->St->Prop},K (D4 ⟨tab,elem,ks,v⟩) st->CallT PR CI [.agg (.bool tab:: .bool elem::a_2::cs)] [.one .bool] st K:=fun h=>Rz hr hv h
 have hv0:=hv
 obtain⟨s,l,f⟩:=v
 obtain⟨ub1,ul,uf,xl,xf,rfl,_⟩:=hv0.cells
 have nu0:Nat->Nu:=fun _=>⟨0,0,0⟩
 refine Fc bb tab elem a_2 s.kind s.b s.neg s.dg s.ex s.tk s.td s.tn s.tz s.text ub1 ul uf i st K (hpz (As (fun hp=>?_) fun hp=>?_))
 ·refine hk2 nu0 1 st ?_
  unfold D9
  rw[if_pos (by simpa using hp)]
 have hp':D4 ⟨tab,elem,ks,.mk s l f⟩=true:=by simpa using hp
 have hks:ks≠ []:=fun e=>by subst e;unfold D4 at hp';simp at hp'
 refine Ad (x:= .box u.b 0) (by simp only[Ac,H.cell];rfl) ?_
 --where the keys begin
 generalize hh0:(if tab=true then []else cur)=h0
 obtain⟨u0,hu0,hu0b⟩:∃u0,atT T h0=some u0/\(if tab=true then TV.box T.b 0 else TV.box u.b 0)= .box u0.b 0:=by
  subst hh0
  cases tab with
  | true=>exact⟨T,by cases T;rfl,rfl⟩
  | false=>exact⟨u,hu,rfl⟩
 refine⟨fun from_1 b_1 at_1 b2 b3 v3 n1 b4 b5 s1 n2 n3 n4 n5 n6 s2 v4 v5 v6 st2=>from_1= .box u0.b 0/\b_1= .box bb 0/\at_1=(i:Int)/\tab=b2/\elem=b3/\a_2=v3/\n1=s.kind/\b4=s.b/\b5=s.neg/\s1=s.dg/\n2=s.ex/\n3=s.tk/\n4=s.td/\n5=s.tn/\n6=s.tz/\s2=s.text/\ub1=v4/\ul=v5/\uf=v6/\st=st2,?_,?_⟩
 ·refine As (fun ht=>?_) fun ht=>?_
  ·refine Ad (x:= .box T.b 0) (by simp only[Ac,H.cell];rfl) ⟨?_,rfl,rfl,rfl,rfl,rfl,rfl,rfl,rfl,rfl,rfl,rfl,rfl,rfl,rfl,rfl,rfl,rfl,rfl,rfl⟩
   rw[if_pos (by simpa using ht)]at hu0b;exact hu0b
  ·refine⟨?_,rfl,rfl,rfl,rfl,rfl,rfl,rfl,rfl,rfl,rfl,rfl,rfl,rfl,rfl,rfl,rfl,rfl,rfl,rfl⟩
   rw[if_neg (by simpa using ht)]at hu0b;exact hu0b
 rintro _ _ _ _ _ _ _ _ _ _ _ _ _ _ _ _ _ _ _ _ ⟨rfl,rfl,rfl,rfl,rfl,rfl,rfl,rfl,rfl,rfl,rfl,rfl,rfl,rfl,rfl,rfl,rfl,rfl,rfl,rfl⟩
 have DQ:∀nu,Ct nu tab 0 T h0 ks.dropLast=none->D9 nu i T cur ⟨tab,elem,ks,.mk s l f⟩= .error 8:=fun nu hh=>by
  unfold D9
  rw[if_neg (by rw[hp'];simp)]
  simp only[hh0,hh]
 have step:∀nu T' h,Ct nu tab 0 T h0 ks.dropLast=some (T',h)->D9 nu i T cur ⟨tab,elem,ks,.mk s l f⟩=Dx (nu ks.length) ⟨tab,elem,ks,.mk s l f⟩ i T' h cur (ks.getLastD []):=fun nu T' h hh=>by
  unfold D9
  rw[if_neg (by rw[hp'];simp)]
  simp only[hh0,hh]
 refine TB H hu0 hr hks (by omega) (fun nu T1 h t σ1 st1 hh hA H1 hc1=>?_) fun nu st1 hh=>?_
 case refine_2=>
  show K 8 st1
  exact hk2 nu 8 st1 (DQ nu hh)
 have klen:1<=ks.length:=List.length_pos_iff.2 hks
 obtain⟨ks',kl,hkl⟩:∃ks' kl,ks=ks'++[kl]:=⟨ks.dropLast,ks.getLast hks,(List.dropLast_concat_getLast hks).symm⟩
 have hgl:ks.getLastD []=kl:=by rw[hkl];simp
 have hdl:ks.dropLast=ks':=by rw[hkl];simp
 have hkzz:kz ks=kz ks'+(kl.length+1):=by rw[hkl,SP];simp[kz]
 have hkl2:ks.length=ks'.length+1:=by rw[hkl];simp
 rw[hdl]at hh
 have step1:∀x,D9 (J6 nu ks.length x) i T cur ⟨tab,elem,ks,.mk s l f⟩=Dx x ⟨tab,elem,ks,.mk s l f⟩ i T1 h cur kl:=fun x=>by
  rw[step _ T1 h (by rw[hdl,Iw (nu':=nu) ks' 0 T h0 (fun j _ h2=>by unfold J6;rw[if_neg (by omega)]),hh]),hgl]
  simp only[J6,if_true]
 obtain⟨W,hNe1⟩:=Hp ks' 0 hu0 hNe hh (Nat.le_refl _)
 have hN1:=W.nd hN
 have w1:=W.cnt
 have w2:=W.sz
 have w3:=W.lv
 have hvz:1<=(Vl.mk s l f).sz:=Vl.sz_pos _
 have klK:∀k,k∈ks->k.length<=1000000:=fun k hk=>by
  have:∀(l:List B8),k∈l->k.length<=kz l:=by
   intro l
   induction l with
   | nil=>intro h;cases h
   | cons x r ih=>
    intro h
    simp only[kz,List.map_cons,List.sum_cons]
    rcases List.mem_cons.1 h with rfl | h
    ·omega
    ·have:=ih h;unfold kz at this;omega
  have:=this ks hk
  omega
 have hdp:=Lv hA
 have fin:∀{x:Nu} {T':Tb} {cur':List Hop} {D:Int},Dx x ⟨tab,elem,ks,.mk s l f⟩ i T1 h cur kl= .ok (T',cur')->(elem=false->tab=false->AD (.mk s l f))->((dpH h+3+(if elem=true∨tab=true then 0 else lvV (.mk s l f)-2):Nat):Int)<=max 48 D->
   (D<=48->(Af T').cnt<=65536->(∀k,k∈ks->U8 k/\k.length<=1024)->AP (Af T')=0)/\NdL (shT 1 T')/\NeL (shT 1 T')/\(Af T').cnt<=900000/\(Af T').sz<=(Af T).sz+kz ks+(Vl.mk s l f).sz+2:=fun {x T' cur' D} hL hvv hD=>by
  have F:=(Ho hNe1 hL).1
  have f1:=F.cnt
  have f2:=F.sz
  have f3:=F.lv
  simp only at f1 f2 f3
  refine⟨fun g1 g2 g3=>BY.2 ⟨?_,?_,g2⟩,F.nd hN1,F.ne hNe1,by omega,by omega⟩
  ·have g4:=g3 kl (by rw[hkl];simp)
   exact F.va ⟨g4.1,g4.2,hvv⟩ (W.va (fun k hk=>g3 k (by rw[hkl];exact List.mem_append_left _ hk)) hvT)
  ·omega
 refine Aa hr.isSl ?_
 have hw:IntKind.wrap .i64 ((lenS a_2:Int)-1)=((ks'.length:Nat):Int):=by
  rw[hr.lenS,Aj _ (by omega) (by omega)];omega
 rw[hw]
 refine⟨⟨by omega,by rw[hr.lenZ];omega⟩,?_⟩
 have hk0:(ks.map TV.str)[ks'.length*1+0]? =some (.str kl):=by
  rw[hkl];simp
 refine Ad (x:= .str kl) ?_ (Dk ?_)
 ·rw[Int.toNat_natCast]
  exact hr.ldx st1 ks'.length 0 hk0
 refine Aa rfl (Aa rfl (H1.ldd hA (Cj ?_)))
 have hw2:IntKind.wrap .i64 (((1+dpH h:Nat):Int)+2)=((dpH h+3:Nat):Int):=by rw[Aj _ (by omega) (by omega)];omega
 rw[hw2]
 cases he:elem with
 | true=>
  have lke:∀x,Dx x ⟨tab,elem,ks,.mk s l f⟩ i T1 h cur kl=Kd x T1 t h kl:=fun x=>by
   unfold Dx Kd
   rw[hA]
   simp only[he,if_true]
   all_goals (rcases Am kl t.es with _ | ⟨eb,u | l | ⟨v,j⟩⟩<;>rfl)
  subst he
  refine Po H1 hA (by omega) (fun x T' h' u' σ' st' hg hA' H' hc'=>?_) fun x st' hg=>?_
  ·have hL:=(lke x).trans hg
   obtain⟨g1,g2,g3,g4,g5⟩:=fin (D:=((dpH h+3:Nat):Int)) hL (fun h=>by cases h) (by simp;omega)
   ·refine Nh H' g2 g4 (by omega) hr klK (by omega) g1 fun st2 e2=>?_
    by_cases hcv:AP (Af T')=0
    ·rw[hcv]
     exact hk1 _ _ _ u' σ' st2 ((step1 x).trans hL) hcv hA' (H'.ext e2) g2 g3 g5
    ·exact hk3 _ _ _ st2 ((step1 x).trans hL) hcv
  ·exact hk2 _ _ st' ((step1 x).trans ((lke x).trans hg))
 | false=>
  cases ht:tab with
  | true=>
   have lke:∀x,Dx x ⟨tab,elem,ks,.mk s l f⟩ i T1 h cur kl=Je x T1 t h kl:=fun x=>by
    unfold Dx Je
    rw[hA]
    simp only[he,ht,if_true,if_false,Bool.false_eq_true]
    all_goals (rcases Am kl t.es with _ | ⟨eb,u | l | ⟨v,j⟩⟩<;>rfl)
   subst he
   subst ht
   refine Qq H1 hA (by omega) (fun x T' h' u' σ' st' hg hA' H' hc'=>?_) fun x st' hg=>?_
   ·have hL:=(lke x).trans hg
    obtain⟨g1,g2,g3,g4,g5⟩:=fin (D:=((dpH h+3:Nat):Int)) hL (fun _ h=>by cases h) (by simp;omega)
    refine Nh H' g2 g4 (by omega) hr klK (by omega) g1 fun st2 e2=>?_
    by_cases hcv:AP (Af T')=0
    ·rw[hcv]
     exact hk1 _ _ _ u' σ' st2 ((step1 x).trans hL) hcv hA' (H'.ext e2) g2 g3 g5
    ·exact hk3 _ _ _ st2 ((step1 x).trans hL) hcv
   ·exact hk2 _ _ st' ((step1 x).trans ((lke x).trans hg))
  | false=>
   refine Aa rfl (Aa rfl (H1.ldm hA (H1.map hA fun es hes=>?_)))
   rw[hes kl]
   have lkn:∀x,Am kl t.es=none->Dx x ⟨tab,elem,ks,.mk s l f⟩ i T1 h cur kl= .ok (AK T1 h (A8 t kl x.eb (.clo (.mk s l f) i)),cur):=fun x hl=>by
    unfold Dx
    rw[hA]
    simp only[he,ht,if_false,Bool.false_eq_true,hl]
   have lks:∀x p,Am kl t.es=some p->Dx x ⟨tab,elem,ks,.mk s l f⟩ i T1 h cur kl= .error 8:=fun x p hl=>by
    unfold Dx
    rw[hA]
    simp only[he,ht,if_false,Bool.false_eq_true,hl]
   subst he
   subst ht
   rcases hl:Am kl t.es with _ | ⟨eb,e⟩
   ·rw[Option.map_none]
    refine Aa rfl ?_
    show CallT _ _ _ _ _ _
    refine clo_new H1 hA hl (by omega) hv (by rfl) fun σ' st2 H2=>?_
    generalize hT':AK T1 h (A8 t kl st1.nb (.clo (.mk s l f) i))=T' at H2
    have hL:Dx ⟨0,0,st1.nb⟩ ⟨false,false,ks,.mk s l f⟩ i T1 h cur kl= .ok (T',cur):=by rw[lkn _ hl,hT']
    have F2:=(Ho hNe1 hL).2 rfl rfl
    simp only at F2
    obtain⟨F3,F4,F5,F7⟩:=F2
    obtain⟨r,u1,hr1,hu1,hub1⟩:∃r u1,h=cur++r/\atT T1 cur=some u1/\u1.b=u.b:=by
     simp only[Bool.false_eq_true,if_false]at hh0
     subst hh0
     have:=Lm (g:=cur) (r:=[]) ks' 0 hu (by rw[List.append_nil];exact hu) hNe (by rw[List.append_nil];exact hh)
     obtain⟨r,u1,a1,a2,a3⟩:=this
     exact⟨r,u1,a1,a2,a3⟩
    obtain⟨u',hu',hub'⟩:∃u',atT T' cur=some u'/\u'.b=u.b:=by
     subst hr1
     obtain⟨u',q1,q2⟩:=Qr (x:=A8 t kl st1.nb (.clo (.mk s l f) i)) hu1 hA rfl
     rw[hT']at q1
     exact⟨u',q1,q2.trans hub1⟩
    have F:=(Ho hNe1 hL).1
    have f2:=F.sz
    simp only at f2
    have F6:AP (Af T')=0->AP (.mk s l f)=0:=fun e=>by
     obtain⟨e1,e2,e3⟩:=BY.1 e
     exact BY.2 ⟨F3 e1,by omega,by omega⟩
    have hnow:TV.box u.b 0= .box u'.b 0:=by rw[hub']
    rw[hnow]at H2
    refine Jq (v:= .mk s l f) (by omega) hv (Bg _) fun st21 e21=>Ab (fun hne=>?_) fun heq=>?_
    ·refine Aa rfl (Aa rfl (QE (H2.ext e21) (F.nd hN1) (by omega) (by omega) fun st' e'=>hk3 _ _ _ st' ((step1 _).trans hL) fun e=>hne (by rw[F6 e];rfl)))
    ·have hcv0:AP (.mk s l f)=0:=by omega
     have H3:=H2.ext e21
     refine Aa rfl (Aa rfl (Ad (x:= .int .i64 (Af T1).cnt) (by simp only[Ac,Au,H3.cell];rfl) (Cj ?_)))
     refine Size_ok (v:= .mk s l f) (by omega) (EM hcv0) hv (Bg _) fun st24 e24=>?_
     have H4:=H3.ext e24
     refine⟨by simp only[Ac,Au,H4.cell];rfl,Aa rfl (Aa rfl ⟨_,H4.cell,by simp,?_⟩)⟩
     have hw3:IntKind.wrap .i64 (((Af T1).cnt:Int)+((Vl.mk s l f).cnt:Nat))=((Af T').cnt:Nat):=by rw[Aj _ (by omega) (by omega)];omega
     rw[hw3]
     have H5:=H4.count (nodes':=(Af T').cnt)
     have hAt:atT T' h=some (A8 t kl st1.nb (.clo (.mk s l f) i)):=by rw[<-hT'];exact DM h hA
     refine Aa rfl (Aa rfl ?_)
     show Ai (Ac (st24.put bb (.cells [.box T'.b 0,.box u'.b 0,.map ub,.int .i64 ((Af T').cnt:Nat)])) [] (.t (.box t.b 2)) 0) _
     refine H5.ldd hAt (Cj ?_)
     refine TE (v:= .mk s l f) (by omega) (EM hcv0) hv (Bg _) fun st26 e26=>?_
     have H6:=H5.ext e26
     have hw4:IntKind.wrap .i64 (((1+dpH h:Nat):Int)+(JV (.mk s l f):Nat))=((1+dpH h+lvV (.mk s l f):Nat):Int):=by
      have:=JM (.mk s l f)
      rw[Qd,Aj _ (by omega) (by omega)];omega
     rw[hw4]
     refine⟨?_,?_⟩
     ·have:=(H6.tab hAt).1.cell
      simp only at this
      show Ac st26 [] (.t (.box (A8 t kl st1.nb (.clo (.mk s l f) i)).b 2)) 0=_
      simp only[Ac,this];rfl
     have hgood:((1+dpH h+lvV (.mk s l f):Nat):Int)<=48->(Af T').cnt<=65536->(∀k,k∈ks->U8 k/\k.length<=1024)->AP (Af T')=0:=fun g1 g2 g3=>by
      have g4:=g3 kl (by rw[hkl];simp)
      refine BY.2 ⟨F.va ⟨g4.1,g4.2,fun _ _=>Eh hcv0⟩ (W.va (fun k hk=>g3 k (by rw[hkl];exact List.mem_append_left _ hk)) hvT),?_,g2⟩
      omega
     refine Nh H6 (F.nd hN1) (by omega) (by omega) hr klK (by omega) hgood fun st2 e2=>?_
     by_cases hcv:AP (Af T')=0
     ·rw[hcv]
      exact hk1 _ _ _ u' σ' st2 ((step1 _).trans hL) hcv hu' (H6.ext e2) (F.nd hN1) (F.ne hNe1) (by omega)
     ·exact hk3 _ _ _ st2 ((step1 _).trans hL) hcv
   ·rw[Option.map_some]
    refine Aa rfl ?_
    show K 8 st1
    exact hk2 _ 8 st1 ((step1 ⟨0,0,0⟩).trans (lks _ _ hl))
end Go.TVF
section
namespace Go.TVF
open Go.IntKind(i64 u8)
mutual
def erT:Tb->Tb
 | .mk _ _ hd es=> .mk 0 0 hd (EF es)
def EF:List Kn->List Kn
 | []=>[]
 | .mk k _ e::r=> .mk k 0 (erE e)::EF r
def erE:En->En
 | .opn t=> .opn (erT t)
 | .lst l=> .lst (Ma l)
 | .clo v i=> .clo v i
def Ma:List Tb->List Tb
 | []=>[]
 | t::r=>erT t::Ma r
end
theorem EZ:∀l:List Tb,Ma l=l.map erT
 | []=>by unfold Ma;rfl
 | t::r=>by unfold Ma;rw[EZ r];rfl
theorem O3:∀a b:List Kn,EF (a++b)=EF a++EF b
 | [],b=>by simp[EF]
 | .mk k eb e::r,b=>by rw[List.cons_append,EF,EF,O3 r b];rfl
theorem QY (t:Tb):(erT t).es=EF t.es:=by cases t;rw[erT];rfl
theorem S8 (t:Tb):(erT t).hd=t.hd:=by cases t;rw[erT];rfl
mutual
theorem KN:∀t:Tb,Af (erT t)=Af t
 | .mk b m hd es=>by rw[erT,Af,Af,Oc es]
theorem Oc:∀es:List Kn,AO (EF es)=AO es
 | []=>by rw[EF]
 | .mk k eb e::r=>by rw[EF,AO,AO,valE_er e,Oc r]
theorem valE_er:∀e:En,AQ (erE e)=AQ e
 | .opn t=>by rw[erE,AQ,AQ,KN t]
 | .lst l=>by rw[erE,AQ,AQ,Ob l]
 | .clo v i=>by rw[erE]
theorem Ob:∀l:List Tb,Br (Ma l)=Br l
 | []=>by rw[Ma]
 | t::r=>by rw[Ma,Br,Br,KN t,Ob r]
end
theorem Gy (k:B8):∀es:List Kn,Am k (EF es)=(Am k es).map fun p=>(0,erE p.2)
 | []=>by rw[EF];rfl
 | .mk k' eb e::r=>by
  rw[EF,Am,Am]
  split
  ·rfl
  ·exact Gy k r
theorem Nn (k:B8) (x:En):∀es:List Kn,Cc k (erE x) (EF es)=EF (Cc k x es)
 | []=>by rw[EF];rfl
 | .mk k' eb e::r=>by
  rw[EF,Cc,Cc]
  split
  ·rw[EF]
  ·rw[EF,Nn k x r]
theorem Ra:∀(h:List Hop) (T:Tb),atT (erT T) h=(atT T h).map erT
 | [],T=>by cases T;rw[erT];simp only[atT,Option.map_some];rw[erT]
 | (k,none)::h,.mk b m hd es=>by
  rw[erT,atT,atT,Gy]
  rcases Am k es with _ | ⟨eb,u | l | ⟨v,i⟩⟩
  ·rfl
  ·simp only[Option.map_some,erE];exact Ra h u
  ·simp only[Option.map_some,erE];rfl
  ·simp only[Option.map_some,erE];rfl
 | (k,some i)::h,.mk b m hd es=>by
  rw[erT,atT,atT,Gy]
  rcases Am k es with _ | ⟨eb,u | l | ⟨v,j⟩⟩
  ·rfl
  ·simp only[Option.map_some,erE];rfl
  ·simp only[Option.map_some,erE,EZ,List.getElem?_map]
   cases l[i]? with
   | none=>rfl
   | some u=>exact Ra h u
  ·simp only[Option.map_some,erE];rfl
theorem Fj:∀(h:List Hop) (T x:Tb),AK (erT T) h (erT x)=erT (AK T h x)
 | [],T,x=>by cases T;cases x;rw[erT,erT];simp only[AK];rw[erT]
 | (k,none)::h,.mk b m hd es,x=>by
  rw[erT,AK,AK,Gy]
  rcases Am k es with _ | ⟨eb,u | l | ⟨v,i⟩⟩
  ·simp only[Option.map_none];rw[erT]
  ·simp only[Option.map_some,erE]
   rw[erT,Fj h u x]
   have:=Nn k (.opn (AK u h x)) es
   rw[erE]at this
   rw[this]
  ·simp only[Option.map_some,erE];rw[erT]
  ·simp only[Option.map_some,erE];rw[erT]
 | (k,some i)::h,.mk b m hd es,x=>by
  rw[erT,AK,AK,Gy]
  rcases Am k es with _ | ⟨eb,u | l | ⟨v,j⟩⟩
  ·simp only[Option.map_none];rw[erT]
  ·simp only[Option.map_some,erE];rw[erT]
  ·simp only[Option.map_some,erE,EZ,List.getElem?_map]
   cases l[i]? with
   | none=>simp only[Option.map_none];rw[erT]
   | some u=>
    simp only[Option.map_some]
    rw[erT,Fj h u x]
    have:=Nn k (.lst (l.set i (AK u h x))) es
    rw[erE,EZ,List.map_set]at this
    rw[this]
  ·simp only[Option.map_some,erE];rw[erT]
theorem NX (t:Tb) (k:B8) (eb:Nat) (e:En):A8 (erT t) k 0 (erE e)=erT (A8 t k eb e):=by
 unfold A8
 rw[S8,QY]
 cases t
 rw[erT,erT,O3,EF,EF];rfl
theorem Tq (t:Tb) (k:B8) (e:En):Ds (erT t) k (erE e)=erT (Ds t k e):=by
 unfold Ds
 rw[S8,QY,Nn]
 cases t
 rw[erT,erT];rfl
theorem I7 (nu:Nu) (hd:Bool):erT (AN nu hd)=AN ⟨0,0,0⟩ hd:=by unfold AN;rw[erT,EF]
theorem head_er (u:Tb):erT (CQ u)=CQ (erT u):=by cases u;unfold CQ;rw[erT,erT]
def n0:Nu:=⟨0,0,0⟩
theorem hop_er (nu:Nu) (hd:Bool) (T:Tb) (h:List Hop) (k:B8):FD n0 hd (erT T) h k=(FD nu hd T h k).map fun p=>(erT p.1,p.2):=by
 unfold FD
 rw[Ra]
 cases atT T h with
 | none=>rfl
 | some t=>
  simp only[Option.map_some]
  rw[QY,Gy]
  rcases Am k t.es with _ | ⟨eb,u | l | ⟨v,i⟩⟩
  ·simp only[Option.map_none,Option.map_some]
   have:=NX t k nu.eb (.opn (AN nu false))
   rw[erE,I7]at this
   rw[<-Fj,<-this];rfl
  ·simp only[Option.map_some,erE]
  ·simp only[Option.map_some,erE,EZ,List.length_map]
   split<;>rfl
  ·simp only[Option.map_some,erE];rfl
theorem QU (nu:Nat->Nu) (hd:Bool):∀(ks:List B8) (j:Nat) (T:Tb) (h:List Hop),Ct (fun _=>n0) hd j (erT T) h ks=(Ct nu hd j T h ks).map fun p=>(erT p.1,p.2)
 | [],j,T,h=>rfl
 | k::ks,j,T,h=>by
  unfold Ct
  rw[hop_er (nu j)]
  cases FD (nu j) hd T h k with
  | none=>rfl
  | some p=>exact QU nu hd ks (j+1) p.1 p.2
def erX:Except Int (Tb×List Hop)->Except Int (Tb×List Hop)
 | .ok p=> .ok (erT p.1,p.2)
 | .error e=> .error e
theorem last_er (nu:Nu) (a:Asg) (i:Nat) (T:Tb) (h cur:List Hop) (k:B8):Dx n0 a i (erT T) h cur k=erX (Dx nu a i T h cur k):=by
 unfold Dx
 rw[Ra]
 cases atT T h with
 | none=>rfl
 | some t=>
  simp only[Option.map_some]
  rw[QY,Gy]
  by_cases he:a.elem=true
  ·rw[if_pos he,if_pos he]
   rcases Am k t.es with _ | ⟨eb,u | l | ⟨v,j⟩⟩
   ·simp only[Option.map_none,erX]
    have:=NX t k nu.eb (.lst [AN nu false])
    rw[erE,Ma,Ma,I7]at this
    rw[<-Fj,<-this];rfl
   ·simp only[Option.map_some,erE,erX]
   ·simp only[Option.map_some,erE,erX,EZ,List.length_map]
    have:=Tq t k (.lst (l++[AN nu false]))
    rw[erE,EZ,List.map_append,List.map_cons,List.map_nil,I7]at this
    rw[<-Fj,<-this];rfl
   ·simp only[Option.map_some,erE,erX]
  ·rw[if_neg he,if_neg he]
   by_cases ht:a.tab=true
   ·rw[if_pos ht,if_pos ht]
    rcases Am k t.es with _ | ⟨eb,u | l | ⟨v,j⟩⟩
    ·simp only[Option.map_none,erX]
     have:=NX t k nu.eb (.opn (AN nu true))
     rw[erE,I7]at this
     rw[<-Fj,<-this];rfl
    ·simp only[Option.map_some,erE,S8]
     split
     ·rfl
     ·simp only[erX]
      have:=Tq t k (.opn (CQ u))
      rw[erE,head_er]at this
      rw[<-Fj,<-this]
    ·simp only[Option.map_some,erE,erX]
    ·simp only[Option.map_some,erE,erX]
   ·rw[if_neg ht,if_neg ht]
    rcases Am k t.es with _ | ⟨eb,e⟩
    ·simp only[Option.map_none,erX]
     have:=NX t k nu.eb (.clo a.val i)
     rw[erE]at this
     rw[<-Fj,<-this];rfl
    ·simp only[Option.map_some,erX]
def DQ (i:Nat) (T:Tb) (cur:List Hop) (a:Asg):Except Int (Tb×List Hop):=D9 (fun _=>n0) i T cur a
theorem step_er (nu:Nat->Nu) (i:Nat) (T:Tb) (cur:List Hop) (a:Asg):DQ i (erT T) cur a=erX (D9 nu i T cur a):=by
 unfold DQ D9
 split
 ·rfl
 ·rw[QU nu]
  cases Ct nu a.tab 0 T (if a.tab=true then []else cur) a.keys.dropLast with
  | none=>rfl
  | some p=>exact last_er _ _ _ _ _ _ _
noncomputable def IC:Nat->Tb->List Hop->List Asg->Except (Nat×Nat) (Tb×List Hop)
 | _,T,cur,[]=> .ok (T,cur)
 | i,T,cur,a::r=>match DQ i T cur a with
  | .error e=> .error (i,e.toNat)
  | .ok (T',cur')=>if AP (Af T')=0 then IC (i+1) T' cur' r else .error (i,AP (Af T'))
def T00:Tb:= .mk 0 0 false []
noncomputable def JE (l:List Asg):Except (Nat×Nat) (Tb×List Hop):=IC 0 T00 [] l
theorem Se {nu:Nat->Nu} {i:Nat} {T:Tb} {cur:List Hop} {a:Asg} {e:Int} (h:D9 nu i T cur a= .error e) (hA:∃u,atT T cur=some u) (hn:NeL (shT 1 T)):e=1∨e=8∨e=6:=by
 unfold D9 at h
 split at h
 ·cases h;exact .inl rfl
 ·split at h
  ·cases h;exact .inr (.inl rfl)
  ·rename_i T' h' hh
   have hu:∃u,atT T (if a.tab=true then []else cur)=some u:=by
    split
    ·exact⟨T,by cases T;rfl⟩
    ·exact hA
   obtain⟨u,hu⟩:=hu
   obtain⟨t,ht⟩:=(Hp _ 0 hu hn hh (Nat.le_refl _)).1.at_
   unfold Dx at h
   rw[ht]at h
   simp only at h
   split at h
   ·rcases hl:Am (a.keys.getLastD []) t.es with _ | ⟨eb,u | l | ⟨v,j⟩⟩<;>rw[hl]at h<;>simp only[Except.error.injEq,reduceCtorEq]at h
    all_goals exact .inr (.inr h.symm)
   ·split at h
    ·rcases hl:Am (a.keys.getLastD []) t.es with _ | ⟨eb,u | l | ⟨v,j⟩⟩<;>rw[hl]at h<;>simp only[Except.error.injEq,reduceCtorEq]at h
     ·split at h
      ·cases h;exact .inr (.inl rfl)
      ·cases h
     all_goals exact .inr (.inl h.symm)
    ·rcases hl:Am (a.keys.getLastD []) t.es with _ | ⟨eb,e⟩<;>rw[hl]at h<;>simp only[Except.error.injEq,reduceCtorEq]at h
     exact .inr (.inl h.symm)
end Go.TVF
end
namespace Go.TVF
open Go.IntKind(i64 u8)
open Go Go.Proofs
def Qz (a:Asg) (cs:List TV):Prop:=∃kv vc,cs= .bool a.tab:: .bool a.elem::kv::vc/\Rd 1 kv a.keys.length (a.keys.map TV.str)/\VlR St.zero a.val vc
def Be:List Asg->List TV->Prop
 | [],xs=>xs=[]
 | a::r,xs=>∃c d,xs=c++d/\Qz a c/\Be r d
theorem Qz.len {a:Asg} {cs:List TV} (h:Qz a cs):cs.length=16:=by
 obtain⟨kv,vc,rfl,_,h2⟩:=h
 simp[h2.len]
theorem Be.len:∀{l:List Asg} {xs:List TV},Be l xs->xs.length=l.length*16
 | [],xs,h=>by unfold Be at h;subst h;rfl
 | a::r,xs,h=>by
  unfold Be at h
  obtain⟨c,d,rfl,h1,h2⟩:=h
  rw[List.length_append,h1.len,Be.len h2,List.length_cons];omega
theorem Be.get:∀{l:List Asg} {xs:List TV} {i:Nat} {a:Asg},Be l xs->l[i]? =some a->Qz a ((xs.drop (i*16)).take 16)
 | [],xs,i,a,h,hi=>by simp at hi
 | b::r,xs,i,a,h,hi=>by
  unfold Be at h
  obtain⟨c,d,rfl,h1,h2⟩:=h
  cases i with
  | zero=>
   simp only[List.getElem?_cons_zero,Option.some.injEq]at hi
   subst hi
   rw[Nat.zero_mul,List.drop_zero,<-h1.len,List.take_left];exact h1
  | succ i=>
   have:=Be.get h2 (show r[i]? =some a by simpa using hi)
   rw[show(i+1)*16=c.length+i*16 by rw[h1.len];omega,List.drop_append]
   simp only[Nat.add_sub_cancel_left]
   rw[List.drop_of_length_le (by omega),List.nil_append];exact this
theorem Be.app:∀{l m:List Asg} {xs ys:List TV},Be l xs->Be m ys->Be (l++m) (xs++ys)
 | [],m,xs,ys,h,k=>by unfold Be at h;subst h;exact k
 | a::r,m,xs,ys,h,k=>by
  unfold Be at h
  obtain⟨c,d,rfl,h1,h2⟩:=h
  rw[List.cons_append]
  unfold Be
  exact⟨c,d++ys,by rw[List.append_assoc],h1,Be.app h2 k⟩
def asz (a:Asg):Nat:=kz a.keys+a.val.sz+2
def Ff:List Asg->Nat
 | []=>0
 | a::r=>asz a+Ff r
theorem ldA {l:List Asg} {v:TV} {xs:List TV} {j:Nat} {a:Asg} (hr:Rd 16 v l.length xs) (ha:Be l xs) (hj:l[j]? =some a) {st:St} {f:Fun [.bool,.bool,.tv,.int .i64,.bool,.bool,.str,.int .i64,.int .i64,.int .i64,.int .i64,.int .i64,.str,.tv,.tv,.tv] Prop}
  (hf:∀kv ub ul uf,Rd 1 kv a.keys.length (a.keys.map TV.str)->VlR St.zero a.val (AA a.val.sc ub ul uf)->List.all (.bool a.tab:: .bool a.elem::kv::AA a.val.sc ub ul uf) Aq=true->
   f a.tab a.elem kv a.val.sc.kind a.val.sc.b a.val.sc.neg a.val.sc.dg a.val.sc.ex a.val.sc.tk a.val.sc.td a.val.sc.tn a.val.sc.tz a.val.sc.text ub ul uf):
  Ai ((Al st [] (.t (ixT 16 v j)) 0 16).map TV.agg) fun x=>Cd [.bool,.bool,.tv,.int .i64,.bool,.bool,.str,.int .i64,.int .i64,.int .i64,.int .i64,.int .i64,.str,.tv,.tv,.tv] x f:=by
 have hlt:j<l.length:=(List.getElem?_eq_some_iff.1 hj).1
 rw[(SlR.of_rd (st:=st) hr).ldc ha.len hlt]
 obtain⟨kv,vc,hc,h1,h2⟩:=ha.get hj
 rw[hc]
 obtain⟨tab,elem,ks,s,lv,fv⟩:=a
 have h20:=h2
 obtain⟨ub,ul,uf,xl,xf,rfl,w1,w2,_,w4,_⟩:=VlR.cells h20
 refine Ad rfl ?_
 have hone:List.all (AA s ub ul uf) Aq=true:=C7 w1.one w2.one w4.one
 exact hf kv ub ul uf h1 h2 (by show(true&&(true&&(Aq kv&&List.all (AA s ub ul uf) Aq)))=true;rw[h1.one,hone];rfl)
theorem RW {l:List Asg} {j:Nat} {a:Asg} (h:l[j]? =some a):Ff (l.drop j)=asz a+Ff (l.drop (j+1)):=by
 rw[E4 h,Ff]
theorem Rb:∀(l:List Asg) (j:Nat),Ff (l.drop j)<=Ff l
 | [],j=>by simp
 | a::r,0=>by simp
 | a::r,j+1=>by
  have:=Rb r j
  rw[List.drop_succ_cons,Ff];omega
theorem Re {l:List Asg} {v:TV} {xs:List TV} {st:St} {K:TV->Int->Int->St->Prop} (hr:Rd 16 v l.length xs) (ha:Be l xs) (hz:Ff l<=900000) (hc:∀a,a∈l->a.keys.length+a.val.cnt<=100000)
  (hk1:∀bb ub T cur u σ st',JE l= .ok (erT T,cur)->atT T cur=some u->BH bb ub (.box u.b 0) T (Af T).cnt σ st'->NdL (shT 1 T)->NeL (shT 1 T)->AP (Af T)=0->(Af T).sz<=1+Ff l->K (.box bb 0) 0 0 st')
  (hk2:∀(i e:Nat) st',JE l= .error (i,e)->e≠0->K .nilPtr i e st'):CallT PR DG [v] [.one .tv,.one (.int .i64),.one (.int .i64)] st K:=by
 have hll:l.length<=Ff l:=by
  have:∀m:List Asg,m.length<=Ff m:=by
   intro m
   induction m with
   | nil=>simp
   | cons a r ih=>rw[Ff,List.length_cons];unfold asz;omega
  exact this l
 refine KL v st K (L5 fun bb ub r m σ0 st0 H0=>Aa hr.isSl ?_)
 rw[hr.lenS]
 have e0:(Tb.mk r m false [])=AN ⟨r,m,0⟩ false:=rfl
 refine⟨fun n_1 b_1 v_1 n_2 st1=>b_1= .box bb 0/\v_1=v/\n_2=(l.length:Int)/\∃(j:Nat) (T:Tb) (cur:List Hop) (u:Tb) (σ:Nat->TV),n_1=(j:Int)/\j<=l.length/\JE l=IC j (erT T) cur (l.drop j)/\atT T cur=some u/\
   BH bb ub (.box u.b 0) T (Af T).cnt σ st1/\NdL (shT 1 T)/\NeL (shT 1 T)/\AP (Af T)=0/\(Af T).sz+Ff (l.drop j)<=1+Ff l,
  fun n_1 _ _ _ _=>l.length-n_1.toNat,⟨rfl,rfl,rfl,0,.mk r m false [],[],.mk r m false [],σ0,rfl,Nat.zero_le _,?_,rfl,?_,?_,?_,?_,?_⟩,?_⟩
 ·rw[e0,I7];rfl
 ·rw[show(Af (.mk r m false [])).cnt=1 from by rw[Af,AO];simp[Vl.cnt,Az,Ay]];exact H0
 ·rw[e0];exact HF _ _ _
 ·rw[e0];exact HE _ _ _
 ·rw[e0];exact BY.2 ⟨DU _ _,by rw[NB];omega,by have:=E8 ⟨r,m,0⟩ false;rw[AQ]at this;omega⟩
 ·rw[e0,Nj,List.drop_zero];omega
 rintro n_1 _ _ _ st1 ⟨rfl,rfl,rfl,j,T,cur,u,σ,rfl,hj,hrun,hu,H,hN,hNe,hV,hsz⟩
 refine Ab (fun g=>?_) fun g=>?_
 ·have hlt:j<l.length:=by omega
  obtain⟨a,hja⟩:∃a,l[j]? =some a:=⟨_,List.getElem?_eq_getElem hlt⟩
  have hmem:=List.mem_of_getElem? hja
  have hwj:IntKind.wrap .i64 ((j:Int)+1)=((j+1:Nat):Int):=by rw[Aj _ (by omega) (by omega)];simp
  rw[hwj]
  refine⟨⟨by omega,by rw[hr.lenZ];omega⟩,?_⟩
  rw[Int.toNat_natCast]
  rw[RW hja]at hsz
  have hle:=Rb l (j+1)
  unfold asz at hsz
  rw[E4 hja]at hrun
  refine ldA hr ha hja fun kv ub' ul uf h1 h2 h3=>Aa h3 ?_
  have hstep:∀nu,DQ j (erT T) cur a=erX (D9 nu j T cur a):=fun nu=>step_er nu j T cur a
  refine RZ H hu hN hNe hV (hc a hmem) (by omega) h1 h2 (fun nu T' cur' u' σ' st' hs hcv hu' H' hN' hNe' hsz'=>?_) (fun nu e st' hs=>?_) fun nu T' cur' st' hs hcv=>?_
  ·refine Ab (fun h=>absurd rfl h) fun _=>?_
   refine⟨⟨rfl,rfl,rfl,j+1,T',cur',u',σ',rfl,hlt,?_,hu',H',hN',hNe',hcv,by omega⟩,by simp only[Int.toNat_natCast];omega⟩
   rw[hrun,IC,hstep nu,hs]
   simp only[erX]
   rw[KN,if_pos hcv]
  ·have he:=Se hs ⟨u,hu⟩ hNe
   refine Ab (fun _=>?_) fun h=>absurd (by omega) h
   have:=hk2 j e.toNat st' ?_ (by omega)
   ·have e2:((e.toNat:Nat):Int)=e:=by omega
    rw[e2]at this;exact this
   ·rw[hrun,IC,hstep nu,hs];rfl
  ·refine Ab (fun _=>?_) fun h=>absurd (by omega) h
   refine hk2 j (AP (Af T')) st' ?_ hcv
   rw[hrun,IC,hstep nu,hs]
   simp only[erX]
   rw[KN,if_neg hcv]
 ·have hjj:j=l.length:=by omega
  subst hjj
  rw[List.drop_length,IC]at hrun
  rw[List.drop_length,Ff]at hsz
  exact hk1 bb ub T cur u σ st1 hrun hu H hN hNe hV (by omega)
theorem M9 {l:List Asg} {v:TV} {xs:List TV} {st:St} {K:Int->Int->St->Prop} (hr:Rd 16 v l.length xs) (ha:Be l xs) (hz:Ff l<=900000) (hc:∀a,a∈l->a.keys.length+a.val.cnt<=100000)
  (hk1:∀T cur st',JE l= .ok (T,cur)->K 0 0 st') (hk2:∀(i e:Nat) st',JE l= .error (i,e)->e≠0->K i e st'):CallT PR C0 [v] [.one (.int .i64),.one (.int .i64)] st K:=
 Jt v st K (Re hr ha hz hc (fun bb ub T cur u σ st' h _ _ _ _ _ _=>hk1 _ _ st' h) hk2)
theorem R3 {l:List Asg} {v:TV} {xs:List TV} {st:St} {K:Int->Bool->Bool->B8->Int->Int->Int->Int->Int->B8->TV->TV->TV->Int->Int->St->Prop} (hr:Rd 16 v l.length xs) (ha:Be l xs) (hz:Ff l<=900000) (hc:∀a,a∈l->a.keys.length+a.val.cnt<=100000)
  (hk1:∀T cur ub ul uf st',JE l= .ok (T,cur)->AP (Af T)=0->(Af T).sz<=1+Ff l->VlR St.zero (Af T) (AA (Af T).sc ub ul uf)->List.all (AA (Af T).sc ub ul uf) Aq=true->
   K (Af T).sc.kind (Af T).sc.b (Af T).sc.neg (Af T).sc.dg (Af T).sc.ex (Af T).sc.tk (Af T).sc.td (Af T).sc.tn (Af T).sc.tz (Af T).sc.text ub ul uf 0 0 st')
  (hk2:∀(i e:Nat) st',JE l= .error (i,e)->e≠0->K 0 false false [] 0 0 0 0 0 [] .nilSlice .nilSlice .nilSlice i e st'):
  CallT PR D1 [v] [.agg [.int .i64,.bool,.bool,.str,.int .i64,.int .i64,.int .i64,.int .i64,.int .i64,.str,.tv,.tv,.tv],.one (.int .i64),.one (.int .i64)] st K:=by
 refine Ju v st K (Re hr ha hz hc (fun bb ub T cur u σ st' h hu H hN hNe hV hs=>?_) fun i e st' h he=>Ab (fun _=>hk2 i e st' h he) fun h0=>absurd (by omega) h0)
 refine Ab (fun h=>absurd rfl h) fun _=>Aa rfl (Aa rfl (Ad (x:= .box T.b 0) (by simp only[Ac,Au,H.cell];rfl) ?_))
 refine MW (Af T).cnt T 1 (Nat.le_refl _) (by have:=EM hV;omega) H.hp.sh hN H.hp.lt fun uf st2 hv ho e2=>?_
 refine Jl (v:=Af T) (by omega) (EM hV) (VlR.keep (Bg st2) hv) fun ub' ul' uf' st3 hv3 o1 o2 o3 _ _=>Aa (C7 o1 o2 o3) ?_
 have e1:Af (erT T)=Af T:=KN T
 have:=hk1 (erT T) cur ub' ul' uf' st3 h (by rw[e1];exact hV) (by rw[e1];exact hs) (by rw[e1];exact hv3) (by rw[e1];exact C7 o1 o2 o3)
 rw[e1]at this
 exact this
def scZ:Sc:=⟨0,false,false,[],0,0,0,0,0,[],[]⟩
theorem vl_leaf (st:St) (s:Sc) (h:s.bytes=[]):VlR st (.mk s [] []) (AA s .nilSlice .nilSlice .nilSlice):=by
 unfold VlR
 refine⟨_,_,_,[],[],rfl,?_,.of_rd (.inl ⟨rfl,rfl,rfl⟩),by unfold VsR;rfl,.of_rd (.inl ⟨rfl,rfl,rfl⟩),by unfold FsR;rfl⟩
 rw[h];exact .of_rd (.inl ⟨rfl,rfl,rfl⟩)
def Ko (c:UInt8):Vl:= .mk {scZ with kind:=2,dg:=[c]} [] []
def sv:Stp->StepV
 | .key k=>(false,k,0)
 | .idx i=>(true,[],(i:Int))
theorem zero13:VlR St.zero vlO [.int .i64 0,.bool false,.bool false,.str [],.int .i64 0,.int .i64 0,.int .i64 0,.int .i64 0,.int .i64 0,.str [],.nilSlice,.nilSlice,.nilSlice]:=by
 unfold vlO VlR
 refine⟨.nilSlice,.nilSlice,.nilSlice,[],[],rfl,.of_rd (.inl ⟨rfl,rfl,rfl⟩),.of_rd (.inl ⟨rfl,rfl,rfl⟩),by unfold VsR;rfl,.of_rd (.inl ⟨rfl,rfl,rfl⟩),by unfold FsR;rfl⟩
theorem TG {x y:Prop} (h:x):BIf true x y:=h
theorem BIf_f {x y:Prop} (h:y):BIf false x y:=h
theorem Ry:∀(N:Nat) (v:Vl),v.sz<=N->N<=2000000->∀{st0 st:St} {cs:List TV} {K:Int->Bool->Bool->B8->Int->Int->Int->Int->Int->B8->TV->TV->TV->St->Prop},VlR st0 v cs->A7 st0 st->
  (∀ub ul uf st',VlR St.zero v (AA v.sc ub ul uf)->Aq ub=true->Aq ul=true->Aq uf=true->Ah st st'->K v.sc.kind v.sc.b v.sc.neg v.sc.dg v.sc.ex v.sc.tk v.sc.td v.sc.tn v.sc.tz v.sc.text ub ul uf st')->
  CallT PR Bp [.agg cs] [.agg [.int .i64,.bool,.bool,.str,.int .i64,.int .i64,.int .i64,.int .i64,.int .i64,.str,.tv,.tv,.tv]] st K:=by
 intro N
 induction N with
 | zero=>intro v h;have:=v.sz_pos;omega
 | succ N ih=>
 intro v hN hN2 st0 st cs K h hke hk
 cases v with
 | mk s l f=>
 have hsz:=szs s l f
 have hll:=BJ l
 have hfl:=By f
 obtain⟨ub0,ul,uf,xl,xf,rfl,h1,h2,h3,h4,h5⟩:=h.cells
 refine Ha _ _ _ _ _ _ _ _ _ _ _ _ _ st K (Aa (C7 h1.one h2.one h4.one) (Ad ((h1.keep hke).src (by rw[FA];omega)) (Aa (RU _) ?_)))
 refine Hu (Ah.refl st) rfl (Own.full st.nt 1 st 0 []) (by omega) (fun h0=>by
  have:s.bytes=[]:=List.length_eq_zero_iff.1 h0
  rw[this];rfl) fun ub st0' e0 _ hob=>Aa (by simp[hob.rd.one]) ?_
 simp only[List.nil_append,Nat.zero_add]at hob
 have hkb:=hke.trans e0.keeps
 refine⟨fun i k1 b1 b2 s1 k2 k3 k4 k5 k6 s2 v1 v2 v3 k7 b3 b4 s3 k8 k9 k10 k11 k12 s4 v4 v5 v6 k13 b5 b6 s5 k14 k15 k16 k17 k18 s6 v7 v8 v9 st'=>
   ul=v2/\uf=v3/\s.kind=k13/\s.b=b5/\s.neg=b6/\s.dg=s5/\s.ex=k14/\s.tk=k15/\s.td=k16/\s.tn=k17/\s.tz=k18/\s.text=s6/\ub=v7/\TV.nilSlice=v9/\∃(k:Nat) (xs:List TV),i=k/\k<=l.length/\Ah st0' st'/\Own st0'.nt 13 st' v8 k xs/\VsR St.zero (l.take k) xs,
  fun i _ _ _ _ _ _ _ _ _ _ _ _ _ _ _ _ _ _ _ _ _ _ _ _ _ _ _ _ _ _ _ _ _ _ _ _ _ _ _ _=>(l.length-i).toNat,
  ⟨rfl,rfl,rfl,rfl,rfl,rfl,rfl,rfl,rfl,rfl,rfl,rfl,rfl,rfl,0,[],rfl,Nat.zero_le _,Ah.refl _,Own.nil _ _ _,by simp only[List.take_zero];unfold VsR;rfl⟩,?_⟩
 rintro _ k1 b1 b2 s1 k2 k3 k4 k5 k6 s2 v1 _ _ k7 b3 b4 s3 k8 k9 k10 k11 k12 s4 v4 v5 v6 _ _ _ _ _ _ _ _ _ _ _ v8 _ st1 ⟨rfl,rfl,rfl,rfl,rfl,rfl,rfl,rfl,rfl,rfl,rfl,rfl,rfl,rfl,k,xs,rfl,hkl,e1,ho,hv⟩
 have hke1:=hkb.trans e1.keeps
 refine Aa h2.isSl (Ab (fun g=>?_) fun g=>?_)
 ·rw[h2.lenS]at g
  refine JU hke1 h2 h3 rfl (by omega) fun s1 l1 f1 ub1 ul1 uf1 gw hw on=>?_
  have hwsz:=Cr gw
  refine ih (.mk s1 l1 f1) (by omega) (by omega) hw hke1 fun wb wl wf st2 hw2 o1 o2 o3 e2=>Aa (C7 o1 o2 o3) ?_
  refine Bj (e1.trans e2) rfl (ho.ext e2) (by omega) (fun h=>by cases h) fun v9 st3 e3 e3' ho3=>Aa (by simp[ho3.rd.one]) ?_
  rw[Aj _ (by omega) (by omega)]
  refine⟨⟨rfl,rfl,rfl,rfl,rfl,rfl,rfl,rfl,rfl,rfl,rfl,rfl,rfl,rfl,k+1,_,by omega,by omega,e3,ho3,?_⟩,by dsimp only;omega⟩
  rw[A0 gw]
  exact VsR.snoc hv hw2
 ·rw[h2.lenS]at g
  have hkk:k=l.length:=by omega
  subst hkk
  rw[List.take_length]at hv
  refine⟨fun i k1 b1 b2 s1 k2 k3 k4 k5 k6 s2 v1 v2 v3 k7 b3 b4 s3 k8 k9 k10 k11 k12 s4 v4 v5 v6 k13 b5 b6 s5 k14 k15 k16 k17 k18 s6 v7 w1 w2 st'=>
   uf=v3/\s.kind=k13/\s.b=b5/\s.neg=b6/\s.dg=s5/\s.ex=k14/\s.tk=k15/\s.td=k16/\s.tn=k17/\s.tz=k18/\s.text=s6/\ub=v7/\v8=w1/\∃(k:Nat) (ys:List TV),i=k/\k<=f.length/\Ah st1 st'/\Own st1.nt 14 st' w2 k ys/\FsR St.zero (f.take k) ys,
   fun i _ _ _ _ _ _ _ _ _ _ _ _ _ _ _ _ _ _ _ _ _ _ _ _ _ _ _ _ _ _ _ _ _ _ _ _ _ _ _ _=>(f.length-i).toNat,
   ⟨rfl,rfl,rfl,rfl,rfl,rfl,rfl,rfl,rfl,rfl,rfl,rfl,rfl,0,[],rfl,Nat.zero_le _,Ah.refl _,Own.nil _ _ _,by simp only[List.take_zero];unfold FsR;rfl⟩,?_⟩
  rintro _ k1 b1 b2 s1 k2 k3 k4 k5 k6 s2 v1 v2 _ k7 b3 b4 s3 k8 k9 k10 k11 k12 s4 v4 v5 v6 _ _ _ _ _ _ _ _ _ _ _ _ w8 st5 ⟨rfl,rfl,rfl,rfl,rfl,rfl,rfl,rfl,rfl,rfl,rfl,rfl,rfl,q,ys,rfl,hql,e5,ho5,hv5⟩
  have hke5:=hke1.trans e5.keeps
  refine Aa h4.isSl (Ab (fun g2=>?_) fun g2=>?_)
  ·rw[h4.lenS]at g2
   have gd:f[q]? =some f[q]:=List.getElem?_eq_getElem (by omega)
   generalize f[q]=d at gd
   refine Lk hke5 h4 h5 rfl gd ?_
   refine Mm hke5 h4 h5 rfl (by omega) fun key s1 l1 f1 ub1 ul1 uf1 gw hw on=>?_
   rw[gd]at gw
   have hde:=Option.some.inj gw
   subst hde
   have hsa:=Jf (Dp gd)
   have hzd:=szd key (.mk s1 l1 f1)
   refine ih (.mk s1 l1 f1) (by omega) (by omega) hw hke5 fun wb wl wf st6 hw2 o1 o2 o3 e6=>⟨Lj (hke5.trans e6.keeps) h4 h5 gd,Aa (QF o1 o2 o3) ?_⟩
   refine Bj (e5.trans e6) rfl (ho5.ext e6) (by omega) (fun h=>by cases h) fun v9 st7 e7 e7' ho7=>Aa (by simp[ho7.rd.one]) ?_
   rw[Aj _ (by omega) (by omega)]
   refine⟨⟨rfl,rfl,rfl,rfl,rfl,rfl,rfl,rfl,rfl,rfl,rfl,rfl,rfl,q+1,_,by omega,by omega,e7,ho7,?_⟩,by dsimp only;omega⟩
   rw[A0 gd]
   refine FsR.snoc hv5 ?_
   unfold FdR
   exact⟨_,rfl,hw2⟩
  ·rw[h4.lenS]at g2
   have hqq:q=f.length:=by omega
   subst hqq
   rw[List.take_length]at hv5
   refine Aa (C7 hob.rd.one ho.rd.one ho5.rd.one) (hk ub v8 w8 st5 ?_ hob.rd.one ho.rd.one ho5.rd.one ((e0.trans e1).trans e5))
   unfold VlR
   exact⟨ub,v8,w8,xs,ys,rfl,.of_rd hob.rd,.of_rd ho.rd,hv,.of_rd ho5.rd,hv5⟩
theorem Sd {i:Nat} {T T' u:Tb} {cur cur':List Hop} {a:Asg} (hu:atT T cur=some u) (hn:NdL (shT 1 T)) (hne:NeL (shT 1 T)) (hs:DQ i T cur a= .ok (T',cur')):
  (∃u',atT T' cur'=some u')/\NdL (shT 1 T')/\NeL (shT 1 T')/\(Af T').cnt<=(Af T).cnt+a.keys.length+2+a.val.cnt/\(Af T').sz<=(Af T).sz+kz a.keys+a.val.sz+2:=by
 unfold DQ D9 at hs
 split at hs
 ·cases hs
 rename_i hp
 split at hs
 ·cases hs
 rename_i T1 h hh
 have hks:a.keys≠ []:=fun e=>by
  have:D4 a=true:=by simpa using hp
  unfold D4 at this
  rw[e]at this;simp at this
 obtain⟨u0,hu0⟩:∃u0,atT T (if a.tab=true then []else cur)=some u0:=by
  split
  ·exact⟨T,by cases T;rfl⟩
  ·exact⟨u,hu⟩
 obtain⟨W,hne1⟩:=Hp _ 0 hu0 hne hh (Nat.le_refl _)
 obtain⟨F,_⟩:=Ho hne1 hs
 have w1:=W.cnt
 have w2:=W.sz
 have f1:=F.cnt
 have f2:=F.sz
 obtain⟨ks',kl,hkl⟩:∃ks' kl,a.keys=ks'++[kl]:=⟨a.keys.dropLast,a.keys.getLast hks,(List.dropLast_concat_getLast hks).symm⟩
 have hgl:a.keys.getLastD []=kl:=by rw[hkl];simp
 have hdl:a.keys.dropLast=ks':=by rw[hkl];simp
 have hkz:kz a.keys=kz ks'+(kl.length+1):=by rw[hkl,SP];simp[kz]
 have hlen:a.keys.length=ks'.length+1:=by rw[hkl];simp
 rw[hdl]at w1 w2
 rw[hgl]at f2
 refine⟨?_,F.nd (W.nd hn),F.ne hne1,by omega,?_⟩
 ·obtain⟨t,hA⟩:=W.at_
  unfold Dx at hs
  rw[hA]at hs
  simp only at hs
  split at hs
  ·rcases hl:Am (a.keys.getLastD []) t.es with _ | ⟨eb,w | l | ⟨v,j⟩⟩<;>rw[hl]at hs<;>simp only[Except.ok.injEq,Prod.mk.injEq,reduceCtorEq]at hs
   ·obtain⟨rfl,rfl⟩:=hs
    have:=I9 (k2:=a.keys.getLastD []) (eb:=n0.eb) (e:= .lst [AN n0 false]) hl
    rw[if_pos rfl]at this
    exact⟨_,JZ (DM h hA) this rfl⟩
   ·obtain⟨rfl,rfl⟩:=hs
    exact⟨AN n0 false,JZ (DM h hA) (JN hl) (by simp)⟩
  ·split at hs
   ·rcases hl:Am (a.keys.getLastD []) t.es with _ | ⟨eb,w | l | ⟨v,j⟩⟩<;>rw[hl]at hs<;>simp only[Except.ok.injEq,Prod.mk.injEq,reduceCtorEq]at hs
    ·obtain⟨rfl,rfl⟩:=hs
     exact⟨_,LI (nu:=n0) hA hl⟩
    ·split at hs
     ·cases hs
     ·simp only[Except.ok.injEq,Prod.mk.injEq]at hs
      obtain⟨rfl,rfl⟩:=hs
      exact⟨CQ w,NT (DM h hA) (JN hl)⟩
   ·rename_i ht
    rcases hl:Am (a.keys.getLastD []) t.es with _ | ⟨eb,e⟩<;>rw[hl]at hs<;>simp only[Except.ok.injEq,Prod.mk.injEq,reduceCtorEq]at hs
    obtain⟨rfl,rfl⟩:=hs
    rw[if_neg ht]at hh hu0
    have:=Lm (g:=cur) (r:=[]) (u:=u) _ 0 hu (by rw[List.append_nil];exact hu) hne (by rw[List.append_nil];exact hh)
    obtain⟨r,u1,rfl,hu1,_⟩:=this
    obtain⟨u',q1,_⟩:=Qr (x:=A8 t (a.keys.getLastD []) n0.eb (.clo a.val i)) hu1 hA rfl
    exact⟨u',q1⟩
 ·omega
theorem Kr {xs:List TV} {k n j:Nat} {cs:List TV} (h:(xs.drop k).take n=cs) {x:TV} (hx:cs[j]? =some x):xs[k+j]? =some x:=by
 rw[<-h,List.getElem?_take]at hx
 split at hx
 ·rwa [List.getElem?_drop]at hx
 ·cases hx
theorem Be.at_ {l:List Asg} {xs:List TV} {i:Nat} {a:Asg} (h:Be l xs) (hi:l[i]? =some a):∃kv vc,xs[i*16+2]? =some kv/\Rd 1 kv a.keys.length (a.keys.map TV.str)/\(xs.drop (i*16+3)).take 13=vc/\VlR St.zero a.val vc/\xs[i*16+0]? =some (.bool a.tab)/\xs[i*16+1]? =some (.bool a.elem):=by
 obtain⟨kv,vc,h1,h2,h3⟩:=h.get hi
 refine⟨kv,vc,Kr h1 rfl,h2,?_,h3,Kr h1 rfl,Kr h1 rfl⟩
 have:((xs.drop (i*16)).take 16).drop 3=vc:=by rw[h1];rfl
 rw[List.drop_take,List.drop_drop]at this
 exact this
theorem u8_nil:U8 []:=by unfold U8;rw[BX _ (by simp[ul])];rfl
theorem Rm {c:UInt8} (h:DA false [c] 0):AD (Ko c):=by
 unfold Ko AD
 exact⟨⟨⟨by simp,by simp,by simp[scZ],by simp,by simp[scZ],by simp[scZ],by simp[scZ],by simp,by simp⟩,h,by simp,u8_nil,by simp[scZ],by simp[scZ],rfl⟩,by unfold BW;trivial,by unfold BE;trivial⟩
theorem dec49:DA false [49] 0:=by decide
theorem sz_int (c:UInt8):(Ko c).sz=2:=by unfold Ko Vl.sz Bw Bu;simp[scZ]
theorem cnt_int (c:UInt8):(Ko c).cnt=1:=by unfold Ko Vl.cnt Az Ay;rfl
theorem Rh:DO []=0:=BX _ (by simp[ul])
theorem Ri {c:UInt8} {l:B8} (hc:c.toNat<128) (hl:DO l=l.length):DO (c::l)=(c::l).length:=by
 have h:=R8 (c::l) (by simp) hc
 rw[FQ _ (by omega),h.1]
 simp only[List.drop_succ_cons,List.drop_zero,List.length_cons];omega
theorem KF:∀l:B8,(l.all fun c=>decide (c.toNat<128))=true->DO l=l.length
 | [],_=>Rh
 | c::l,h=>by
  simp only[List.all_cons,Bool.and_eq_true,decide_eq_true_eq]at h
  exact Ri h.1 (KF l h.2)
theorem PB {i:Nat} {T T' u:Tb} {cur cur':List Hop} {a:Asg} (hu:atT T cur=some u) (hne:NeL (shT 1 T)) (hs:DQ i T cur a= .ok (T',cur')) (hv:AD (Af T)) (hk:∀k,k∈a.keys->U8 k/\k.length<=1024) (ha:a.elem=false->a.tab=false->AD a.val):AD (Af T'):=by
 unfold DQ D9 at hs
 split at hs
 ·cases hs
 rename_i hp
 split at hs
 ·cases hs
 rename_i T1 h hh
 have hks:a.keys≠ []:=fun e=>by
  have:D4 a=true:=by simpa using hp
  unfold D4 at this
  rw[e]at this;simp at this
 obtain⟨u0,hu0⟩:∃u0,atT T (if a.tab=true then []else cur)=some u0:=by
  split
  ·exact⟨T,by cases T;rfl⟩
  ·exact⟨u,hu⟩
 obtain⟨W,hne1⟩:=Hp _ 0 hu0 hne hh (Nat.le_refl _)
 obtain⟨F,_⟩:=Ho hne1 hs
 have hl:a.keys.getLastD []∈a.keys:=by
  rw[List.getLastD_eq_getLast?,List.getLast?_eq_some_getLast hks]
  exact List.getLast_mem hks
 exact F.va ⟨(hk _ hl).1,(hk _ hl).2,ha⟩ (W.va (fun k hk'=>hk k (List.dropLast_subset _ hk')) hv)
structure Mf (T:Tb) (cur:List Hop) (n:Nat):Prop where
 at_:∃u,atT T cur=some u
 nd:NdL (shT 1 T)
 ne:NeL (shT 1 T)
 va:AD (Af T)
 cnt:(Af T).cnt<=n
theorem Mf.ck {T:Tb} {cur:List Hop} {n:Nat} (h:Mf T cur n) (hn:n<=48):AP (Af T)=0:=
 BY.2 ⟨h.va,by have:=JM (Af T);have:=h.cnt;omega,by have:=h.cnt;omega⟩
theorem Mf.start:Mf T00 [] 1:=
 ⟨⟨T00,rfl⟩,HF 1 n0 false,HE 1 n0 false,DU n0 false,by have:=E8 n0 false;rw[AQ]at this;rw[show(Af T00).cnt=1 from this];omega⟩
theorem Mf.step {i n:Nat} {T T':Tb} {cur cur':List Hop} {a:Asg} (h:Mf T cur n) (hs:DQ i T cur a= .ok (T',cur')) (hk:∀k,k∈a.keys->U8 k/\k.length<=1024) (ha:a.elem=false->a.tab=false->AD a.val):Mf T' cur' (n+a.keys.length+2+a.val.cnt):=by
 obtain⟨u,hu⟩:=h.at_
 obtain⟨h1,h2,h3,h4,_⟩:=Sd hu h.nd h.ne hs
 exact⟨h1,h2,h3,PB hu h.ne hs h.va hk ha,by have:=h.cnt;omega⟩
theorem Px {c:UInt8} (h:c.toNat<128):U8 [c]/\[c].length<=1024:=⟨KF [c] (by simp[h]),by simp⟩
def aP (ks:List B8):Asg:=⟨false,false,ks,Ko 49⟩
def aT (ks:List B8):Asg:=⟨true,false,ks,vlO⟩
def aE (ks:List B8):Asg:=⟨true,true,ks,vlO⟩
theorem Pp {kv:TV} {ks:List B8} (h:Rd 1 kv ks.length (ks.map TV.str)):Qz (aP ks) [.bool false,.bool false,kv,.int .i64 2,.bool false,.bool false,.str [49],.int .i64 0,.int .i64 0,.int .i64 0,.int .i64 0,.int .i64 0,.str [],.nilSlice,.nilSlice,.nilSlice]:=
 ⟨kv,_,rfl,h,vl_leaf St.zero _ rfl⟩
theorem MY {kv:TV} {e:Bool} {ks:List B8} (h:Rd 1 kv ks.length (ks.map TV.str)):Qz ⟨true,e,ks,vlO⟩ [.bool true,.bool e,kv,.int .i64 0,.bool false,.bool false,.str [],.int .i64 0,.int .i64 0,.int .i64 0,.int .i64 0,.int .i64 0,.str [],.nilSlice,.nilSlice,.nilSlice]:=
 ⟨kv,_,rfl,h,zero13⟩
theorem Ck {a:Asg} {c:List TV} {r:List Asg} {d:List TV} (h:Qz a c) (k:Be r d):Be (a::r) (c++d):=by unfold Be;exact⟨c,d,rfl,h,k⟩
theorem C4:Be [] []:=by unfold Be;rfl
def kA:B8:=[97]
def kB:B8:=[98]
def kX:B8:=[120]
def kY:B8:=[121]
def kZ:B8:=[122]
def LZ (es:List Kn):Tb:= .mk 0 0 false es
theorem vP:AD (Ko 49):=Rm dec49
theorem RQ:(Ko 49).cnt=1:=cnt_int 49
theorem cntO:vlO.cnt=1:=by unfold vlO Vl.cnt Az Ay;rfl
def En.v1 (i:Nat):En:= .clo (Ko 49) i
def T1a:Tb:=LZ [.mk kA 0 (.opn (LZ [.mk kB 0 (.v1 0)]))]
def T2a:Tb:=LZ [.mk kA 0 (.opn (LZ [.mk kB 0 (.v1 0)])),.mk kX 0 (.opn (LZ [.mk kY 0 (.opn (.mk 0 0 true []))]))]
def T3a:Tb:=LZ [.mk kA 0 (.opn (LZ [.mk kB 0 (.v1 0)])),.mk kX 0 (.opn (LZ [.mk kY 0 (.opn (.mk 0 0 true [.mk kZ 0 (.v1 2)]))]))]
def T1b:Tb:=LZ [.mk kA 0 (.v1 0)]
theorem run_a:JE [aP [kA,kB],aT [kX,kY],aP [kZ]]= .ok (T3a,[(kX,none),(kY,none)]):=by
 have s1:DQ 0 T00 [] (aP [kA,kB])= .ok (T1a,[]):=rfl
 have s2:DQ 1 T1a [] (aT [kX,kY])= .ok (T2a,[(kX,none),(kY,none)]):=rfl
 have s3:DQ 2 T2a [(kX,none),(kY,none)] (aP [kZ])= .ok (T3a,[(kX,none),(kY,none)]):=rfl
 have hk:∀(ks:List B8),(∀k,k∈ks->k=kA∨k=kB∨k=kX∨k=kY∨k=kZ)->∀k,k∈ks->U8 k/\k.length<=1024:=fun ks h k hm=>by
  rcases h k hm with rfl | rfl | rfl | rfl | rfl<;>exact Px (by decide)
 have w1:=Mf.start.step s1 (hk _ (by simp[aP])) (fun _ _=>vP)
 have w2:=w1.step s2 (hk _ (by simp[aT])) (fun _ h=>by cases h)
 have w3:=w2.step s3 (hk _ (by simp[aP])) (fun _ _=>vP)
 have c1:=w1.ck (by simp[aP,RQ])
 have c2:=w2.ck (by simp[aP,aT,RQ,cntO])
 have c3:=w3.ck (by simp[aP,aT,RQ,cntO])
 unfold JE
 rw[IC,s1]
 simp only
 rw[if_pos c1,IC,s2]
 simp only
 rw[if_pos c2,IC,s3]
 simp only
 rw[if_pos c3,IC]
theorem run_b:JE [aP [kA],aP [kA,kB]]= .error (1,8):=by
 have s1:DQ 0 T00 [] (aP [kA])= .ok (T1b,[]):=rfl
 have s2:DQ 1 T1b [] (aP [kA,kB])= .error 8:=rfl
 have w1:=Mf.start.step s1 (fun k hm=>by rw[List.mem_singleton.1 hm];exact Px (by decide)) (fun _ _=>vP)
 have c1:=w1.ck (by simp[aP,RQ])
 unfold JE
 rw[IC,s1]
 simp only
 rw[if_pos c1,IC,s2]
 rfl
theorem run_c:JE [aP [kA],aE [kA]]= .error (1,6):=by
 have s1:DQ 0 T00 [] (aP [kA])= .ok (T1b,[]):=rfl
 have s2:DQ 1 T1b [] (aE [kA])= .error 6:=rfl
 have w1:=Mf.start.step s1 (fun k hm=>by rw[List.mem_singleton.1 hm];exact Px (by decide)) (fun _ _=>vP)
 have c1:=w1.ck (by simp[aP,RQ])
 unfold JE
 rw[IC,s1]
 simp only
 rw[if_pos c1,IC,s2]
 rfl
theorem Hk {kv:TV} {st:St} {K:Bool->Bool->TV->Int->Bool->Bool->B8->Int->Int->Int->Int->Int->B8->TV->TV->TV->St->Prop} (hk1:Aq kv=true) (hk:K false false kv 2 false false str5 0 0 0 0 0 [] .nilSlice .nilSlice .nilSlice st):
  CallT PR AR [kv] [.agg [.bool,.bool,.tv,.int .i64,.bool,.bool,.str,.int .i64,.int .i64,.int .i64,.int .i64,.int .i64,.str,.tv,.tv,.tv]] st K:=by
 refine GX kv st K (Gk st _ (Aa (by simp[hk1]) (Aa ?_ hk)))
 show(true&&(true&&(Aq kv&&true)))=true
 rw[hk1];rfl
theorem valT3a:∃F1:List Fd,Af T3a= .mk scM [] [.mk kA (.mk scM [] F1),.mk kX (.mk scM [] [.mk kY (.mk scM [] [.mk kZ (Ko 49)])])]:=by
 unfold T3a LZ En.v1
 simp only[Af,AO,AQ]
 exact⟨_,rfl⟩
theorem MX {st:St} {K:Bool->St->Prop} (hk:∀st',K true st'):CallT PR Bi [] [.one .bool] st K:=by
 have hb:∀(a:Asg),a=aP [kA,kB]∨a=aT [kX,kY]∨a=aP [kZ]∨a=aP [kA]∨a=aE [kA]->asz a<=20/\a.keys.length+a.val.cnt<=100000:=fun a ha=>by
  have h1:(Ko 49).sz=2:=sz_int 49
  have h2:vlO.sz=1:=by unfold vlO Vl.sz Bw Bu;simp[scO]
  rcases ha with rfl | rfl | rfl | rfl | rfl<;>simp[asz,aP,aT,aE,kz,kA,kB,kX,kY,kZ,h1,h2,RQ,cntO]
 have hA:Be [aP [kA,kB],aT [kX,kY],aP [kZ]] _:=Ck (Pp (kv:= .list 1 .full 2 [.str L0,.str str1]) (.inr ⟨_,rfl⟩)) (Ck (MY (e:=false) (ks:=[kX,kY]) (kv:= .list 1 .full 2 [.str str2,.str str3]) (.inr ⟨_,rfl⟩)) (Ck (Pp (ks:=[kZ]) (kv:= .list 1 .full 1 [.str str4]) (.inr ⟨_,rfl⟩)) C4))
 have hB:Be [aP [kA],aP [kA,kB]] _:=Ck (Pp (kv:= .list 1 .full 1 [.str L0]) (.inr ⟨_,rfl⟩)) (Ck (Pp (ks:=[kA,kB]) (kv:= .list 1 .full 2 [.str L0,.str str1]) (.inr ⟨_,rfl⟩)) C4)
 have hC:Be [aP [kA],aE [kA]] _:=Ck (Pp (kv:= .list 1 .full 1 [.str L0]) (.inr ⟨_,rfl⟩)) (Ck (MY (e:=true) (ks:=[kA]) (kv:= .list 1 .full 1 [.str L0]) (.inr ⟨_,rfl⟩)) C4)
 have z3:∀{a b c:Asg},asz a<=20->asz b<=20->asz c<=20->Ff [a,b,c]<=900000:=fun h1 h2 h3=>by simp only[Ff];omega
 have z2:∀{a b:Asg},asz a<=20->asz b<=20->Ff [a,b]<=900000:=fun h1 h2=>by simp only[Ff];omega
 have a1:=hb _ (.inl rfl)
 have a2:=hb _ (.inr (.inl rfl))
 have a3:=hb _ (.inr (.inr (.inl rfl)))
 have a4:=hb _ (.inr (.inr (.inr (.inl rfl))))
 have a5:=hb _ (.inr (.inr (.inr (.inr rfl))))
 refine GY st K (Hk rfl (Hk rfl ?_))
 refine R3 (l:=[aP [kA,kB],aT [kX,kY],aP [kZ]]) (.inr ⟨_,rfl⟩) hA (z3 a1.1 a2.1 a3.1) (fun a ha=>?_) (fun T cur ub ul uf st1 hrun _ _ hv on=>Aa on ?_) fun i e st1 hrun _=>by rw[run_a]at hrun;cases hrun
 ·simp only[List.mem_cons,List.not_mem_nil,or_false]at ha
  rcases ha with rfl | rfl | rfl
  ·exact a1.2
  ·exact a2.2
  ·exact a3.2
 rw[run_a]at hrun
 have hT:T=T3a:=by cases hrun;rfl
 subst hT
 refine Hk rfl (Hk rfl ?_)
 refine M9 (l:=[aP [kA],aP [kA,kB]]) (.inr ⟨_,rfl⟩) hB (z2 a4.1 a1.1) (fun a ha=>?_) (fun T cur st2 h2=>by rw[run_b]at h2;cases h2) fun i e st2 h2 _=>?_
 ·simp only[List.mem_cons,List.not_mem_nil,or_false]at ha
  rcases ha with rfl | rfl
  ·exact a4.2
  ·exact a1.2
 rw[run_b]at h2
 have h2':i=1/\e=8:=by cases h2;exact⟨rfl,rfl⟩
 obtain⟨rfl,rfl⟩:=h2'
 refine Hk rfl ?_
 refine M9 (l:=[aP [kA],aE [kA]]) (.inr ⟨_,rfl⟩) hC (z2 a4.1 a5.1) (fun a ha=>?_) (fun T cur st3 h3=>by rw[run_c]at h3;cases h3) fun i e st3 h3 _=>?_
 ·simp only[List.mem_cons,List.not_mem_nil,or_false]at ha
  rcases ha with rfl | rfl
  ·exact a4.2
  ·exact a5.2
 rw[run_c]at h3
 have h3':i=1/\e=6:=by cases h3;exact⟨rfl,rfl⟩
 obtain⟨rfl,rfl⟩:=h3'
 obtain⟨F1,hval⟩:=valT3a
 rw[hval]at hv
 obtain⟨_,_,_,xl,xf,hc,w1,w2,w3,w4,w5⟩:=VlR.cells hv
 replace hc:AA scM ub ul uf=AA scM _ _ _:=hc
 cases hc
 unfold FsR at w5
 obtain⟨c1,d1,rfl,f1,w5⟩:=w5
 unfold FsR at w5
 obtain⟨c2,d2,rfl,f2,w5⟩:=w5
 unfold FsR at w5
 subst w5
 unfold FdR at f1 f2
 obtain⟨v1,rfl,f1⟩:=f1
 obtain⟨v2,rfl,f2⟩:=f2
 obtain⟨p1,p2,p3,p4,p5,rfl,_⟩:=VlR.cells f1
 obtain⟨q1,q2,q3,q4,q5,rfl,g1,g2,g3,g4,g5⟩:=VlR.cells f2
 unfold FsR at g5
 obtain⟨c3,d3,rfl,f3,g5⟩:=g5
 unfold FsR at g5
 subst g5
 unfold FdR at f3
 obtain⟨v3,rfl,f3⟩:=f3
 obtain⟨r1,r2,r3,r4,r5,rfl,k1,k2,k3,k4,k5⟩:=VlR.cells f3
 rcases w4.zero with⟨_,h0,_⟩ | ⟨t1,rfl⟩
 ·simp at h0
 rcases g4.zero with⟨_,h0,_⟩ | ⟨t2,rfl⟩
 ·simp at h0
 have hkx:str2=kX:=rfl
 have l2:(0:Int)<=1/\(1:Int)<((2:Nat):Int):=⟨by decide,by decide⟩
 have l1:(0:Int)<=0/\(0:Int)<((1:Nat):Int):=⟨by decide,by decide⟩
 refine Ab (fun _=>Aa rfl ?_) fun h=>absurd rfl h
 refine Ab (fun _=>?_) fun h=>absurd rfl h
 refine⟨l2,Aa rfl (Ad (x:= .str kX) rfl (Dk ?_))⟩
 refine Ab (fun _=>?_) fun h=>absurd rfl h
 refine⟨l2,Aa rfl (Aa rfl (Ad (x:= .list 14 t2 1 _) rfl (Aa rfl ?_)))⟩
 refine Ab (fun _=>?_) fun h=>absurd rfl h
 refine⟨l2,Aa rfl (Aa rfl (Ad (x:= .list 14 t2 1 _) rfl ?_))⟩
 refine⟨l1,Aa rfl (Aa rfl (Ad (x:=r3) rfl (Aa k4.isSl ?_)))⟩
 rw[k4.lenS]
 refine Ab (fun _=>?_) fun h=>absurd rfl h
 refine Ab (fun _=>?_) fun h=>absurd rfl h
 refine Ab (fun _=>?_) fun h=>absurd rfl h
 refine Ab (fun _=>?_) fun h=>absurd rfl h
 exact hk st3
theorem one_of {w:Vl} {cs:List TV} (h:VlR St.zero w cs):List.all cs Aq=true:=by
 obtain⟨s,l,f⟩:=w
 obtain⟨ub,ul,uf,_,_,rfl,w1,w2,_,w4,_⟩:=VlR.cells h
 exact C7 w1.one w2.one w4.one
theorem Sf {w:Vl} {cs ds:List TV} {st:St} {K:Bool->St->Prop} (hz:w.sz<=2000000) (q1:VlR St.zero w cs) (q2:VlR St.zero w ds) (hK:K true st):CallT PR A6 [.agg cs,.agg ds] [.one .bool] st K:=
 Same_ok 2000000 w w hz hz (Nat.le_refl _) q1 q2 (Bg st) fun r hr=>by rw[hr.2 rfl];exact hK
section
def Jd (l:List Vl):Bool:= !l.isEmpty&&l.all fun x=>decide (x.sc.kind=7)
def BK (v:Vl):Bool:=Jd v.list
def Ap:List Fd->List Asg
 | []=>[]
 | .mk k v::r=>if v.sc.kind≠7/\BK v=false then⟨false,false,[k],v⟩::Ap r else Ap r
mutual
def AT (ks:List B8):List Fd->List Asg
 | []=>[]
 | d::r=>Sa ks d++AT ks r
def Sa (ks:List B8):Fd->List Asg
 | .mk k v=>IO (ks++[k]) v
def IO (ks:List B8):Vl->List Asg
 | .mk s l f=>if s.kind=7 then aT ks::(Ap f++AT ks f)else if Jd l=true then elL ks l else []
def elL (ks:List B8):List Vl->List Asg
 | []=>[]
 | x::r=>elV ks x++elL ks r
def elV (ks:List B8):Vl->List Asg
 | .mk s l f=>aE ks::(Ap f++AT ks f)
end
def CT (ks:List B8) (v:Vl):List Asg:=Ap v.flds++AT ks v.flds
theorem Og {ks:List B8} {v:Vl} (h:v.sc.kind=7):IO ks v=aT ks::CT ks v:=by
 obtain⟨s,l,f⟩:=v
 rw[IO,if_pos (show s.kind=7 from h)];rfl
theorem KQ {ks:List B8} {v:Vl} (h:v.sc.kind≠7) (hm:BK v=true):IO ks v=elL ks v.list:=by
 obtain⟨s,l,f⟩:=v
 rw[IO,if_neg (show ¬s.kind=7 from h),if_pos (show Jd l=true from hm)];rfl
theorem FT {ks:List B8} {v:Vl} (h:v.sc.kind≠7) (hm:BK v=false):IO ks v=[]:=by
 obtain⟨s,l,f⟩:=v
 rw[IO,if_neg (show ¬s.kind=7 from h),if_neg (by rw[show Jd l=false from hm];simp)]
theorem Tf (ks:List B8) (v:Vl):elV ks v=aE ks::CT ks v:=by obtain⟨s,l,f⟩:=v;rw[elV];rfl
theorem Gr:∀a b:List Fd,Ap (a++b)=Ap a++Ap b
 | [],b=>rfl
 | .mk k v::r,b=>by
  rw[List.cons_append,Ap,Ap,Gr r b]
  split<;>rfl
theorem IQ (ks:List B8):∀a b:List Fd,AT ks (a++b)=AT ks a++AT ks b
 | [],b=>by rw[AT];rfl
 | d::r,b=>by rw[List.cons_append,AT,AT,IQ ks r b,List.append_assoc]
theorem QZ (ks:List B8):∀a b:List Vl,elL ks (a++b)=elL ks a++elL ks b
 | [],b=>by rw[elL];rfl
 | d::r,b=>by rw[List.cons_append,elL,elL,QZ ks r b,List.append_assoc]
theorem J5 {f:List Fd} {k:Nat} {key:B8} {v:Vl} (h:f[k]? =some (.mk key v)):Ap (f.take (k+1))=Ap (f.take k)++if v.sc.kind≠7/\BK v=false then [⟨false,false,[key],v⟩]else []:=by
 rw[A0 h,Gr,Ap,Ap]
theorem Mo {ks:List B8} {f:List Fd} {k:Nat} {key:B8} {v:Vl} (h:f[k]? =some (.mk key v)):AT ks (f.take (k+1))=AT ks (f.take k)++IO (ks++[key]) v:=by
 rw[A0 h,IQ,AT,AT,Sa,List.append_nil]
theorem O5 {ks:List B8} {l:List Vl} {k:Nat} {v:Vl} (h:l[k]? =some v):elL ks (l.take (k+1))=elL ks (l.take k)++elV ks v:=by
 rw[A0 h,QZ,elL,elL,List.append_nil]
mutual
theorem DF (ks:List B8):∀f:List Fd,(Ap f).length+(AT ks f).length<=Ay f
 | []=>by rw[Ap,AT,Ay];simp
 | .mk k v::r=>by
  have h1:=DF ks r
  have h2:=OP (ks++[k]) v
  rw[Ap,AT,Sa,Ay,Fd.cnt,List.length_append]
  split
  ·rename_i h
   rw[FT h.1 h.2,List.length_cons]
   have:1<=v.cnt:=by cases v;unfold Vl.cnt;omega
   simp only[List.length_nil];omega
  ·omega
theorem OP (ks:List B8):∀v:Vl,(IO ks v).length<=v.cnt
 | .mk s l f=>by
  have h1:=DF ks f
  have h2:=NC ks l
  rw[IO,Vl.cnt]
  split
  ·rw[List.length_cons,List.length_append];omega
  ·split
   ·omega
   ·simp only[List.length_nil];omega
theorem NC (ks:List B8):∀l:List Vl,(elL ks l).length<=Az l
 | []=>by rw[elL,Az];simp
 | x::r=>by
  have h1:=NC ks r
  have h2:=QN ks x
  rw[elL,Az,List.length_append];omega
theorem QN (ks:List B8):∀v:Vl,(elV ks v).length<=v.cnt
 | .mk s l f=>by
  have h1:=DF ks f
  rw[elV,Vl.cnt,List.length_cons,List.length_append];omega
end
theorem Jb (ks:List B8) (v:Vl):(CT ks v).length+1<=v.cnt:=by
 obtain⟨s,l,f⟩:=v
 have:=DF ks f
 unfold CT
 rw[List.length_append,Vl.cnt]
 show(Ap f).length+(AT ks f).length+1<=_
 omega
theorem Rc {st0 st:St} {u:TV} {l:List Vl} {xl:List TV} {p:Vl->Bool} {fn:Nat} {K:Bool->St->Prop} (hke:A7 st0 st) (h2:SlR st0 13 u l.length xl) (h3:VsR st0 l xl) (hl:l.length<=2000000)
  (hf:∀w,w∈l->∀(cs:List TV) (K:Bool->St->Prop),VlR st0 w cs->K (p w) st->CallT PR fn [.agg cs] [.one .bool] st K) (hk:K (l.any p) st):
  CallT PR AC [u,.func fn []] [.one .bool] st K:=by
 refine Ca u _ st K (Cm u _ st _ (Aa h2.isSl ?_))
 rw[h2.lenS]
 refine⟨fun i a f n st'=>u=a/\TV.func fn []=f/\(l.length:Int)=n/\st=st'/\∃k:Nat,i=k/\k<=l.length/\(l.take k).any p=false,fun i _ _ _ _=>(l.length-i).toNat,⟨rfl,rfl,rfl,rfl,0,rfl,Nat.zero_le _,rfl⟩,?_⟩
 rintro _ _ _ _ _ ⟨rfl,rfl,rfl,rfl,k,rfl,hkl,ha⟩
 refine Ab (fun g=>?_) fun g=>?_
 ·refine JU hke h2 h3 rfl (by omega) fun s' l' f' ub1 ul1 uf1 gw hw on=>?_
  have hm:=List.mem_of_getElem? gw
  refine hf _ hm (AA s' ub1 ul1 uf1) _ hw (As (fun hb=>?_) fun hb=>?_)
  ·have:l.any p=true:=List.any_eq_true.2 ⟨_,hm,hb⟩
   rw[this]at hk
   show K (decide ((0:Int)<=(k:Int))) _
   rw[decide_eq_true (by omega)];exact hk
  ·rw[Aj _ (by omega) (by omega)]
   refine⟨⟨rfl,rfl,rfl,rfl,k+1,by omega,by omega,?_⟩,by dsimp only;omega⟩
   rw[A0 gw,List.any_append,ha,List.any_cons,hb];rfl
 ·have:k=l.length:=by omega
  subst this
  rw[List.take_length]at ha
  rw[ha]at hk
  exact hk
theorem anyF_ok {st0 st:St} {u:TV} {l:List Fd} {xl:List TV} {p:Fd->Bool} {fn:Nat} {K:Bool->St->Prop} (hke:A7 st0 st) (h2:SlR st0 14 u l.length xl) (h3:FsR st0 l xl) (hl:l.length<=2000000)
  (hf:∀w,w∈l->∀(cs:List TV) (K:Bool->St->Prop),FdR st0 w cs->K (p w) st->CallT PR fn [.agg cs] [.one .bool] st K) (hk:K (l.any p) st):
  CallT PR AL [u,.func fn []] [.one .bool] st K:=by
 refine Cb u _ st K (Cn u _ st _ (Aa h2.isSl ?_))
 rw[h2.lenS]
 refine⟨fun i a f n st'=>u=a/\TV.func fn []=f/\(l.length:Int)=n/\st=st'/\∃k:Nat,i=k/\k<=l.length/\(l.take k).any p=false,fun i _ _ _ _=>(l.length-i).toNat,⟨rfl,rfl,rfl,rfl,0,rfl,Nat.zero_le _,rfl⟩,?_⟩
 rintro _ _ _ _ _ ⟨rfl,rfl,rfl,rfl,k,rfl,hkl,ha⟩
 refine Ab (fun g=>?_) fun g=>?_
 ·refine O6 hke h2 h3 rfl (by omega) fun key s' l' f' ub1 ul1 uf1 gw hw on=>?_
  have hm:=List.mem_of_getElem? gw
  refine hf _ hm (.str key::AA s' ub1 ul1 uf1) _ (by unfold FdR;exact⟨_,rfl,hw⟩) (As (fun hb=>?_) fun hb=>?_)
  ·have:l.any p=true:=List.any_eq_true.2 ⟨_,hm,hb⟩
   rw[this]at hk
   show K (decide ((0:Int)<=(k:Int))) _
   rw[decide_eq_true (by omega)];exact hk
  ·rw[Aj _ (by omega) (by omega)]
   refine⟨⟨rfl,rfl,rfl,rfl,k+1,by omega,by omega,?_⟩,by dsimp only;omega⟩
   rw[A0 gw,List.any_append,ha,List.any_cons,hb];rfl
 ·have:k=l.length:=by omega
  subst this
  rw[List.take_length]at ha
  rw[ha]at hk
  exact hk
theorem Sv {v:Vl} (h:AD v) (hm:BK v=true):v.sc.kind=6:=by
 obtain⟨s,l,f⟩:=v
 unfold AD at h
 by_cases hk:s.kind=6
 ·exact hk
 ·have:=h.1.own.ls hk
  unfold BK Jd at hm
  rw[show(Vl.mk s l f).list=l from rfl,this]at hm
  simp at hm
theorem QJ {v:Vl} {cs:List TV} {st:St} {K:Bool->St->Prop} (h:VlR St.zero v cs) (hV:AD v) (hz:v.sz<=2000000) (hk:K (BK v) st):CallT PR Dm [.agg cs] [.one .bool] st K:=by
 have hol:=Sv hV
 obtain⟨s,l,f⟩:=v
 have hsz:=szs s l f
 have hll:=BJ l
 obtain⟨ub,ul,uf,xl,xf,rfl,h1,h2,h3,h4,h5⟩:=VlR.cells h
 refine Ki _ _ _ _ _ _ _ _ _ _ ub ul uf st K (Ab (fun g=>Aa h2.isSl ?_) fun g=>?_)
 ·rw[h2.lenS]
  refine Ab (fun g1=>?_) fun g1=>?_
  ·refine Rc (p:=fun x=> !(decide (x.sc.kind=7))) (Bg st) h2 h3 (by omega) (fun w _ cs K hw hK=>?_) ?_
   ·obtain⟨sw,lw,fw⟩:=w
    obtain⟨a,b,c,_,_,rfl,_⟩:=VlR.cells hw
    refine IH _ _ _ _ _ _ _ _ _ _ a b c st K ?_
    have:decide (sw.kind≠7)= !(decide ((Vl.mk sw lw fw).sc.kind=7)):=by
     show decide (sw.kind≠7)= !(decide (sw.kind=7))
     by_cases hq:sw.kind=7<;>simp[hq]
    rw[this];exact hK
   ·have:(!(l.any fun x=> !(decide (x.sc.kind=7))))=BK (.mk s l f):=by
     have hne:l.isEmpty=false:=by cases l with | nil=>simp at g1 | cons a b=>rfl
     show _=(!l.isEmpty&&l.all fun x=>decide (x.sc.kind=7))
     rw[hne,List.all_eq_not_any_not,Bool.not_false,Bool.true_and]
    show K (!(l.any _)) st
    rw[this];exact hk
  ·have:BK (.mk s l f)=false:=by
    have:l=[]:=List.eq_nil_of_length_eq_zero (by omega)
    subst this;rfl
   rw[this]at hk;exact hk
 ·have:BK (.mk s l f)=false:=by
   cases hq:BK (.mk s l f)with
   | false=>rfl
   | true=>exact absurd (hol hq) g
  rw[this]at hk;exact hk
theorem JX {kv:TV} {ks:List B8} {st:St} {K:TV->St->Prop} (h:Rd 1 kv ks.length (ks.map TV.str)) (hl:ks.length<=1000000) (hk:∀v st',Own st.nt 1 st' v ks.length (ks.map TV.str)->Ah st st'->K v st'):CallT PR AI [kv] [.one .tv] st K:=by
 refine DB kv st K (Aa h.isSl ?_)
 rcases h with⟨rfl,h1,h2⟩ | ⟨tip,rfl⟩
 ·refine TG (hk .nilSlice st ?_ (Ah.refl st))
  rw[h2,h1]
  exact Own.nil _ _ _
 ·refine BIf_f (Ad (x:=(ks.length,ks.map TV.str)) rfl (Aa ?_ ?_))
  ·rw[List.all_map,List.all_eq_true];intro x _;rfl
  ·refine Bj (Ah.refl st) rfl (Own.full _ _ _ 0 []) (by omega) (fun h0=>?_) fun v1 st1 e1 _ ho1=>?_
   ·have:ks=[]:=List.eq_nil_of_length_eq_zero h0
    rw[this];rfl
   ·rw[Nat.zero_add,List.nil_append]at ho1
    exact hk v1 st1 ho1 e1
theorem OT {kv:TV} {ks:List B8} {key:B8} {st st1:St} {K:TV->St->Prop} (e:Ah st st1) (h:Own st.nt 1 st1 kv ks.length (ks.map TV.str)) (hl:ks.length<=1000000) (hk:∀v st',Rd 1 v (ks++[key]).length ((ks++[key]).map TV.str)->Ah st st'->K v st'):Bl 9 1 16 kv 1 [.str key] st1 K:=by
 refine Bj e rfl h (by omega) (fun h0=>by cases h0) fun v1 st2 e2 _ ho2=>hk v1 st2 ?_ e2
 rw[List.length_append,List.map_append]
 exact ho2.rd
theorem Hx {s:Sc} {l:List Vl} {f:List Fd} (h:AD (.mk s l f)) {k:Nat} {key:B8} {v:Vl} (hg:f[k]? =some (.mk key v)):AD v:=by
 unfold AD at h
 have:∀g:List Fd,BE g->∀d,d∈g->Ep d:=by
  intro g
  induction g with
  | nil=>intro _ d hd;cases hd
  | cons x r ih=>
   intro hv d hd
   unfold BE at hv
   rcases List.mem_cons.1 hd with rfl | hd
   ·exact hv.1
   ·exact ih hv.2 d hd
 have:=this f h.2.2 _ (List.mem_of_getElem? hg)
 unfold Ep at this
 exact this
theorem Oa {s:Sc} {l:List Vl} {f:List Fd} (h:AD (.mk s l f)) {k:Nat} {v:Vl} (hg:l[k]? =some v):AD v:=by
 unfold AD at h
 exact Ii.1 h.2.1 v (List.mem_of_getElem? hg)
end
theorem K7 {b1 b2:Bool} {kv:TV} {cs:List TV} (h1:Aq kv=true) (h2:List.all cs Aq=true):List.all (.bool b1:: .bool b2::kv::cs) Aq=true:=by
 show(true&&(true&&(Aq kv&&List.all cs Aq)))=true
 rw[h1,h2];rfl
theorem K3 (k:B8) (v:Vl) (r:List Fd):(Ap (.mk k v::r)).length=(if v.sc.kind≠7/\BK v=false then 1 else 0)+(Ap r).length:=by
 rw[Ap]
 split
 ·rw[List.length_cons];omega
 ·omega
theorem RB (ks:List B8) (v:Vl):(if v.sc.kind≠7/\BK v=false then 1 else 0)+(IO ks v).length<=v.cnt:=by
 split
 ·rename_i h
  rw[FT h.1 h.2]
  have:1<=v.cnt:=by cases v;unfold Vl.cnt;omega
  simp only[List.length_nil];omega
 ·have:=OP ks v;omega
theorem Fh {ks:List B8}:∀{g:List Fd} {k:Nat} {key:B8} {v:Vl},g[k]? =some (.mk key v)->¬(v.sc.kind≠7/\BK v=false)->(Ap g).length+(AT ks (g.take k)).length+v.cnt<=Ay g
 | [],k,key,v,h,_=>by simp at h
 | x::r,0,key,v,h,hn=>by
  simp only[List.getElem?_cons_zero,Option.some.injEq]at h
  subst h
  have:=DF ks r
  rw[List.take_zero,AT,Ay,K3,if_neg hn,fcnt];simp only[List.length_nil];omega
 | .mk k0 v0::r,k+1,key,v,h,hn=>by
  have:=Fh (ks:=ks) (g:=r) (k:=k) (key:=key) (v:=v) (by simpa using h) hn
  have h8:=RB (ks++[k0]) v0
  rw[List.take_succ_cons,AT,List.length_append,Ay,K3,Sa,fcnt]
  omega
theorem Hr {ks:List B8}:∀{g:List Vl} {k:Nat} {d:Vl},g[k]? =some d->(elL ks (g.take k)).length+d.cnt<=Az g
 | [],k,d,h=>by simp at h
 | x::r,0,d,h=>by
  simp only[List.getElem?_cons_zero,Option.some.injEq]at h
  subst h
  rw[List.take_zero,elL,Az];simp only[List.length_nil];omega
 | x::r,k+1,d,h=>by
  have:=Hr (ks:=ks) (g:=r) (k:=k) (d:=d) (by simpa using h)
  rw[List.take_succ_cons,elL,List.length_append,Az]
  have h8:=QN ks x
  omega
theorem Iz {ks:List B8}:∀(g:List Vl) (k:Nat),(elL ks (g.take k)).length<=Az g:=fun g k=>by
 have h1:=NC ks (g.take k)
 have h2:=Dg g k
 omega
theorem P6:∀(N:Nat) (v:Vl),v.sz<=N->N<=2000000->∀{st0 st:St} {cs:List TV} {out:TV} {xs:List TV} {la:List Asg} {kv:TV} {ks:List B8} {K:TV->St->Prop},VlR St.zero v cs->AD v->v.cnt<=65536->Rd 1 kv ks.length (ks.map TV.str)->ks.length+lvV v<=1000->
  Ah st0 st->Own st0.nt 16 st out la.length xs->Be la xs->la.length+v.cnt<=200000->(∀out' xs' st',Ah st0 st'->Own st0.nt 16 st' out' (la++CT ks v).length xs'->Be (la++CT ks v) xs'->K out' st')->CallT PR BL [out,.agg cs,kv] [.one .tv] st K:=by
 intro N
 induction N with
 | zero=>intro v h;have:=v.sz_pos;omega
 | succ N ih=>
 intro v hN hN2 st0 st cs out xs la kv ks K h hV hC hr hd e0 ho ha hla hk
 obtain⟨s,l,f⟩:=v
 have hsz:=szs s l f
 have hct:=Rj s l f
 have hfl:=By f
 have hlv:lvV (.mk s l f)=1+max (CN l) (Cz f):=by rw[lvV]
 have h0:=h
 obtain⟨ub,ul,uf,xl,xf,rfl,h1,h2,h3,h4,h5⟩:=VlR.cells h
 have hlf:∀k,(Ap (f.take k)).length<=Ay f:=fun k=>by
  have h1:=DF ks f
  have h2:Ap f=Ap (f.take k)++Ap (f.drop k):=by rw[<-Gr,List.take_append_drop]
  rw[h2,List.length_append]at h1;omega
 have hlt2:∀k,(Ap f).length+(AT ks (f.take k)).length<=Ay f:=fun k=>by
  have h1:=DF ks f
  have h2:AT ks f=AT ks (f.take k)++AT ks (f.drop k):=by rw[<-IQ,List.take_append_drop]
  rw[h2,List.length_append]at h1;omega
 have lvf:∀{k:Nat} {key:B8} {w:Vl},f[k]? =some (.mk key w)->lvV w<=Cz f/\w.cnt<=Ay f:=fun {k key w} hg=>by
  have gen:∀(g:List Fd) (d:Fd),d∈g->lvD d<=Cz g/\d.cnt<=Ay g:=by
   intro g
   induction g with
   | nil=>intro d hd;cases hd
   | cons x r ih=>
    intro d hd
    rw[Cz,Ay]
    rcases List.mem_cons.1 hd with rfl | hd
    ·omega
    ·have:=ih d hd;omega
  have:=gen f _ (List.mem_of_getElem? hg)
  rw[lvD,Fd.cnt]at this
  exact this
 refine Ig out _ _ _ _ _ _ _ _ _ _ ub ul uf kv st K (Aa h4.isSl ?_)
 rw[h4.lenS]
 refine⟨fun o i k a n a0 a1 a2 a3 a4 a5 a6 a7 a8 a9 a10 a11 a12 st'=>kv=k/\uf=a/\(f.length:Int)=n/\uf=a12/\∃(j:Nat) (ys:List TV),i=j/\j<=f.length/\Ah st0 st'/\Own st0.nt 16 st' o (la++Ap (f.take j)).length ys/\Be (la++Ap (f.take j)) ys,
  fun _ i _ _ _ _ _ _ _ _ _ _ _ _ _ _ _ _ _=>(f.length-i).toNat,⟨rfl,rfl,rfl,rfl,0,xs,rfl,Nat.zero_le _,e0,by rw[List.take_zero,Ap,List.append_nil];exact ho,by rw[List.take_zero,Ap,List.append_nil];exact ha⟩,?_⟩
 rintro o _ _ _ _ _ _ _ _ _ _ _ _ _ _ _ _ _ st1 ⟨rfl,rfl,rfl,rfl,j,ys,rfl,hj,e1,ho1,ha1⟩
 refine Ab (fun g=>?_) fun g=>?_
 ·refine O6 (Bg st1) h4 h5 rfl (by omega) fun key s1 l1 f1 ub1 ul1 uf1 gw hw on=>Aa on ?_
  have on2:List.all (AA s1 ub1 ul1 uf1) Aq=true:=by have:=on;rw[List.all_cons,Bool.and_eq_true]at this;exact this.2
  have hwsz:=Cg gw
  rw[szd]at hwsz
  have hwv:=Hx hV gw
  obtain⟨hlw,hcw⟩:=lvf gw
  have htk:=J5 gw
  have hlj:=hlf (j+1)
  rw[Aj _ (by omega) (by omega)]
  refine Ab (fun g7=>QJ hw hwv (by omega) (As (fun hm=>?_) fun hm=>?_)) fun g7=>?_
  ·have hm:BK (.mk s1 l1 f1)=false:=by simpa using hm
   rw[if_pos ⟨g7,hm⟩]at htk
   refine Jl (v:= .mk s1 l1 f1) (by omega) (by omega) (VlR.keep (Bg st1) hw) fun ub2 ul2 uf2 st2 hv2 o1 o2 o3 e2 _=>?_
   refine Aa (K7 rfl (C7 o1 o2 o3)) ?_
   rw[htk,List.length_append]at hlj
   refine Bj (e1.trans e2) rfl (ho1.ext e2) (by rw[List.length_append];simp only[List.length_singleton]at hlj;omega) (fun h=>by cases h) fun v9 st3 e3 _ ho3=>?_
   have hl3:(la++Ap (f.take j)).length+1=(la++Ap (f.take (j+1))).length:=by rw[htk,<-List.append_assoc];simp only[List.length_append,List.length_singleton]
   rw[hl3]at ho3
   have ha3:=Be.app ha1 (Ck (a:=⟨false,false,[key],.mk s1 l1 f1⟩) ⟨.list 1 .full 1 [.str key],_,rfl,.inr ⟨_,rfl⟩,hv2⟩ C4)
   rw[List.append_assoc,<-htk]at ha3
   exact⟨⟨rfl,rfl,rfl,rfl,j+1,_,by omega,by omega,e3,ho3,ha3⟩,by dsimp only;omega⟩
  ·have hm:BK (.mk s1 l1 f1)=true:=by simpa using hm
   rw[if_neg (fun h=>by rw[hm]at h;cases h.2),List.append_nil]at htk
   refine⟨⟨rfl,rfl,rfl,rfl,j+1,ys,by omega,by omega,e1,by rw[htk];exact ho1,by rw[htk];exact ha1⟩,by dsimp only;omega⟩
  ·have g7:s1.kind=7:=Decidable.not_not.1 g7
   rw[if_neg (fun h=>h.1 g7),List.append_nil]at htk
   refine⟨⟨rfl,rfl,rfl,rfl,j+1,ys,by omega,by omega,e1,by rw[htk];exact ho1,by rw[htk];exact ha1⟩,by dsimp only;omega⟩
 ·have hjj:j=f.length:=by omega
  subst hjj
  rw[List.take_length]at ho1 ha1
  refine Aa h4.isSl ?_
  rw[h4.lenS]
  refine⟨fun o i k a n st'=>kv=k/\uf=a/\(f.length:Int)=n/\∃(j:Nat) (ys:List TV),i=j/\j<=f.length/\Ah st0 st'/\Own st0.nt 16 st' o (la++Ap f++AT ks (f.take j)).length ys/\Be (la++Ap f++AT ks (f.take j)) ys,
   fun _ i _ _ _ _=>(f.length-i).toNat,⟨rfl,rfl,rfl,0,ys,rfl,Nat.zero_le _,e1,by rw[List.take_zero,AT,List.append_nil];exact ho1,by rw[List.take_zero,AT,List.append_nil];exact ha1⟩,?_⟩
  rintro o2 _ _ _ _ st5 ⟨rfl,rfl,rfl,j,zs,rfl,hj,e5,ho5,ha5⟩
  refine Ab (fun g=>?_) fun g=>?_
  ·refine O6 (Bg st5) h4 h5 rfl (by omega) fun key s1 l1 f1 ub1 ul1 uf1 gw hw on=>Aa on ?_
   have hwsz:=Cg gw
   rw[szd]at hwsz
   have hwv:=Hx hV gw
   obtain⟨hlw,hcw⟩:=lvf gw
   have htk:=Mo (ks:=ks) gw
   have hlj:=hlt2 j
   have hlj1:=hlt2 (j+1)
   rw[Aj _ (by omega) (by omega)]
   refine JX hr (by omega) fun v14 st6 ho6 e6=>OT (key:=key) e6 ho6 (by omega) fun v15 st7 hr7 e7=>?_
   have hlen1:(ks++[key]).length=ks.length+1:=by simp
   have e57:=e5.trans e7
   have hoo:(la++Ap f++AT ks (f.take j)).length<=200000:=by rw[List.length_append,List.length_append];omega
   refine Ab (fun g7=>?_) fun g7=>?_
   ·have tv:=Og (ks:=ks++[key]) (v:= .mk s1 l1 f1) g7
    refine JX hr7 (by omega) fun v16 st8 ho8 e8=>Aa (by simp[ho8.rd.one]) (Aa (K7 ho8.rd.one rfl) ?_)
    refine Bj (e57.trans e8) rfl (ho5.ext (e7.trans e8)) (by omega) (fun h=>by cases h) fun v17 st9 e9 _ ho9=>?_
    have ha9:=Be.app ha5 (Ck (MY (e:=false) (ks:=ks++[key]) (kv:=v16) ho8.rd) C4)
    have hl9:(la++Ap f++AT ks (f.take j)++[(⟨true,false,ks++[key],vlO⟩:Asg)]).length=(la++Ap f++AT ks (f.take j)).length+1:=by rw[List.length_append];rfl
    have hfin:la++Ap f++AT ks (f.take j)++[(⟨true,false,ks++[key],vlO⟩:Asg)]++CT (ks++[key]) (.mk s1 l1 f1)=la++Ap f++AT ks (f.take (j+1)):=by
     rw[htk,tv];simp[aT]
    refine ih (.mk s1 l1 f1) (by omega) (by omega) hw hwv (by omega) hr7 (by omega) e9 (by rw[hl9];exact ho9) ha9 ?_ fun out' xs' st10 e10 ho10 ha10=>?_
    ·rw[hl9]
     have:=Jb (ks++[key]) (.mk s1 l1 f1)
     rw[List.length_append,List.length_append]
     have h6:=Fh (ks:=ks) gw (fun h=>h.1 g7)
     omega
    ·rw[hfin]at ho10 ha10
     exact⟨⟨rfl,rfl,rfl,j+1,xs',by omega,by omega,e10,ho10,ha10⟩,by dsimp only;omega⟩
   ·refine QJ hw hwv (by omega) (As (fun hm=>?_) fun hm=>?_)
    ·have tv:=KQ (ks:=ks++[key]) (v:= .mk s1 l1 f1) g7 hm
     obtain⟨_,_,_,xl1,xf1,hc1,z1,z2,z3,z4,z5⟩:=VlR.cells hw
     cases hc1
     have hcw1:=Rj s1 l1 f1
     have hzw1:=szs s1 l1 f1
     have hll1:=BJ l1
     have hgen:=Fh (ks:=ks) gw (fun h=>by rw[hm]at h;cases h.2)
     refine Aa z2.isSl ?_
     rw[z2.lenS]
     refine⟨fun o i k al a n n' b n'' st'=>kv=k/\v15=al/\uf=a/\(f.length:Int)=n/\(j:Int)=n'/\ul1=b/\(l1.length:Int)=n''/\∃(m:Nat) (ys:List TV),i=m/\m<=l1.length/\Ah st0 st'/\Own st0.nt 16 st' o (la++Ap f++AT ks (f.take j)++elL (ks++[key]) (l1.take m)).length ys/\Be (la++Ap f++AT ks (f.take j)++elL (ks++[key]) (l1.take m)) ys,
      fun _ i _ _ _ _ _ _ _ _=>(l1.length-i).toNat,⟨rfl,rfl,rfl,rfl,rfl,rfl,rfl,0,zs,rfl,Nat.zero_le _,e57,by rw[List.take_zero,elL,List.append_nil];exact ho5.ext e7,by rw[List.take_zero,elL,List.append_nil];exact ha5⟩,?_⟩
     rintro o3 _ _ _ _ _ _ _ _ st12 ⟨rfl,rfl,rfl,rfl,rfl,rfl,rfl,m,ws,rfl,hm2,e12,ho12,ha12⟩
     have hem:=Iz (ks:=ks++[key]) l1 m
     refine Ab (fun g3=>?_) fun g3=>?_
     ·refine JU (Bg st12) z2 z3 rfl (by omega) fun s3 l3 f3 ub3 ul3 uf3 gx hx on3=>Aa on3 ?_
      have hxsz:=Cr gx
      have hxv:=Oa hwv gx
      have hetk:=O5 (ks:=ks++[key]) gx
      have hvx:=Tf (ks++[key]) (.mk s3 l3 f3)
      have hem1:=Hr (ks:=ks++[key]) gx
      have hlvx:lvV (.mk s3 l3 f3)<=CN l1:=QM.1 (Nat.le_refl _) _ (List.mem_of_getElem? gx)
      have hlvw:lvV (.mk s1 l1 f1)=1+max (CN l1) (Cz f1):=by rw[lvV]
      have hcx:(.mk s3 l3 f3:Vl).cnt<=Az l1:=by omega
      have hoo3:(la++Ap f++AT ks (f.take j)++elL (ks++[key]) (l1.take m)).length=la.length+(Ap f).length+(AT ks (f.take j)).length+(elL (ks++[key]) (l1.take m)).length:=by simp only[List.length_append]
      rw[Aj _ (by omega) (by omega)]
      refine JX hr7 (by omega) fun v22 st13 ho13 e13=>Aa (by simp[ho13.rd.one]) (Aa (K7 ho13.rd.one rfl) ?_)
      refine Bj (e12.trans e13) rfl (ho12.ext e13) (by omega) (fun h=>by cases h) fun v23 st14 e14 _ ho14=>?_
      have ha14:=Be.app ha12 (Ck (MY (e:=true) (ks:=ks++[key]) (kv:=v22) ho13.rd) C4)
      have hl14:(la++Ap f++AT ks (f.take j)++elL (ks++[key]) (l1.take m)++[(⟨true,true,ks++[key],vlO⟩:Asg)]).length=(la++Ap f++AT ks (f.take j)++elL (ks++[key]) (l1.take m)).length+1:=by rw[List.length_append];rfl
      have hfin:la++Ap f++AT ks (f.take j)++elL (ks++[key]) (l1.take m)++[(⟨true,true,ks++[key],vlO⟩:Asg)]++CT (ks++[key]) (.mk s3 l3 f3)=la++Ap f++AT ks (f.take j)++elL (ks++[key]) (l1.take (m+1)):=by
       rw[hetk,hvx];simp[aE]
      refine ih (.mk s3 l3 f3) (by omega) (by omega) hx hxv (by omega) hr7 (by omega) e14 (by rw[hl14];exact ho14) ha14 (by rw[hl14,hoo3];omega) fun out' xs' st15 e15 ho15 ha15=>?_
      rw[hfin]at ho15 ha15
      exact⟨⟨rfl,rfl,rfl,rfl,rfl,rfl,rfl,m+1,xs',by omega,by omega,e15,ho15,ha15⟩,by dsimp only;omega⟩
     ·have hmm:m=l1.length:=by omega
      subst hmm
      rw[List.take_length]at ho12 ha12
      have hfin:la++Ap f++AT ks (f.take j)++elL (ks++[key]) l1=la++Ap f++AT ks (f.take (j+1)):=by
       rw[htk,tv];simp[Vl.list]
      rw[hfin]at ho12 ha12
      rw[Aj _ (by omega) (by omega)]
      exact⟨⟨rfl,rfl,rfl,j+1,ws,by omega,by omega,e12,ho12,ha12⟩,by dsimp only;omega⟩
    ·have tv:=FT (ks:=ks++[key]) (v:= .mk s1 l1 f1) g7 hm
     rw[tv,List.append_nil]at htk
     refine⟨⟨rfl,rfl,rfl,j+1,zs,by omega,by omega,e57,?_,?_⟩,by dsimp only;omega⟩
     ·rw[htk];exact ho5.ext e7
     ·rw[htk];exact ha5
  ·have hjj:j=f.length:=by omega
   subst hjj
   rw[List.take_length]at ho5 ha5
   have:la++Ap f++AT ks f=la++CT ks (.mk s l f):=by rw[List.append_assoc];rfl
   rw[this]at ho5 ha5
   exact hk o2 zs st5 e5 ho5 ha5
section
mutual
def DX:Vl->Bool
 | .mk s l f=>decide (s.kind=0) || (decide (s.kind=5) || (Gw l || Gx f))
def Gw:List Vl->Bool
 | []=>false
 | v::r=>DX v || Gw r
def Ld:Fd->Bool
 | .mk k v=>DX v
def Gx:List Fd->Bool
 | []=>false
 | d::r=>Ld d || Gx r
end
theorem Gv:∀l:List Vl,Gw l=l.any DX
 | []=>by rw[Gw];rfl
 | v::r=>by rw[Gw,Gv r];rfl
theorem Lc:∀l:List Fd,Gx l=l.any Ld
 | []=>by rw[Gx];rfl
 | v::r=>by rw[Gx,Lc r];rfl
theorem Lb:∀l:List Fd,Gx l=Gw (l.map Fd.val)
 | []=>by rw[Gx,List.map_nil,Gw]
 | .mk k v::r=>by rw[Gx,Lb r,List.map_cons,Gw,Ld];rfl
theorem SI:∀(N:Nat) (v:Vl),v.sz<=N->N<=2000000->∀{st:St} {cs:List TV} {K:Bool->St->Prop},VlR St.zero v cs->K (DX v) st->CallT PR Ch [.agg cs] [.one .bool] st K:=by
 intro N
 induction N with
 | zero=>intro v h;have:=v.sz_pos;omega
 | succ N ih=>
 intro v hN hN2 st cs K h hk
 obtain⟨s,l,f⟩:=v
 have hsz:=szs s l f
 have hll:=BJ l
 have hfl:=By f
 obtain⟨ub,ul,uf,xl,xf,rfl,h1,h2,h3,h4,h5⟩:=VlR.cells h
 rw[DX]at hk
 refine Js _ _ _ _ _ _ _ _ _ _ ub ul uf st K (Ab (fun g=>?_) fun g=>Ab (fun g2=>?_) fun g2=>?_)
 ·rw[decide_eq_true g]at hk;exact hk
 ·rw[decide_eq_true g2]at hk;simpa using hk
 rw[decide_eq_false g,decide_eq_false g2,Bool.false_or,Bool.false_or,Gv,Lc]at hk
 refine Rc (p:=DX) (Bg st) h2 h3 (by omega) (fun w hw cs K hwr hK=>ih w (by have:=N7 hw;omega) (by omega) hwr hK) (As (fun hb=>?_) fun hb=>?_)
 ·rw[hb]at hk;exact hk
 ·rw[hb,Bool.false_or]at hk
  refine anyF_ok (p:=Ld) (Bg st) h4 h5 (by omega) (fun w hw cs K hwr hK=>?_) hk
  obtain⟨key,v⟩:=w
  have hz:=Jf hw
  rw[szd]at hz
  unfold FdR at hwr
  obtain⟨c,rfl,hc⟩:=hwr
  have hc0:=hc
  obtain⟨sv,lv,fv⟩:=v
  obtain⟨a,b,d,_,_,rfl,_⟩:=VlR.cells hc
  refine If key _ _ _ _ _ _ _ _ _ _ a b d st K (ih (.mk sv lv fv) (by omega) (by omega) hc0 ?_)
  rw[Ld]at hK;exact hK
theorem Rx:∀(N:Nat) (v:Vl),v.sz<=N->N<=2000000->∀{st0 st:St} {cs:List TV} {K:Bool->St->Prop},VlR st0 v cs->A7 st0 st->AD v->(∀st',Ah st st'->K (DX v) st')->CallT PR BP [.agg cs] [.one .bool] st K:=by
 intro N
 induction N with
 | zero=>intro v h;have:=v.sz_pos;omega
 | succ N ih=>
 intro v hN hN2 st0 st cs K h hke hV hk
 obtain⟨s,l,f⟩:=v
 have hsz:=szs s l f
 have hll:=BJ l
 have hfl:=By f
 have hV0:=hV
 unfold AD at hV
 have ho:=hV.1.own
 obtain⟨ub,ul,uf,xl,xf,rfl,h1,h2,h3,h4,h5⟩:=VlR.cells h
 have hlos:DX (.mk s l f)=(decide (s.kind=0) || (decide (s.kind=5) || (B9 s l f).any DX)):=by
  rw[DX]
  congr 2
  unfold B9
  split
  ·rename_i g
   rw[ho.ls (by omega),Gw,Bool.false_or,Lb,Gv]
  ·rename_i g
   rw[ho.fs g,Gx,Bool.or_false,Gv]
 rw[hlos]at hk
 refine GO _ _ _ _ _ _ _ _ _ _ ub ul uf st K (QP (s:=s) (l:=l) (f:=f) (by omega) h hke fun u xk st1 e1 q2 q3=>?_)
 have hkl:(B9 s l f).length<=(Vl.mk s l f).sz:=OR
 refine⟨fun i k a0 a1 a2 a3 a4 a5 a6 a7 a8 a9 a10 a11 a12 st'=>u=k/\s.kind=a0/\Ah st1 st'/\∃j:Nat,i=j/\j<=(B9 s l f).length/\((B9 s l f).take j).any DX=false,fun i _ _ _ _ _ _ _ _ _ _ _ _ _ _ _=>((B9 s l f).length-i).toNat,⟨rfl,rfl,Ah.refl st1,0,rfl,Nat.zero_le _,rfl⟩,?_⟩
 rintro _ _ _ _ _ _ _ _ _ _ _ _ _ _ _ st2 ⟨rfl,rfl,e2,j,rfl,hj,hany⟩
 refine Aa q2.isSl ?_
 rw[q2.lenS]
 refine Ab (fun g=>?_) fun g=>?_
 ·refine JU e2.keeps q2 q3 rfl (by omega) fun s1 l1 f1 ub1 ul1 uf1 gw hw on=>?_
  have hws:=QO gw
  have hwv:=Rl hV0 gw
  refine ih _ (by omega) (by omega) hw e2.keeps hwv fun st3 e3=>As (fun hb=>?_) fun hb=>?_
  ·have:(B9 s l f).any DX=true:=List.any_eq_true.2 ⟨_,List.mem_of_getElem? gw,hb⟩
   rw[this]at hk
   simpa using hk st3 ((e1.trans e2).trans e3)
  ·rw[Aj _ (by omega) (by omega)]
   refine⟨⟨rfl,rfl,e2.trans e3,j+1,by omega,by omega,?_⟩,by dsimp only;omega⟩
   rw[A0 gw,List.any_append,hany,List.any_cons,hb];rfl
 ·have hjj:j=(B9 s l f).length:=by omega
  rw[hjj,List.take_length]at hany
  rw[hany,Bool.or_false]at hk
  have hk2:=hk st2 (e1.trans e2)
  refine Ab (fun g0=>?_) fun g0=>?_
  ·rw[decide_eq_true g0]at hk2;exact hk2
  ·rw[decide_eq_false g0,Bool.false_or]at hk2;exact hk2
noncomputable def Rf (v:Vl):Nat:=if AP v≠0 then AP v else if v.sc.kind≠7 then 27 else if DX v=true then 27 else 0
theorem Able_ok {v:Vl} {cs:List TV} {st:St} {K:Int->St->Prop} (h:VlR St.zero v cs) (hz:v.sz<=2000000) (hk:∀st',Ah st st'->K (Rf v:Nat) st'):CallT PR Dn [.agg cs] [.one (.int .i64)] st K:=by
 have h0:=h
 obtain⟨s,l,f⟩:=v
 obtain⟨ub,ul,uf,_,_,rfl,_⟩:=VlR.cells h
 unfold Rf at hk
 refine Kj _ _ _ _ _ _ _ _ _ _ ub ul uf st K (Jq (v:= .mk s l f) hz h0 (Bg st) fun st1 e1=>Ab (fun g=>?_) fun g=>?_)
 ·have:=hk st1 e1
  rw[if_pos (fun e=>g (by rw[e];rfl))]at this;exact this
 have g:AP (.mk s l f)=0:=by omega
 rw[if_neg (by rw[g];simp)]at hk
 refine Ab (fun g7=>?_) fun g7=>?_
 ·have:=hk st1 e1
  rw[if_pos (show(Vl.mk s l f).sc.kind≠7 from g7)]at this;exact this
 ·rw[if_neg (show ¬(Vl.mk s l f).sc.kind≠7 from g7)]at hk
  refine SI 2000000 (.mk s l f) hz (Nat.le_refl _) h0 (As (fun hb=>?_) fun hb=>?_)
  ·have:=hk st1 e1;rw[if_pos hb]at this;exact this
  ·have:=hk st1 e1;rw[if_neg (by rw[hb];simp)]at this;exact this
theorem Sq {v:Vl} {cs:List TV} {st:St} {K:Int->St->Prop} (h:VlR St.zero v cs) (hz:v.sz<=2000000) (hk:∀st',Ah st st'->K (Rf v:Nat) st'):CallT PR B2 [.agg cs] [.one (.int .i64)] st K:=by
 have h0:=h
 obtain⟨s,l,f⟩:=v
 obtain⟨ub,ul,uf,_,_,rfl,_⟩:=VlR.cells h
 unfold Rf at hk
 refine G4 _ _ _ _ _ _ _ _ _ _ ub ul uf st K (Mu (v:= .mk s l f) hz h0 (Bg st) fun st1 e1=>Ab (fun g=>?_) fun g=>?_)
 ·have:=hk st1 e1
  rw[if_pos (fun e=>g (by rw[e];rfl))]at this;exact this
 have g:AP (.mk s l f)=0:=by omega
 rw[if_neg (by rw[g];simp)]at hk
 refine Ab (fun g7=>?_) fun g7=>?_
 ·have:=hk st1 e1
  rw[if_pos (show(Vl.mk s l f).sc.kind≠7 from g7)]at this;exact this
 ·rw[if_neg (show ¬(Vl.mk s l f).sc.kind≠7 from g7)]at hk
  refine Rx 2000000 (.mk s l f) hz (Nat.le_refl _) h0 (Bg st1) (Eh g) fun st2 e2=>As (fun hb=>?_) fun hb=>?_
  ·have:=hk st2 (e1.trans e2);rw[if_pos hb]at this;exact this
  ·have:=hk st2 (e1.trans e2);rw[if_neg (by rw[hb];simp)]at this;exact this
noncomputable def Ee (v:Vl):Nat:=if AP v≠0 then AP v else if v.sc.kind≠7 then 6 else 0
theorem Qx {v:Vl} {cs:List TV} {st:St} {K:TV->Int->St->Prop} (h:VlR St.zero v cs) (hz:v.sz<=2000000)
  (hk1:∀out xs st',Ee v=0->Rd 16 out (CT [] v).length xs->Be (CT [] v) xs->Ah st st'->K out 0 st') (hk2:∀st',Ee v≠0->Ah st st'->K .nilSlice (Ee v:Nat) st'):
  CallT PR Dq [.agg cs] [.one .tv,.one (.int .i64)] st K:=by
 have h0:=h
 obtain⟨s,l,f⟩:=v
 obtain⟨ub,ul,uf,_,_,rfl,_⟩:=VlR.cells h
 unfold Ee at hk1 hk2
 refine Ih _ _ _ _ _ _ _ _ _ _ ub ul uf st K (Jq (v:= .mk s l f) hz h0 (Bg st) fun st1 e1=>Ab (fun g=>?_) fun g=>?_)
 ·have hne:AP (.mk s l f)≠0:=fun e=>g (by rw[e];rfl)
  have:=hk2 st1 (by rw[if_pos hne];exact hne) e1
  rw[if_pos hne]at this;exact this
 have g:AP (.mk s l f)=0:=by omega
 rw[if_neg (by rw[g];simp)]at hk1 hk2
 refine Ab (fun g7=>?_) fun g7=>?_
 ·have:=hk2 st1 (by rw[if_pos (show(Vl.mk s l f).sc.kind≠7 from g7)];decide) e1
  rw[if_pos (show(Vl.mk s l f).sc.kind≠7 from g7)]at this;exact this
 ·rw[if_neg (show ¬(Vl.mk s l f).sc.kind≠7 from g7)]at hk1
  have hlv:=(BY.1 g).2.1
  have hcn:=(BY.1 g).2.2
  refine P6 2000000 (.mk s l f) hz (Nat.le_refl _) (st0:=st1) (la:=[]) (ks:=[]) h0 (Eh g) (by omega) (.inl ⟨rfl,rfl,rfl⟩) (by simp only[List.length_nil];omega) (Ah.refl st1) (Own.nil _ _ _) C4 (by simp only[List.length_nil];omega) fun out' xs' st2 e2 ho2 ha2=>?_
  rw[List.nil_append]at ho2 ha2
  exact hk1 out' xs' st2 rfl ho2.rd ha2 (e1.trans e2)
end
theorem Oz {v:Vl} {cs:List TV} {st:St} {K:Bool->St->Prop} (h:VlR St.zero v cs) (hz:v.sz<=2000000) (hk:K (BK v) st):CallT PR Bn [.agg cs] [.one .bool] st K:=by
 obtain⟨s,l,f⟩:=v
 have hsz:=szs s l f
 have hll:=BJ l
 obtain⟨ub,ul,uf,xl,xf,rfl,h1,h2,h3,h4,h5⟩:=VlR.cells h
 have hm:BK (.mk s l f)=(!l.isEmpty&&l.all fun x=>decide (x.sc.kind=7)):=rfl
 rw[hm]at hk
 refine G1 _ _ _ _ _ _ _ _ _ _ ub ul uf st K ⟨fun i a0 a1 a2 a3 a4 a5 a6 a7 a8 a9 a10 a11 a12 st'=>ul=a11/\st=st'/\∃k:Nat,i=k/\k<=l.length/\(l.take k).all (fun x=>decide (x.sc.kind=7))=true,fun i _ _ _ _ _ _ _ _ _ _ _ _ _ _=>(l.length-i).toNat,⟨rfl,rfl,0,rfl,Nat.zero_le _,rfl⟩,?_⟩
 rintro _ _ _ _ _ _ _ _ _ _ _ _ _ c _ ⟨rfl,rfl,k,rfl,hkl,ha⟩
 refine Aa h2.isSl ?_
 rw[h2.lenS]
 refine Ab (fun g=>?_) fun g=>?_
 ·obtain⟨w,gw⟩:∃w,l[k]? =some w:=⟨_,List.getElem?_eq_getElem (by omega)⟩
  obtain⟨cw,hcw,hx,hlen⟩:=h3.get gw
  have hip:=h2.zero.isP (show k<l.length by omega)
  have hx0:xl[k*13+0]? =some (.int .i64 w.sc.kind):=by
   obtain⟨sw,lw,fw⟩:=w
   obtain⟨_,_,_,_,_,rfl,_⟩:=VlR.cells hcw
   exact Kr hx rfl
  refine⟨⟨by omega,by rw[h2.zero.lenZ];omega⟩,Aa (by rw[Int.toNat_natCast];exact hip) (Ad (x:= .int .i64 w.sc.kind) (by rw[Int.toNat_natCast];exact h2.zero.ldfx st k 0 hx0) (Cj (Ab (fun g7=>?_) fun g7=>?_)))⟩
  ·have:l.all (fun x=>decide (x.sc.kind=7))=false:=by
    rw[List.all_eq_false]
    exact⟨w,List.mem_of_getElem? gw,by simpa using g7⟩
   rw[this,Bool.and_false]at hk;exact hk
  ·rw[Aj _ (by omega) (by omega)]
   refine⟨⟨rfl,rfl,k+1,by omega,by omega,?_⟩,by dsimp only;omega⟩
   rw[A0 gw,List.all_append,ha,List.all_cons,decide_eq_true (Decidable.not_not.1 g7)];rfl
 ·have hkk:k=l.length:=by omega
  rw[hkk,List.take_length]at ha
  rw[ha,Bool.and_true]at hk
  refine Aa h2.isSl ?_
  have:decide ((0:Int)<(l.length:Nat))= !l.isEmpty:=by cases l<;>simp
  rw[this];exact hk
theorem Tn {kv:TV} {ks:List B8} {st:St} {K:TV->St->Prop} (h:Rd 1 kv ks.length (ks.map TV.str)) (hl:ks.length<=1000000) (hk:∀v st',Own st.nt 1 st' v ks.length (ks.map TV.str)->Ah st st'->K v st'):
  Ai (BV st 1 kv) fun q=>need (List.all q.2 Aq) (Bl 9 1 16 (.list 1 .full 0 []) q.1 q.2 st K):=by
 refine Ad (x:=(ks.length,ks.map TV.str)) (Rd.src h (by rw[List.length_map];omega) st) (Aa ?_ ?_)
 ·rw[List.all_map,List.all_eq_true];intro x _;rfl
 ·refine Bj (Ah.refl st) rfl (Own.full _ _ _ 0 []) (by omega) (fun h0=>?_) fun v1 st1 e1 _ ho1=>?_
  ·have:ks=[]:=List.eq_nil_of_length_eq_zero h0
   rw[this];rfl
  ·rw[Nat.zero_add,List.nil_append]at ho1
   exact hk v1 st1 ho1 e1
theorem Be.one:∀{l:List Asg} {xs:List TV},Be l xs->List.all xs Aq=true
 | [],xs,h=>by unfold Be at h;subst h;rfl
 | a::r,xs,h=>by
  unfold Be at h
  obtain⟨c,d,rfl,⟨kv,vc,rfl,h1,h2⟩,h3⟩:=h
  rw[List.all_append,Be.one h3,K7 h1.one (one_of h2)];rfl
theorem Sk:∀(N:Nat) (v:Vl),v.sz<=N->N<=2000000->∀{st:St} {cs:List TV} {kv:TV} {ks:List B8} {K:TV->St->Prop},VlR St.zero v cs->AD v->v.cnt<=65536->Rd 1 kv ks.length (ks.map TV.str)->ks.length+lvV v<=1000->
  (∀out xs st',Rd 16 out (CT ks v).length xs->Be (CT ks v) xs->Ah st st'->K out st')->CallT PR A4 [.agg cs,kv] [.one .tv] st K:=by
 intro N
 induction N with
 | zero=>intro v h;have:=v.sz_pos;omega
 | succ N ih=>
 intro v hN hN2 st cs kv ks K h hV hC hr hd hk
 obtain⟨s,l,f⟩:=v
 have hsz:=szs s l f
 have hct:=Rj s l f
 have hfl:=By f
 have hlv:lvV (.mk s l f)=1+max (CN l) (Cz f):=by rw[lvV]
 have h0:=h
 obtain⟨ub,ul,uf,xl,xf,rfl,h1,h2,h3,h4,h5⟩:=VlR.cells h
 have hlf:∀k,(Ap (f.take k)).length<=Ay f:=fun k=>by
  have h1:=DF ks f
  have h2:Ap f=Ap (f.take k)++Ap (f.drop k):=by rw[<-Gr,List.take_append_drop]
  rw[h2,List.length_append]at h1;omega
 have hlt2:∀k,(Ap f).length+(AT ks (f.take k)).length<=Ay f:=fun k=>by
  have h1:=DF ks f
  have h2:AT ks f=AT ks (f.take k)++AT ks (f.drop k):=by rw[<-IQ,List.take_append_drop]
  rw[h2,List.length_append]at h1;omega
 have lvf:∀{k:Nat} {key:B8} {w:Vl},f[k]? =some (.mk key w)->lvV w<=Cz f/\w.cnt<=Ay f:=fun {k key w} hg=>by
  have gen:∀(g:List Fd) (d:Fd),d∈g->lvD d<=Cz g/\d.cnt<=Ay g:=by
   intro g
   induction g with
   | nil=>intro d hd;cases hd
   | cons x r ih=>
    intro d hd
    rw[Cz,Ay]
    rcases List.mem_cons.1 hd with rfl | hd
    ·omega
    ·have:=ih d hd;omega
  have:=gen f _ (List.mem_of_getElem? hg)
  rw[lvD,Fd.cnt]at this
  exact this
 refine G2 _ _ _ _ _ _ _ _ _ _ ub ul uf kv st K ⟨fun o i k a0 a1 a2 a3 a4 a5 a6 a7 a8 a9 a10 a11 a12 st'=>kv=k/\uf=a12/\∃(j:Nat) (ys:List TV),i=j/\j<=f.length/\Ah st st'/\Own st.nt 16 st' o (Ap (f.take j)).length ys/\Be (Ap (f.take j)) ys,
  fun _ i _ _ _ _ _ _ _ _ _ _ _ _ _ _ _=>(f.length-i).toNat,⟨rfl,rfl,0,[],rfl,Nat.zero_le _,Ah.refl st,by rw[List.take_zero,Ap];exact Own.nil _ _ _,by rw[List.take_zero,Ap];exact C4⟩,?_⟩
 rintro o _ _ _ _ _ _ _ _ _ _ _ _ _ _ _ st1 ⟨rfl,rfl,j,ys,rfl,hj,e1,ho1,ha1⟩
 refine Aa h4.isSl ?_
 rw[h4.lenS]
 refine Ab (fun g=>?_) fun g=>?_
 ·refine O6 (Bg st1) h4 h5 rfl (by omega) fun key s1 l1 f1 ub1 ul1 uf1 gw hw on=>Aa on ?_
  have hwsz:=Cg gw
  rw[szd]at hwsz
  have hwv:=Hx hV gw
  obtain⟨hlw,hcw⟩:=lvf gw
  have htk:=J5 gw
  have hlj:=hlf (j+1)
  rw[Aj _ (by omega) (by omega)]
  refine Ab (fun g7=>Oz hw (by omega) (As (fun hm=>?_) fun hm=>?_)) fun g7=>?_
  ·have hm:BK (.mk s1 l1 f1)=false:=by simpa using hm
   rw[if_pos ⟨g7,hm⟩]at htk
   refine Ry 2000000 (.mk s1 l1 f1) (by omega) (by omega) hw (Bg st1) fun ub2 ul2 uf2 st2 hv2 o1 o2 o3 e2=>?_
   refine Aa (K7 rfl (C7 o1 o2 o3)) ?_
   rw[htk,List.length_append]at hlj
   refine Bj (e1.trans e2) rfl (ho1.ext e2) (by simp only[List.length_singleton]at hlj;omega) (fun h=>by cases h) fun v9 st3 e3 _ ho3=>?_
   have hl3:(Ap (f.take j)).length+1=(Ap (f.take (j+1))).length:=by rw[htk];simp only[List.length_append,List.length_singleton]
   rw[hl3]at ho3
   have ha3:=Be.app ha1 (Ck (a:=⟨false,false,[key],.mk s1 l1 f1⟩) ⟨.list 1 .full 1 [.str key],_,rfl,.inr ⟨_,rfl⟩,hv2⟩ C4)
   rw[<-htk]at ha3
   exact⟨⟨rfl,rfl,j+1,_,by omega,by omega,e3,ho3,ha3⟩,by dsimp only;omega⟩
  ·have hm:BK (.mk s1 l1 f1)=true:=by simpa using hm
   rw[if_neg (fun h=>by rw[hm]at h;cases h.2),List.append_nil]at htk
   refine⟨⟨rfl,rfl,j+1,ys,by omega,by omega,e1,by rw[htk];exact ho1,by rw[htk];exact ha1⟩,by dsimp only;omega⟩
  ·have g7:s1.kind=7:=Decidable.not_not.1 g7
   rw[if_neg (fun h=>h.1 g7),List.append_nil]at htk
   refine⟨⟨rfl,rfl,j+1,ys,by omega,by omega,e1,by rw[htk];exact ho1,by rw[htk];exact ha1⟩,by dsimp only;omega⟩
 ·have hjj:j=f.length:=by omega
  subst hjj
  rw[List.take_length]at ho1 ha1
  refine⟨fun o i k a0 a1 a2 a3 a4 a5 a6 a7 a8 a9 a10 a11 a12 st'=>kv=k/\uf=a12/\∃(j:Nat) (ys:List TV),i=j/\j<=f.length/\Ah st st'/\Own st.nt 16 st' o (Ap f++AT ks (f.take j)).length ys/\Be (Ap f++AT ks (f.take j)) ys,
   fun _ i _ _ _ _ _ _ _ _ _ _ _ _ _ _ _=>(f.length-i).toNat,⟨rfl,rfl,0,ys,rfl,Nat.zero_le _,e1,by rw[List.take_zero,AT,List.append_nil];exact ho1,by rw[List.take_zero,AT,List.append_nil];exact ha1⟩,?_⟩
  rintro o2 _ _ _ _ _ _ _ _ _ _ _ _ _ _ _ st5 ⟨rfl,rfl,j,zs,rfl,hj,e5,ho5,ha5⟩
  refine Aa h4.isSl ?_
  rw[h4.lenS]
  refine Ab (fun g=>?_) fun g=>?_
  ·refine O6 (Bg st5) h4 h5 rfl (by omega) fun key s1 l1 f1 ub1 ul1 uf1 gw hw on=>Aa on ?_
   have hwsz:=Cg gw
   rw[szd]at hwsz
   have hwv:=Hx hV gw
   obtain⟨hlw,hcw⟩:=lvf gw
   have htk:=Mo (ks:=ks) gw
   have hlj:=hlt2 j
   have hlj1:=hlt2 (j+1)
   have hw0:=hw
   obtain⟨_,_,_,xl1,xf1,hc1,z1,z2,z3,z4,z5⟩:=VlR.cells hw
   cases hc1
   have hcw1:=Rj s1 l1 f1
   have hzw1:=szs s1 l1 f1
   have hll1:=BJ l1
   refine Tn hr (by omega) fun v17 st6 ho6 e6=>OT (key:=key) e6 ho6 (by omega) fun v18 st7 hr7 e7=>?_
   have hlen1:(ks++[key]).length=ks.length+1:=by simp
   have e57:=e5.trans e7
   have hoo:(Ap f++AT ks (f.take j)).length<=200000:=by rw[List.length_append];omega
   refine Ab (fun g7=>?_) fun g7=>?_
   ·have tv:=Og (ks:=ks++[key]) (v:= .mk s1 l1 f1) g7
    have hl10:l1=[]:=by
     have:=hwv
     unfold AD at this
     exact this.1.own.ls (by rw[g7];decide)
    refine Aa (by simp[hr7.one]) (Aa (K7 hr7.one rfl) ?_)
    refine Bj e57 rfl (ho5.ext e7) (by omega) (fun h=>by cases h) fun v19 st8 e8 _ ho8=>?_
    have ha8:=Be.app ha5 (Ck (MY (e:=false) (ks:=ks++[key]) (kv:=v18) hr7) C4)
    have hl8:(Ap f++AT ks (f.take j)++[(⟨true,false,ks++[key],vlO⟩:Asg)]).length=(Ap f++AT ks (f.take j)).length+1:=by rw[List.length_append];rfl
    have hbase:Ap f++AT ks (f.take j)++[(⟨true,false,ks++[key],vlO⟩:Asg)]++CT (ks++[key]) (.mk s1 l1 f1)=Ap f++AT ks (f.take (j+1)):=by
     rw[htk,tv];simp[aT]
    have hlfw:=Jb (ks++[key]) (.mk s1 l1 f1)
    refine ih (.mk s1 l1 f1) (by omega) (by omega) hw0 hwv (by omega) hr7 (by omega) fun v20 xs9 st9 ho9 ha9 e9=>?_
    refine Ad (x:=((CT (ks++[key]) (.mk s1 l1 f1)).length,xs9)) (Rd.src ho9 ha9.len st9) (Aa ha9.one ?_)
    refine Bj (e8.trans e9) rfl (ho8.ext e9) (by omega) (fun h0=>by have:=ha9.len;rw[show(CT (ks++[key]) (.mk s1 l1 f1)).length=0 from h0]at this;exact List.eq_nil_of_length_eq_zero (by omega)) fun v21 st10 e10 _ ho10=>?_
    have ha10:=Be.app ha8 ha9
    rw[<-hl8,<-List.length_append]at ho10
    refine⟨fun o k2 kk i2 mo a0 a1 a2 a3 a4 a5 a6 a7 a8 a9 a10 a11 a12 c w0 w1 w2 w3 w4 w5 w6 w7 w8 w9 w10 w11 w12 st'=>kv=kk/\v18=mo/\(j:Int)=i2/\uf=a12/\(s1.kind=w0/\s1.b=w1/\s1.neg=w2/\s1.dg=w3/\s1.ex=w4/\s1.tk=w5/\s1.td=w6/\s1.tn=w7/\s1.tz=w8/\s1.text=w9/\ub1=w10/\ul1=w11/\uf1=w12)/\∃(m:Nat) (ys:List TV),k2=m/\m<=l1.length/\(BK (.mk s1 l1 f1)=true∨m=0)/\Ah st st'/\Own st.nt 16 st' o ((Ap f++AT ks (f.take j)++[(⟨true,false,ks++[key],vlO⟩:Asg)]++CT (ks++[key]) (.mk s1 l1 f1))++elL (ks++[key]) (l1.take m)).length ys/\Be ((Ap f++AT ks (f.take j)++[(⟨true,false,ks++[key],vlO⟩:Asg)]++CT (ks++[key]) (.mk s1 l1 f1))++elL (ks++[key]) (l1.take m)) ys,
     fun _ k2 _ _ _ _ _ _ _ _ _ _ _ _ _ _ _ _ _ _ _ _ _ _ _ _ _ _ _ _ _ _ _=>(l1.length-k2).toNat,⟨rfl,rfl,rfl,rfl,⟨rfl,rfl,rfl,rfl,rfl,rfl,rfl,rfl,rfl,rfl,rfl,rfl,rfl⟩,0,_,rfl,Nat.zero_le _,.inr rfl,e10,by rw[List.take_zero,elL,List.append_nil];exact ho10,by rw[List.take_zero,elL,List.append_nil];exact ha10⟩,?_⟩
    rintro o3 _ _ _ _ _ _ _ _ _ _ _ _ _ _ _ _ _ c _ _ _ _ _ _ _ _ _ _ _ _ _ st12 ⟨rfl,rfl,rfl,rfl,⟨rfl,rfl,rfl,rfl,rfl,rfl,rfl,rfl,rfl,rfl,rfl,rfl,rfl⟩,m,ws,rfl,hm2,hmm,e12,ho12,ha12⟩
    have hem:=Iz (ks:=ks++[key]) l1 m
    refine Aa z2.isSl ?_
    rw[z2.lenS]
    refine Ab (fun g3=>?_) fun g3=>?_
    ·rw[hl10]at g3
     exact absurd g3 (by simp)
    ·have hm0:m=0:=by rw[hl10]at hm2;simpa using hm2
     rw[hm0,List.take_zero,elL,List.append_nil]at ho12 ha12
     rw[Aj _ (by omega) (by omega)]
     rw[hbase]at ho12 ha12
     exact⟨⟨rfl,rfl,j+1,ws,by omega,by omega,e12,ho12,ha12⟩,by dsimp only;omega⟩
   ·refine⟨fun o k2 kk i2 mo a0 a1 a2 a3 a4 a5 a6 a7 a8 a9 a10 a11 a12 c w0 w1 w2 w3 w4 w5 w6 w7 w8 w9 w10 w11 w12 st'=>kv=kk/\v18=mo/\(j:Int)=i2/\uf=a12/\(s1.kind=w0/\s1.b=w1/\s1.neg=w2/\s1.dg=w3/\s1.ex=w4/\s1.tk=w5/\s1.td=w6/\s1.tn=w7/\s1.tz=w8/\s1.text=w9/\ub1=w10/\ul1=w11/\uf1=w12)/\∃(m:Nat) (ys:List TV),k2=m/\m<=l1.length/\(BK (.mk s1 l1 f1)=true∨m=0)/\Ah st st'/\Own st.nt 16 st' o ((Ap f++AT ks (f.take j))++elL (ks++[key]) (l1.take m)).length ys/\Be ((Ap f++AT ks (f.take j))++elL (ks++[key]) (l1.take m)) ys,
     fun _ k2 _ _ _ _ _ _ _ _ _ _ _ _ _ _ _ _ _ _ _ _ _ _ _ _ _ _ _ _ _ _ _=>(l1.length-k2).toNat,⟨rfl,rfl,rfl,rfl,⟨rfl,rfl,rfl,rfl,rfl,rfl,rfl,rfl,rfl,rfl,rfl,rfl,rfl⟩,0,_,rfl,Nat.zero_le _,.inr rfl,e57,by rw[List.take_zero,elL,List.append_nil];exact(ho5.ext e7),by rw[List.take_zero,elL,List.append_nil];exact ha5⟩,?_⟩
    rintro o3 _ _ _ _ _ _ _ _ _ _ _ _ _ _ _ _ _ c _ _ _ _ _ _ _ _ _ _ _ _ _ st12 ⟨rfl,rfl,rfl,rfl,⟨rfl,rfl,rfl,rfl,rfl,rfl,rfl,rfl,rfl,rfl,rfl,rfl,rfl⟩,m,ws,rfl,hm2,hmm,e12,ho12,ha12⟩
    have hem:=Iz (ks:=ks++[key]) l1 m
    refine Aa z2.isSl ?_
    rw[z2.lenS]
    refine Ab (fun g3=>?_) fun g3=>?_
    ·refine Oz hw (by omega) (As (fun hm=>?_) fun hm=>?_)
     ·have tv:=KQ (ks:=ks++[key]) (v:= .mk s1 l1 f1) g7 hm
      have hgen:=Fh (ks:=ks) gw (fun h=>by rw[hm]at h;cases h.2)
      refine Tn hr7 (by omega) fun v22 st13 ho13 e13=>Aa (by simp[ho13.rd.one]) (Aa (K7 ho13.rd.one rfl) ?_)
      have hoo3:((Ap f++AT ks (f.take j))++elL (ks++[key]) (l1.take m)).length=(Ap f).length+(AT ks (f.take j)).length+(elL (ks++[key]) (l1.take m)).length:=by simp only[List.length_append]
      refine Bj (e12.trans e13) rfl (ho12.ext e13) (by omega) (fun h=>by cases h) fun v23 st14 e14 _ ho14=>?_
      have ha14:=Be.app ha12 (Ck (MY (e:=true) (ks:=ks++[key]) (kv:=v22) ho13.rd) C4)
      refine JU (Bg st14) z2 z3 rfl (by omega) fun s3 l3 f3 ub3 ul3 uf3 gx hx on3=>?_
      have hxsz:=Cr gx
      have hxv:=Oa hwv gx
      have hetk:=O5 (ks:=ks++[key]) gx
      have hvx:=Tf (ks++[key]) (.mk s3 l3 f3)
      have hem1:=Hr (ks:=ks++[key]) gx
      have hlvx:lvV (.mk s3 l3 f3)<=CN l1:=QM.1 (Nat.le_refl _) _ (List.mem_of_getElem? gx)
      have hlvw:lvV (.mk s1 l1 f1)=1+max (CN l1) (Cz f1):=by rw[lvV]
      have hcx:(.mk s3 l3 f3:Vl).cnt<=Az l1:=by omega
      have hl14:((Ap f++AT ks (f.take j))++elL (ks++[key]) (l1.take m)++[(⟨true,true,ks++[key],vlO⟩:Asg)]).length=((Ap f++AT ks (f.take j))++elL (ks++[key]) (l1.take m)).length+1:=by rw[List.length_append];rfl
      have hfin:(Ap f++AT ks (f.take j))++elL (ks++[key]) (l1.take m)++[(⟨true,true,ks++[key],vlO⟩:Asg)]++CT (ks++[key]) (.mk s3 l3 f3)=(Ap f++AT ks (f.take j))++elL (ks++[key]) (l1.take (m+1)):=by
       rw[hetk,hvx];simp[aE]
      have hlf3:=Jb (ks++[key]) (.mk s3 l3 f3)
      refine ih (.mk s3 l3 f3) (by omega) (by omega) hx hxv (by omega) hr7 (by omega) fun out' xs' st15 ho15 ha15 e15=>?_
      refine Ad (x:=((CT (ks++[key]) (.mk s3 l3 f3)).length,xs')) (Rd.src ho15 ha15.len st15) (Aa ha15.one ?_)
      refine Bj (e14.trans e15) rfl (ho14.ext e15) (by omega) (fun h0=>by have:=ha15.len;rw[show(CT (ks++[key]) (.mk s3 l3 f3)).length=0 from h0]at this;exact List.eq_nil_of_length_eq_zero (by omega)) fun v34 st16 e16 _ ho16=>?_
      have ha16:=Be.app ha14 ha15
      rw[<-hl14,<-List.length_append]at ho16
      rw[hfin]at ho16 ha16
      rw[Aj _ (by omega) (by omega)]
      exact⟨⟨rfl,rfl,rfl,rfl,⟨rfl,rfl,rfl,rfl,rfl,rfl,rfl,rfl,rfl,rfl,rfl,rfl,rfl⟩,m+1,_,by omega,by omega,.inl hm,e16,ho16,ha16⟩,by dsimp only;omega⟩
     ·have tv:=FT (ks:=ks++[key]) (v:= .mk s1 l1 f1) g7 hm
      have hm0:m=0:=by
       rcases hmm with h | h
       ·rw[hm]at h;cases h
       ·exact h
      rw[hm0,List.take_zero,elL,List.append_nil]at ho12 ha12
      rw[tv,List.append_nil]at htk
      rw[<-htk]at ho12 ha12
      rw[Aj _ (by omega) (by omega)]
      exact⟨⟨rfl,rfl,j+1,ws,by omega,by omega,e12,ho12,ha12⟩,by dsimp only;omega⟩
    ·have hmm2:m=l1.length:=by omega
     have hfin:(Ap f++AT ks (f.take j))++elL (ks++[key]) (l1.take m)=Ap f++AT ks (f.take (j+1)):=by
      rw[htk]
      cases hq:BK (.mk s1 l1 f1)with
      | true=>rw[KQ (v:= .mk s1 l1 f1) g7 hq,hmm2,List.take_length,List.append_assoc];rfl
      | false=>
       have hm0:m=0:=by
        rcases hmm with h | h
        ·rw[hq]at h;cases h
        ·exact h
       rw[FT (v:= .mk s1 l1 f1) g7 hq,hm0,List.take_zero,elL,List.append_nil,List.append_nil]
     rw[hfin]at ho12 ha12
     rw[Aj _ (by omega) (by omega)]
     exact⟨⟨rfl,rfl,j+1,ws,by omega,by omega,e12,ho12,ha12⟩,by dsimp only;omega⟩
  ·have hjj:j=f.length:=by omega
   subst hjj
   rw[List.take_length]at ho5 ha5
   exact hk o2 zs st5 ho5.rd ha5 e5
theorem J4 {v:Vl} {cs:List TV} {st:St} {K:TV->Int->St->Prop} (h:VlR St.zero v cs) (hz:v.sz<=2000000)
  (hk1:∀out xs st',Ee v=0->Rd 16 out (CT [] v).length xs->Be (CT [] v) xs->Ah st st'->K out 0 st') (hk2:∀st',Ee v≠0->Ah st st'->K .nilSlice (Ee v:Nat) st'):
  CallT PR Ci [.agg cs] [.one .tv,.one (.int .i64)] st K:=by
 have h0:=h
 obtain⟨s,l,f⟩:=v
 obtain⟨ub,ul,uf,_,_,rfl,_⟩:=VlR.cells h
 unfold Ee at hk1 hk2
 refine FR _ _ _ _ _ _ _ _ _ _ ub ul uf st K (Mu (v:= .mk s l f) hz h0 (Bg st) fun st1 e1=>Ab (fun g=>?_) fun g=>?_)
 ·have hne:AP (.mk s l f)≠0:=fun e=>g (by rw[e];rfl)
  have:=hk2 st1 (by rw[if_pos hne];exact hne) e1
  rw[if_pos hne]at this;exact this
 have g:AP (.mk s l f)=0:=by omega
 rw[if_neg (by rw[g];simp)]at hk1 hk2
 refine Ab (fun g7=>?_) fun g7=>?_
 ·have:=hk2 st1 (by rw[if_pos (show(Vl.mk s l f).sc.kind≠7 from g7)];decide) e1
  rw[if_pos (show(Vl.mk s l f).sc.kind≠7 from g7)]at this;exact this
 ·rw[if_neg (show ¬(Vl.mk s l f).sc.kind≠7 from g7)]at hk1
  have hlv:=(BY.1 g).2.1
  have hcn:=(BY.1 g).2.2
  refine Sk 2000000 (.mk s l f) hz (Nat.le_refl _) (ks:=[]) h0 (Eh g) (by omega) (.inl ⟨rfl,rfl,rfl⟩) (by simp only[List.length_nil];omega) fun out' xs' st2 ho2 ha2 e2=>hk1 out' xs' st2 rfl ho2 ha2 (e1.trans e2)
section
theorem Mt {l:List Asg} {a b:TV} {xs ys:List TV} {st:St} {K:Bool->St->Prop} (ha:Rd 16 a l.length xs) (hb:Rd 16 b l.length ys) (hx:Be l xs) (hy:Be l ys) (hl:l.length<=1000000) (hz:∀x,x∈l->x.val.sz<=2000000/\x.keys.length<=1000000) (hk:K true st):CallT PR CS [a,b] [.one .bool] st K:=by
 have hza:=ha.lenZ
 have hzb:=hb.lenZ
 refine G3 a b st K (Aa ha.isSl (Aa hb.isSl ?_))
 rw[ha.lenS,hb.lenS]
 refine Ab (fun g=>absurd rfl g) fun _=>?_
 refine⟨fun i x y st'=>a=x/\b=y/\st=st'/\∃k:Nat,i=k/\k<=l.length,fun i _ _ _=>(l.length-i).toNat,⟨rfl,rfl,rfl,0,rfl,Nat.zero_le _⟩,?_⟩
 rintro _ _ _ _ ⟨rfl,rfl,rfl,k,rfl,hkl⟩
 refine Aa ha.isSl ?_
 rw[ha.lenS]
 refine Ab (fun g=>?_) fun _=>hk
 have hlt:k<l.length:=by omega
 obtain⟨x,hxk⟩:∃x,l[k]? =some x:=⟨_,List.getElem?_eq_getElem hlt⟩
 obtain⟨kv,vc,h1,h2,h3,h4,h5,h6⟩:=hx.at_ hxk
 obtain⟨kv',vc',g1,g2,g3,g4,g5,g6⟩:=hy.at_ hxk
 have hipa:=ha.isP hlt
 have hipb:=hb.isP hlt
 obtain⟨hzx,hkx⟩:=hz x (List.mem_of_getElem? hxk)
 have lda:∀{j:Nat} {v:TV} {st:St},xs[k*16+j]? =some v->Ac st [] (.t (Au (ixT 16 a (Int.toNat (k:Int))) j)) 0=some v:=fun {j v st} h=>by rw[Int.toNat_natCast];exact ha.ldfx st k j h
 have ldb:∀{j:Nat} {v:TV} {st:St},ys[k*16+j]? =some v->Ac st [] (.t (Au (ixT 16 b (Int.toNat (k:Int))) j)) 0=some v:=fun {j v st} h=>by rw[Int.toNat_natCast];exact hb.ldfx st k j h
 have pa:∀{j:Nat} {v:TV} {st:St} {f:TV->Prop},xs[k*16+j]? =some v->f v->(0<=(k:Int)/\(k:Int)<(lenZ 16 a:Int))/\need (isPtr (ixT 16 a (Int.toNat (k:Int)))) (Ai (Ac st [] (.t (Au (ixT 16 a (Int.toNat (k:Int))) j)) 0) f):=fun {j v st f} h hf=>
  ⟨⟨by omega,by rw[hza];omega⟩,Aa (by rw[Int.toNat_natCast];exact hipa) (Ad (lda h) hf)⟩
 have pb:∀{j:Nat} {v:TV} {st:St} {f:TV->Prop},ys[k*16+j]? =some v->f v->(0<=(k:Int)/\(k:Int)<(lenZ 16 b:Int))/\need (isPtr (ixT 16 b (Int.toNat (k:Int)))) (Ai (Ac st [] (.t (Au (ixT 16 b (Int.toNat (k:Int))) j)) 0) f):=fun {j v st f} h hf=>
  ⟨⟨by omega,by rw[hzb];omega⟩,Aa (by rw[Int.toNat_natCast];exact hipb) (Ad (ldb h) hf)⟩
 refine pa h5 (Dz (pb g5 (Dz (As (fun h=>by simp at h) fun _=>?_))))
 refine pa h6 (Dz (pb g6 (Dz (As (fun h=>by simp at h) fun _=>?_))))
 refine pa h1 (Aa h2.isSl (pb g1 (Aa g2.isSl ?_)))
 rw[h2.lenS,g2.lenS]
 refine Ab (fun h=>absurd rfl h) fun _=>?_
 have l3:(3:Nat)+13<=16:=by decide
 refine⟨⟨by omega,by rw[hza];omega⟩,Aa (by rw[Int.toNat_natCast];exact hipa) ?_⟩
 have la:∀st:St,Al st [] (.t (Au (ixT 16 a (Int.toNat (k:Int))) 3)) 0 13=some vc:=fun st=>by rw[Int.toNat_natCast,(SlR.of_rd (st:=st) ha).ldcf hx.len hlt l3,h3]
 have lb:∀st:St,Al st [] (.t (Au (ixT 16 b (Int.toNat (k:Int))) 3)) 0 13=some vc':=fun st=>by rw[Int.toNat_natCast,(SlR.of_rd (st:=st) hb).ldcf hy.len hlt l3,g3]
 rw[la,lb]
 have h40:=h4
 have g40:=g4
 generalize x.val=w at h4 g4 h40 g40 hzx
 obtain⟨s,lv,fv⟩:=w
 obtain⟨u1,u2,u3,_,_,rfl,_⟩:=VlR.cells h4
 obtain⟨w1,w2,w3,_,_,rfl,_⟩:=VlR.cells g4
 refine Ad rfl (JW ⟨⟨by omega,by rw[hzb];omega⟩,Aa (by rw[Int.toNat_natCast];exact hipb) (Ad rfl (JW ?_))⟩)
 refine Sf hzx h40 g40 ⟨ldb g1,lda h1,ldb g6,lda h6,ldb g5,lda h5,BIf_f ?_⟩
 refine⟨fun m p q i st'=>a=p/\b=q/\(k:Int)=i/\st=st'/\∃m':Nat,m=m'/\m'<=x.keys.length,fun m _ _ _ _=>(x.keys.length-m).toNat,⟨rfl,rfl,rfl,rfl,0,rfl,Nat.zero_le _⟩,?_⟩
 rintro _ _ _ _ _ ⟨rfl,rfl,rfl,rfl,m,rfl,hm⟩
 refine pa h1 (Aa h2.isSl ?_)
 rw[h2.lenS]
 refine Ab (fun g2'=>?_) fun _=>?_
 ·have hmk:m<x.keys.length:=by omega
  have hkg:=D0 hmk
  have ldm:∀{v:TV} {f:B8->Prop},Rd 1 v x.keys.length (x.keys.map TV.str)->f (x.keys.getD m [])->(0<=(m:Int)/\(m:Int)<(lenZ 1 v:Int))/\Ai (Ac st [] (.t (ixT 1 v (Int.toNat (m:Int)))) 0) fun x=>AS .str x f:=fun {v f} hr hf=>
   ⟨⟨by omega,by rw[hr.lenZ];omega⟩,Ad (x:= .str (x.keys.getD m [])) (by rw[Int.toNat_natCast];exact hr.ldx st m 0 (by rw[Nat.mul_one];exact hkg)) (Dk hf)⟩
  refine pa h1 (ldm h2 (pb g1 (ldm g2 (Ab (fun h=>absurd rfl h) fun _=>?_))))
  rw[Aj _ (by omega) (by omega)]
  exact⟨⟨rfl,rfl,rfl,rfl,m+1,by omega,hmk⟩,by dsimp only;omega⟩
 ·rw[Aj _ (by omega) (by omega)]
  exact⟨⟨rfl,rfl,rfl,k+1,by omega,by omega⟩,by dsimp only;omega⟩
mutual
theorem Kx:∀(f:List Fd) (ks:List B8) (x:Asg),x∈Ap f++AT ks f->x.val.sz<=Bu f+1/\x.keys.length<=ks.length+1+Cz f
 | [],ks,x,hx=>by
  rw[Ap,AT]at hx
  cases hx
 | .mk k v::r,ks,x,hx=>by
  have h1:=Kx r ks x
  have h3:=tab_bd v (ks++[k]) x
  have hz:(Fd.mk k v).sz=k.length+v.sz:=szd k v
  have hlen:(ks++[k]).length=ks.length+1:=by simp
  rw[Bu,Cz,lvD]
  rw[Ap,AT,Sa]at hx
  have hx':x=⟨false,false,[k],v⟩∨x∈Ap r++AT ks r∨x∈IO (ks++[k]) v:=by
   rcases List.mem_append.1 hx with hx | hx
   ·split at hx
    ·rcases List.mem_cons.1 hx with hx | hx
     ·exact .inl hx
     ·exact .inr (.inl (List.mem_append_left _ hx))
    ·exact .inr (.inl (List.mem_append_left _ hx))
   ·rcases List.mem_append.1 hx with hx | hx
    ·exact .inr (.inr hx)
    ·exact .inr (.inl (List.mem_append_right _ hx))
  rcases hx' with rfl | hx | hx
  ·simp only[List.length_singleton];omega
  ·have:=h1 hx;omega
  ·have:=h3 hx;omega
theorem tab_bd:∀(v:Vl) (ks:List B8) (x:Asg),x∈IO ks v->x.val.sz<=v.sz/\x.keys.length<=ks.length+lvV v
 | .mk s l f,ks,x,hx=>by
  have h1:=Kx f ks x
  have h3:=Td l ks x
  have hz:=szs s l f
  have ho:vlO.sz=1:=by unfold vlO Vl.sz Bw Bu;simp[scO]
  rw[IO]at hx
  rw[lvV]
  split at hx
  ·rcases List.mem_cons.1 hx with rfl | hx
   ·simp only[aT];omega
   ·have:=h1 hx;omega
  ·split at hx
   ·have:=h3 hx;omega
   ·cases hx
theorem Td:∀(l:List Vl) (ks:List B8) (x:Asg),x∈elL ks l->x.val.sz<=Bw l+1/\x.keys.length<=ks.length+CN l
 | [],ks,x,hx=>by
  rw[elL]at hx
  cases hx
 | v::r,ks,x,hx=>by
  have h1:=Td r ks x
  have h2:=elv_bd v ks x
  rw[elL]at hx
  rw[Bw,CN]
  rcases List.mem_append.1 hx with hx | hx
  ·have:=h2 hx;omega
  ·have:=h1 hx;omega
theorem elv_bd:∀(v:Vl) (ks:List B8) (x:Asg),x∈elV ks v->x.val.sz<=v.sz/\x.keys.length<=ks.length+lvV v
 | .mk s l f,ks,x,hx=>by
  have h1:=Kx f ks x
  have hz:=szs s l f
  have ho:vlO.sz=1:=by unfold vlO Vl.sz Bw Bu;simp[scO]
  rw[elV]at hx
  rw[lvV]
  rcases List.mem_cons.1 hx with rfl | hx
  ·simp only[aE];omega
  ·have:=h1 hx;omega
end
theorem lsflattens_ok {v:Vl} {cs:List TV} (h:VlR St.zero v cs) {st:St} {K:Bool->St->Prop} (hk:∀st',K true st'):CallT PR fn_datakitlaw25_SectionFlattens [.agg cs] [.one .bool] st K:=by
 have h0:=h
 obtain⟨s,l,f⟩:=v
 obtain⟨ub,ul,uf,_,_,rfl,_⟩:=VlR.cells h
 refine DP _ _ _ _ _ _ _ _ _ _ ub ul uf st K (PC h0 fun b hb=>As (fun _=>MX hk) fun hb0=>?_)
 obtain⟨hz,hc⟩:=hb (by simpa using hb0)
 have hz2:(Vl.mk s l f).sz<=2000000:=by omega
 have rest:∀st,CallT PR Dn [.agg (AA s ub ul uf)] [.one (.int .i64)] st fun n3 st6=>CallT PR B2 [.agg (AA s ub ul uf)] [.one (.int .i64)] st6 fun n4 st7=>
   BIf (decide (n3=n4)) (CallT PR Bi [] [.one .bool] st7 fun b4 st8=>K b4 st8) (K false st7):=fun st=>
  Able_ok h0 hz2 fun st1 _=>Sq h0 hz2 fun st2 _=>Ab (fun _=>MX hk) fun h=>absurd rfl h
 refine Qx h0 hz2 (fun out xs st1 he ho ha _=>?_) fun st1 he _=>?_
 ·refine J4 h0 hz2 (fun out2 xs2 st2 _ ho2 ha2 _=>?_) fun st2 he2 _=>absurd he he2
  have hln:=Jb [] (.mk s l f)
  have hlc:=JM (.mk s l f)
  refine Mt ho ho2 ha ha2 (by omega) (fun x hx=>?_) (TG (Ab (fun _=>rest st2) fun h=>absurd rfl h))
  have hb:=Kx f [] x hx
  have hs:=szs s l f
  have hl:lvV (.mk s l f)=1+max (CN l) (Cz f):=by rw[lvV]
  simp only[List.length_nil]at hb
  omega
 ·refine J4 h0 hz2 (fun out2 xs2 st2 he2 _ _ _=>absurd he2 he) fun st2 _ _=>?_
  refine Mt (l:=[]) (.inl ⟨rfl,rfl,rfl⟩) (.inl ⟨rfl,rfl,rfl⟩) C4 C4 (by decide) (fun x hx=>by cases hx) (TG (Ab (fun _=>rest st2) fun h=>absurd rfl h))
end
end Go.TVF
