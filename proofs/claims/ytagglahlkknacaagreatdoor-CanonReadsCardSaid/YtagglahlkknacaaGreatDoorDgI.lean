/- What the laws below rest on: a framework for Go programs, and contracts of the functions that they reach. -/
import Derived.Test.YtagglahlkknacaaGreatDoorDgH
set_option maxRecDepth 20000
set_option linter.unusedVariables false
set_option linter.unusedSimpArgs false
namespace Go.TVF
open Go.IntKind(i64 u8)
open Go Go.Proofs
theorem V6 {d:Nat} (hdd:d<=47) (ih:PL d):PL (d+1):=by
 intro t st K hl hk
 have hD:i64.wrap (49-((d+1:Nat):Int)+1)=49-((d:Nat):Int):=by rw[Ad _ (by omega) (by omega)];omega
 refine E8 t _ st K ⟨fun s' D z1 z2 z3 z4 z5 z6 z7 z8 z9 z10 z11 z12 z13 st'=>t=s'/\49-((d+1:Nat):Int)=D/\(0:Int)=z1/\false=z2/\false=z3/\([]:B8)=z4/\(0:Int)=z5/\(0:Int)=z6/\(0:Int)=z7/\(0:Int)=z8/\(0:Int)=z9/\([]:B8)=z10/\TV.nilSlice=z11/\TV.nilSlice=z12/\TV.nilSlice=z13/\st=st'/\0<t.length,Aa (fun g=>by omega) fun _=>Aa (fun g=>?_) fun g=>⟨rfl,rfl,rfl,rfl,rfl,rfl,rfl,rfl,rfl,rfl,rfl,rfl,rfl,rfl,rfl,rfl,by omega⟩,?_⟩
 ·refine hk (scK 0) .nilSlice .nilSlice .nilSlice st (.mk (scK 0) [] []) 0 rfl rfl rfl (Ah.refl st) (Fg _ _ rfl) (Nat.zero_le _) (by rw[szl];decide) ?_
  intro w r hw _ hd _
  have:=congrArg List.length hd
  rw[List.length_append]at this
  have:=LJ hw
  omega
 rintro _ _ _ _ _ _ _ _ _ _ _ _ _ _ _ _ ⟨rfl,rfl,rfl,rfl,rfl,rfl,rfl,rfl,rfl,rfl,rfl,rfl,rfl,rfl,rfl,rfl,hpos⟩
 refine⟨fun e s' D z1 z2 z3 z4 z5 z6 z7 z8 z9 z10 z11 z12 z13 c1 c2 c3 c4 c5 c6 c7 c8 c9 c10 c11 c12 c13 st'=>t=s'/\49-((d+1:Nat):Int)=D/\(0:Int)=z1/\false=z2/\false=z3/\([]:B8)=z4/\(0:Int)=z5/\(0:Int)=z6/\(0:Int)=z7/\(0:Int)=z8/\(0:Int)=z9/\([]:B8)=z10/\TV.nilSlice=z11/\TV.nilSlice=z12/\TV.nilSlice=z13/\false=c2/\false=c3/\([]:B8)=c4/\(0:Int)=c5/\(0:Int)=c6/\(0:Int)=c7/\(0:Int)=c8/\(0:Int)=c9/\([]:B8)=c10/\TV.nilSlice=c11/\TV.nilSlice=c12/\TV.nilSlice=c13/\st=st'/\(((6:Int)=c1/\(93:Int)=e/\t.getD 0 0=91)∨((7:Int)=c1/\(125:Int)=e/\t.getD 0 0=123)),⟨⟨by omega,by omega⟩,Aa (fun g=>⟨rfl,rfl,rfl,rfl,rfl,rfl,rfl,rfl,rfl,rfl,rfl,rfl,rfl,rfl,rfl,rfl,rfl,rfl,rfl,rfl,rfl,rfl,rfl,rfl,rfl,rfl,rfl,rfl,.inr ⟨rfl,rfl,(u8i (k:=123)).1 g⟩⟩) fun g=>⟨⟨by omega,by omega⟩,Aa (fun g1=>?_) fun g1=>⟨rfl,rfl,rfl,rfl,rfl,rfl,rfl,rfl,rfl,rfl,rfl,rfl,rfl,rfl,rfl,rfl,rfl,rfl,rfl,rfl,rfl,rfl,rfl,rfl,rfl,rfl,rfl,rfl,.inl ⟨rfl,rfl,(u8i (k:=91)).1 (Decidable.not_not.1 g1)⟩⟩⟩⟩,?_⟩
 ·refine Xs hl fun sc ub st' v n o1 e hv hn hz hS=>Ab (Bv o1 rfl rfl) (hk sc ub .nilSlice .nilSlice st' v n o1 rfl rfl e hv hn hz ?_)
  intro w r hw _ hd hr
  refine hS w r hw ?_ hd hr
  have hk0:=Pe hw hd
  have n91:t.getD 0 0≠91:=fun e=>g1 ((u8i (k:=91)).2 e)
  have n123:t.getD 0 0≠123:=fun e=>g ((u8i (k:=123)).2 e)
  rw[hk0]
  unfold kdT
  rw[if_neg n91,if_neg n123]
  split
  ·decide
  split
  ·decide
  split
  ·split<;>decide
  split
  ·decide
  split<;>decide
 rintro _ _ _ _ _ _ _ _ _ _ _ _ _ _ _ _ _ _ _ _ _ _ _ _ _ _ _ _ _ _ ⟨rfl,rfl,rfl,rfl,rfl,rfl,rfl,rfl,rfl,rfl,rfl,rfl,rfl,rfl,rfl,rfl,rfl,rfl,rfl,rfl,rfl,rfl,rfl,rfl,rfl,rfl,rfl,rfl,h | h⟩<;>obtain⟨rfl,rfl,h0⟩:=h
 ·--a list
  have toG:∀(l2:List Vl) (n:Nat),(∀w r,CL w->(∀x,x∈w->lvV x<=d)->t=91::(AJ true w++93::r)->l2=w/\n=2+(AJ true w).length)->RvG (d+1) t (.mk (scK 6) l2 []) n:=fun l2 n hf w r hw hlv hd hr=>by
   have hk0:=Pe hw hd
   unfold kdT at hk0
   rw[h0]at hk0
   obtain⟨hw6,hE,ht⟩:=enc6 hw hk0
   have hlv':∀x,x∈w.list->lvV x<=d:=by
    rw[hw6]at hlv
    unfold lvV at hlv
    exact RB.1 (show Mi w.list<=d by omega)
   have hd':t=91::(AJ true w.list++93::r):=by rw[hd,ht];simp
   obtain⟨y1,y2⟩:=hf w.list r hE hlv' hd'
   exact⟨by rw[y1];exact hw6.symm,by rw[y2,ht];simp;omega⟩
  have no:∀st',Ah st st'->(∀w r,CL w->(∀x,x∈w->lvV x<=d)->t=91::(AJ true w++93::r)->False)->K 0 false false [] 0 0 0 0 0 [] .nilSlice .nilSlice .nilSlice 0 st':=fun st' e hf=>hk (scK 0) .nilSlice .nilSlice .nilSlice st' (.mk (scK 0) [] []) 0 rfl rfl rfl e (Fg _ _ rfl) (Nat.zero_le _) (by rw[szl];decide) (fun w r hw hlv hd hr=>by
   have hk0:=Pe hw hd
   unfold kdT at hk0
   rw[h0]at hk0
   obtain⟨hw6,hE,ht⟩:=enc6 hw hk0
   have hlv':∀x,x∈w.list->lvV x<=d:=by
    rw[hw6]at hlv
    unfold lvV at hlv
    exact RB.1 (show Mi w.list<=d by omega)
   exact(hf w.list r hE hlv' (by rw[hd,ht];simp)).elim)
  have hcons:t=91::t.drop 1:=by
   cases t with
   | nil=>exact absurd hpos (Nat.lt_irrefl 0)
   | cons c t=>rw[show c=91 from h0];rfl
  refine⟨fun s' D e z1 z2 z3 z4 z5 z6 z7 z8 z9 z10 z11 z12 z13 c1 c2 c3 c4 c5 c6 c7 c8 c9 c10 c11 c12 c13 st'=>t=s'/\49-((d+1:Nat):Int)=D/\(93:Int)=e/\(0:Int)=z1/\false=z2/\false=z3/\([]:B8)=z4/\(0:Int)=z5/\(0:Int)=z6/\(0:Int)=z7/\(0:Int)=z8/\(0:Int)=z9/\([]:B8)=z10/\TV.nilSlice=z11/\TV.nilSlice=z12/\TV.nilSlice=z13/\(6:Int)=c1/\false=c2/\false=c3/\([]:B8)=c4/\(0:Int)=c5/\(0:Int)=c6/\(0:Int)=c7/\(0:Int)=c8/\(0:Int)=c9/\([]:B8)=c10/\TV.nilSlice=c11/\TV.nilSlice=c12/\TV.nilSlice=c13/\st=st'/\¬(1<t.length/\t.getD 1 0=93),Aa (fun g=>⟨⟨by omega,g⟩,Aa (fun g1=>Ab (Bv rfl rfl rfl) ?_) fun g1=>⟨rfl,rfl,rfl,rfl,rfl,rfl,rfl,rfl,rfl,rfl,rfl,rfl,rfl,rfl,rfl,rfl,rfl,rfl,rfl,rfl,rfl,rfl,rfl,rfl,rfl,rfl,rfl,rfl,rfl,rfl,fun h=>g1 ((u8i (k:=93)).2 h.2)⟩⟩) fun g=>⟨rfl,rfl,rfl,rfl,rfl,rfl,rfl,rfl,rfl,rfl,rfl,rfl,rfl,rfl,rfl,rfl,rfl,rfl,rfl,rfl,rfl,rfl,rfl,rfl,rfl,rfl,rfl,rfl,rfl,rfl,fun h=>g (by omega)⟩,?_⟩
  ·have h1:t.getD 1 0=93:=(u8i (k:=93)).1 g1
   refine hk (scK 6) .nilSlice .nilSlice .nilSlice st (.mk (scK 6) [] []) 2 rfl rfl rfl (Ah.refl st) (Fg _ _ rfl) (by omega) (by rw[szl];decide) (toG [] 2 fun w r hw hlv hd=>?_)
   cases w with
   | nil=>exact⟨rfl,rfl⟩
   | cons x w=>
    exfalso
    have h2:(AJ true (x::w)++93::r).getD 0 0=93:=by
     rw[hd]at h1;exact h1
    unfold CL at hw
    rw[AJ,if_pos rfl,List.nil_append,List.append_assoc]at h2
    exact(Q9 hw.1 _).1 h2
  rintro _ _ _ _ _ _ _ _ _ _ _ _ _ _ _ _ _ _ _ _ _ _ _ _ _ _ _ _ _ _ ⟨rfl,rfl,rfl,rfl,rfl,rfl,rfl,rfl,rfl,rfl,rfl,rfl,rfl,rfl,rfl,rfl,rfl,rfl,rfl,rfl,rfl,rfl,rfl,rfl,rfl,rfl,rfl,rfl,rfl,rfl,hne⟩
  refine⟨fun at_ s' D e z1 z2 z3 z4 z5 z6 z7 z8 z9 z10 z11 z12 z13 c1 c2 c3 c4 c5 c6 c7 c8 c9 c10 c11 c12 c13 st'=>t=s'/\49-((d+1:Nat):Int)=D/\(93:Int)=e/\(0:Int)=z1/\false=z2/\false=z3/\([]:B8)=z4/\(0:Int)=z5/\(0:Int)=z6/\(0:Int)=z7/\(0:Int)=z8/\(0:Int)=z9/\([]:B8)=z10/\TV.nilSlice=z11/\TV.nilSlice=z12/\TV.nilSlice=z13/\(6:Int)=c1/\false=c2/\false=c3/\([]:B8)=c4/\(0:Int)=c5/\(0:Int)=c6/\(0:Int)=c7/\(0:Int)=c8/\(0:Int)=c9/\([]:B8)=c10/\TV.nilSlice=c11/\TV.nilSlice=c13/\∃(k:Nat) (l:List Vl) (xs:List TV),at_=k/\Ah st st'/\Ar c12=true/\Own st.nt 13 st' c12 l.length xs/\VsR st' l xs/\1<=k/\k<=t.length/\Ct l+3<=3*k/\
    ∀w r,CL w->(∀x,x∈w->lvV x<=d)->t=91::(AJ true w++93::r)->∃l3,w=l++l3/\l3≠ []/\t.drop k=AJ true l3++93::r,
   fun at_ _ _ _ _ _ _ _ _ _ _ _ _ _ _ _ _ _ _ _ _ _ _ _ _ _ _ _ _ _ _=>(t.length-at_).toNat,⟨rfl,rfl,rfl,rfl,rfl,rfl,rfl,rfl,rfl,rfl,rfl,rfl,rfl,rfl,rfl,rfl,rfl,rfl,rfl,rfl,rfl,rfl,rfl,rfl,rfl,rfl,rfl,rfl,1,[],[],rfl,Ah.refl st,rfl,Own.nil _ _ _,by unfold VsR;rfl,Nat.le_refl _,hpos,by show Ct []+3<=3;have:Ct []=0:=rfl;omega,fun w r hw hlv hd=>⟨w,rfl,fun e=>?_,?_⟩⟩,?_⟩
  ·subst e
   refine hne ⟨?_,?_⟩
   ·rw[hd];simp[AJ]
   ·rw[hd];rfl
  ·rw[hd];rfl
  rintro _ _ _ _ _ _ _ _ _ _ _ _ _ _ _ _ _ _ _ _ _ _ _ _ _ _ _ _ w12 _ st5 ⟨rfl,rfl,rfl,rfl,rfl,rfl,rfl,rfl,rfl,rfl,rfl,rfl,rfl,rfl,rfl,rfl,rfl,rfl,rfl,rfl,rfl,rfl,rfl,rfl,rfl,rfl,rfl,rfl,k,l,xs,rfl,e5,o5,ho5,hvs,hk1,hkl,hsb,hG⟩
  have hll:=DF l
  refine⟨fun n s' D e at_ z1 z2 z3 z4 z5 z6 z7 z8 z9 z10 z11 z12 z13 c1 c2 c3 c4 c5 c6 c7 c8 c9 c10 c11 c12 c13 st'=>t=s'/\49-((d+1:Nat):Int)=D/\(93:Int)=e/\((k:Nat):Int)=at_/\(0:Int)=z1/\false=z2/\false=z3/\([]:B8)=z4/\(0:Int)=z5/\(0:Int)=z6/\(0:Int)=z7/\(0:Int)=z8/\(0:Int)=z9/\([]:B8)=z10/\TV.nilSlice=z11/\TV.nilSlice=z12/\TV.nilSlice=z13/\(6:Int)=c1/\false=c2/\false=c3/\([]:B8)=c4/\(0:Int)=c5/\(0:Int)=c6/\(0:Int)=c7/\(0:Int)=c8/\(0:Int)=c9/\([]:B8)=c10/\TV.nilSlice=c11/\TV.nilSlice=c13/\∃(m:Nat) (l':List Vl) (xs':List TV),n=m/\Ah st st'/\Ar c12=true/\Own st.nt 13 st' c12 l'.length xs'/\VsR st' l' xs'/\k+m<=t.length/\Ct l'+3<=3*(k+m)+1/\
    ∀w r,CL w->(∀x,x∈w->lvV x<=d)->t=91::(AJ true w++93::r)->0<m/\∃l4,w=l'++l4/\t.drop (k+m)=AJ false l4++93::r,Aa (fun _=>⟨⟨by omega,by omega⟩,?_⟩) fun g=>absurd rfl g,?_⟩
  ·rw[Int.toNat_natCast,hD]
   refine ih (t.drop k) st5 _ (by rw[List.length_drop];omega) fun sc wb wl wf st6 v n q1 q2 q3 e6 hv hn hz hRG=>Ab (Bv q1 q2 q3) (Ab (Bv q1 q2 q3) ?_)
   rw[List.length_drop]at hn
   refine QV (e5.trans e6) rfl (ho5.ext e6) (by omega) (fun h=>absurd h (by decide)) fun v' st7 e7 k7 ho7=>Ab (by simp[ho7.rd.one]) ?_
   have hsz:Ct (l++[v])=Ct l+v.sz:=by simp[Lw]
   refine⟨rfl,rfl,rfl,rfl,rfl,rfl,rfl,rfl,rfl,rfl,rfl,rfl,rfl,rfl,rfl,rfl,rfl,rfl,rfl,rfl,rfl,rfl,rfl,rfl,rfl,rfl,rfl,rfl,rfl,n,l++[v],_,rfl,e7,ho7.rd.one,by rw[List.length_append,List.length_singleton];exact ho7,VsR.snoc (hvs.keep (e6.keeps.trans k7)) (hv.keep k7),by omega,by rw[hsz];omega,fun w r hw hlv hd=>?_⟩
   obtain⟨l3,rfl,hne3,hd3⟩:=hG w r hw hlv hd
   cases l3 with
   | nil=>exact absurd rfl hne3
   | cons x l4=>
    have hx:=Ft.1 hw x (by simp)
    rw[AJ,if_pos rfl,List.nil_append,List.append_assoc]at hd3
    obtain⟨rfl,r2⟩:=hRG x _ hx (hlv x (by simp)) hd3 (by rw[JR];exact G7 AG (by decide) l4 r)
    refine⟨by rw[r2];exact LJ hx,l4,by simp,?_⟩
    rw[r2,<-List.drop_drop,hd3,List.drop_left]
  rintro _ _ _ _ _ _ _ _ _ _ _ _ _ _ _ _ _ _ _ _ _ _ _ _ _ _ _ _ _ w12 _ st10 ⟨rfl,rfl,rfl,rfl,rfl,rfl,rfl,rfl,rfl,rfl,rfl,rfl,rfl,rfl,rfl,rfl,rfl,rfl,rfl,rfl,rfl,rfl,rfl,rfl,rfl,rfl,rfl,rfl,rfl,m,l',xs',rfl,e6,o6,ho6,hvs6,hkm,hsb6,hG6⟩
  rw[Ad (((k:Nat):Int)+((m:Nat):Int)) (by omega) (by omega),show((k:Nat):Int)+((m:Nat):Int)=((k+m:Nat):Int) by omega,Int.toNat_natCast]
  have nxt:∀w r,CL w->(∀x,x∈w->lvV x<=d)->t=91::(AJ true w++93::r)->k+m<t.length/\(t.getD (k+m) 0=44∨t.getD (k+m) 0=93):=fun w r hw hlv hd=>by
   obtain⟨_,l4,_,hd4⟩:=hG6 w r hw hlv hd
   cases l4 with
   | nil=>
    have:=BP (c:=93) (r:=r) (by rw[hd4];unfold AJ;rfl)
    exact⟨this.2.2,.inr this.1⟩
   | cons y l5=>
    rw[AJ,if_neg (by decide)]at hd4
    have:=BP (c:=44) (by rw[hd4];rfl)
    exact⟨this.2.2,.inl this.1⟩
  refine⟨fun s' D e at_ z1 z2 z3 z4 z5 z6 z7 z8 z9 z10 z11 z12 z13 c1 c2 c3 c4 c5 c6 c7 c8 c9 c10 c11 c12 c13 st'=>t=s'/\49-((d+1:Nat):Int)=D/\(93:Int)=e/\((k+m:Nat):Int)=at_/\(0:Int)=z1/\false=z2/\false=z3/\([]:B8)=z4/\(0:Int)=z5/\(0:Int)=z6/\(0:Int)=z7/\(0:Int)=z8/\(0:Int)=z9/\([]:B8)=z10/\TV.nilSlice=z11/\TV.nilSlice=z12/\TV.nilSlice=z13/\(6:Int)=c1/\false=c2/\false=c3/\([]:B8)=c4/\(0:Int)=c5/\(0:Int)=c6/\(0:Int)=c7/\(0:Int)=c8/\(0:Int)=c9/\([]:B8)=c10/\TV.nilSlice=c11/\TV.nilSlice=c13/\w12=c12/\st10=st'/\k+m<t.length/\0<m/\(t.getD (k+m) 0=44∨t.getD (k+m) 0=93),Aa (fun g=>no st10 e6 fun w r hw hlv hd=>by have:=(hG6 w r hw hlv hd).1;omega) fun g=>Aa (fun g1=>no st10 e6 fun w r hw hlv hd=>by have:=(nxt w r hw hlv hd).1;omega) fun g1=>⟨⟨by omega,by omega⟩,Aa (fun g2=>⟨⟨by omega,by omega⟩,Aa (fun g3=>no st10 e6 fun w r hw hlv hd=>?_) fun g3=>⟨rfl,rfl,rfl,rfl,rfl,rfl,rfl,rfl,rfl,rfl,rfl,rfl,rfl,rfl,rfl,rfl,rfl,rfl,rfl,rfl,rfl,rfl,rfl,rfl,rfl,rfl,rfl,rfl,rfl,rfl,rfl,by omega,by omega,.inr ((u8i (k:=93)).1 (Decidable.not_not.1 g3))⟩⟩) fun g2=>⟨rfl,rfl,rfl,rfl,rfl,rfl,rfl,rfl,rfl,rfl,rfl,rfl,rfl,rfl,rfl,rfl,rfl,rfl,rfl,rfl,rfl,rfl,rfl,rfl,rfl,rfl,rfl,rfl,rfl,rfl,rfl,by omega,by omega,.inl ((u8i (k:=44)).1 (Decidable.not_not.1 g2))⟩⟩,?_⟩
  ·rcases (nxt w r hw hlv hd).2 with h | h
   ·exact g2 (by rw[h];rfl)
   ·exact g3 (by rw[h];rfl)
  rintro _ _ _ _ _ _ _ _ _ _ _ _ _ _ _ _ _ _ _ _ _ _ _ _ _ _ _ _ _ _ _ ⟨rfl,rfl,rfl,rfl,rfl,rfl,rfl,rfl,rfl,rfl,rfl,rfl,rfl,rfl,rfl,rfl,rfl,rfl,rfl,rfl,rfl,rfl,rfl,rfl,rfl,rfl,rfl,rfl,rfl,rfl,rfl,hlt,hm0,hch⟩
  rw[Ad (((k+m:Nat):Int)+1) (by omega) (by omega),Ad (((k+m:Nat):Int)+1-1) (by omega) (by omega),show((k+m:Nat):Int)+1-1=((k+m:Nat):Int) by omega,Int.toNat_natCast]
  refine⟨⟨by omega,by omega⟩,Aa (fun g=>Ab (Bv rfl o6 rfl) ?_) fun g=>?_⟩
  ·have hq:t.getD (k+m) 0=93:=(u8i (k:=93)).1 g
   rw[show((k+m:Nat):Int)+1=((k+m+1:Nat):Int) by omega]
   have hV:VlR st10 (.mk (scK 6) l' []) (AI (scK 6) .nilSlice w12 .nilSlice):=by
    unfold VlR
    exact⟨_,_,_,xs',[],rfl,.of_rd (.inl ⟨rfl,rfl,rfl⟩),.of_rd ho6.rd,hvs6,.of_rd (.inl ⟨rfl,rfl,rfl⟩),by unfold FsR;rfl⟩
   refine hk (scK 6) .nilSlice w12 .nilSlice st10 (.mk (scK 6) l' []) (k+m+1) rfl o6 rfl e6 hV (by omega) (by rw[szs];show 1+0+0+0+Ct l'+BS []<=_;have:BS []=0:=rfl;omega) (toG l' _ fun w r hw hlv hd=>?_)
   obtain⟨_,l4,rfl,hd4⟩:=hG6 w r hw hlv hd
   cases l4 with
   | nil=>
    refine⟨by rw[List.append_nil],?_⟩
    unfold AJ at hd4
    have l1:=congrArg List.length hd
    have l2:=congrArg List.length hd4
    simp only[List.length_drop,List.length_append,List.length_cons,List.nil_append,List.append_nil]at l1 l2⊢
    omega
   | cons y l5=>
    exfalso
    rw[AJ,if_neg (by decide)]at hd4
    have:=(BP (c:=44) (by rw[hd4];rfl)).1
    rw[hq]at this
    exact absurd this (by decide)
  ·have hq:t.getD (k+m) 0=44:=by
    rcases hch with h | h
    ·exact h
    ·exact absurd ((u8i (k:=93)).2 h) g
   refine⟨⟨rfl,rfl,rfl,rfl,rfl,rfl,rfl,rfl,rfl,rfl,rfl,rfl,rfl,rfl,rfl,rfl,rfl,rfl,rfl,rfl,rfl,rfl,rfl,rfl,rfl,rfl,rfl,rfl,k+m+1,l',xs',by omega,e6,o6,ho6,hvs6,by omega,by omega,by omega,fun w r hw hlv hd=>?_⟩,by dsimp only;omega⟩
   obtain⟨_,l4,rfl,hd4⟩:=hG6 w r hw hlv hd
   refine⟨l4,rfl,?_,?_⟩
   ·rintro rfl
    unfold AJ at hd4
    have:=(BP (c:=93) (r:=r) (by rw[hd4];rfl)).1
    rw[hq]at this
    exact absurd this (by decide)
   ·cases l4 with
    | nil=>
     unfold AJ at hd4
     have:=(BP (c:=93) (r:=r) (by rw[hd4];rfl)).1
     rw[hq]at this
     exact absurd this (by decide)
    | cons y l5=>
     rw[AJ,if_neg (by decide)]at hd4
     rw[<-List.drop_drop,hd4,AJ,if_pos rfl]
     simp
 ·--a map
  have toG:∀(l2:List Fd) (n:Nat),(∀w r,CH w->(∀x,x∈w->lvD x<=d)->t=123::(AD true w++125::r)->l2=w/\n=2+(AD true w).length)->RvG (d+1) t (.mk (scK 7) [] l2) n:=fun l2 n hf w r hw hlv hd hr=>by
   have hk0:=Pe hw hd
   unfold kdT at hk0
   rw[h0]at hk0
   obtain⟨hw6,hE,ht⟩:=enc7 hw hk0
   have hlv':∀x,x∈w.flds->lvD x<=d:=by
    rw[hw6]at hlv
    unfold lvV at hlv
    exact Mj.1 (show KN w.flds<=d by omega)
   have hd':t=123::(AD true w.flds++125::r):=by rw[hd,ht];simp
   obtain⟨y1,y2⟩:=hf w.flds r hE hlv' hd'
   exact⟨by rw[y1];exact hw6.symm,by rw[y2,ht];simp;omega⟩
  have no:∀st',Ah st st'->(∀w r,CH w->(∀x,x∈w->lvD x<=d)->t=123::(AD true w++125::r)->False)->K 0 false false [] 0 0 0 0 0 [] .nilSlice .nilSlice .nilSlice 0 st':=fun st' e hf=>hk (scK 0) .nilSlice .nilSlice .nilSlice st' (.mk (scK 0) [] []) 0 rfl rfl rfl e (Fg _ _ rfl) (Nat.zero_le _) (by rw[szl];decide) (fun w r hw hlv hd hr=>by
   have hk0:=Pe hw hd
   unfold kdT at hk0
   rw[h0]at hk0
   obtain⟨hw6,hE,ht⟩:=enc7 hw hk0
   have hlv':∀x,x∈w.flds->lvD x<=d:=by
    rw[hw6]at hlv
    unfold lvV at hlv
    exact Mj.1 (show KN w.flds<=d by omega)
   exact(hf w.flds r hE hlv' (by rw[hd,ht];simp)).elim)
  have hcons:t=123::t.drop 1:=by
   cases t with
   | nil=>exact absurd hpos (Nat.lt_irrefl 0)
   | cons c t=>rw[show c=123 from h0];rfl
  refine⟨fun s' D e z1 z2 z3 z4 z5 z6 z7 z8 z9 z10 z11 z12 z13 c1 c2 c3 c4 c5 c6 c7 c8 c9 c10 c11 c12 c13 st'=>t=s'/\49-((d+1:Nat):Int)=D/\(125:Int)=e/\(0:Int)=z1/\false=z2/\false=z3/\([]:B8)=z4/\(0:Int)=z5/\(0:Int)=z6/\(0:Int)=z7/\(0:Int)=z8/\(0:Int)=z9/\([]:B8)=z10/\TV.nilSlice=z11/\TV.nilSlice=z12/\TV.nilSlice=z13/\(7:Int)=c1/\false=c2/\false=c3/\([]:B8)=c4/\(0:Int)=c5/\(0:Int)=c6/\(0:Int)=c7/\(0:Int)=c8/\(0:Int)=c9/\([]:B8)=c10/\TV.nilSlice=c11/\TV.nilSlice=c12/\TV.nilSlice=c13/\st=st'/\¬(1<t.length/\t.getD 1 0=125),Aa (fun g=>⟨⟨by omega,g⟩,Aa (fun g1=>Ab (Bv rfl rfl rfl) ?_) fun g1=>⟨rfl,rfl,rfl,rfl,rfl,rfl,rfl,rfl,rfl,rfl,rfl,rfl,rfl,rfl,rfl,rfl,rfl,rfl,rfl,rfl,rfl,rfl,rfl,rfl,rfl,rfl,rfl,rfl,rfl,rfl,fun h=>g1 ((u8i (k:=125)).2 h.2)⟩⟩) fun g=>⟨rfl,rfl,rfl,rfl,rfl,rfl,rfl,rfl,rfl,rfl,rfl,rfl,rfl,rfl,rfl,rfl,rfl,rfl,rfl,rfl,rfl,rfl,rfl,rfl,rfl,rfl,rfl,rfl,rfl,rfl,fun h=>g (by omega)⟩,?_⟩
  ·have h1:t.getD 1 0=125:=(u8i (k:=125)).1 g1
   refine hk (scK 7) .nilSlice .nilSlice .nilSlice st (.mk (scK 7) [] []) 2 rfl rfl rfl (Ah.refl st) (Fg _ _ rfl) (by omega) (by rw[szl];decide) (toG [] 2 fun w r hw hlv hd=>?_)
   cases w with
   | nil=>exact⟨rfl,rfl⟩
   | cons x w=>
    exfalso
    have h2:(AD true (x::w)++125::r).getD 0 0=125:=by
     rw[hd]at h1;exact h1
    obtain⟨kx,x⟩:=x
    rw[AD,if_pos rfl,List.nil_append,HL]at h2
    exact absurd (show(34:UInt8)=125 from h2) (by decide)
  rintro _ _ _ _ _ _ _ _ _ _ _ _ _ _ _ _ _ _ _ _ _ _ _ _ _ _ _ _ _ _ ⟨rfl,rfl,rfl,rfl,rfl,rfl,rfl,rfl,rfl,rfl,rfl,rfl,rfl,rfl,rfl,rfl,rfl,rfl,rfl,rfl,rfl,rfl,rfl,rfl,rfl,rfl,rfl,rfl,rfl,rfl,hne⟩
  refine⟨fun at_ s' D e z1 z2 z3 z4 z5 z6 z7 z8 z9 z10 z11 z12 z13 c1 c2 c3 c4 c5 c6 c7 c8 c9 c10 c11 c12 c13 st'=>t=s'/\49-((d+1:Nat):Int)=D/\(125:Int)=e/\(0:Int)=z1/\false=z2/\false=z3/\([]:B8)=z4/\(0:Int)=z5/\(0:Int)=z6/\(0:Int)=z7/\(0:Int)=z8/\(0:Int)=z9/\([]:B8)=z10/\TV.nilSlice=z11/\TV.nilSlice=z12/\TV.nilSlice=z13/\(7:Int)=c1/\false=c2/\false=c3/\([]:B8)=c4/\(0:Int)=c5/\(0:Int)=c6/\(0:Int)=c7/\(0:Int)=c8/\(0:Int)=c9/\([]:B8)=c10/\TV.nilSlice=c11/\TV.nilSlice=c12/\∃(k:Nat) (l:List Fd) (xs:List TV),at_=k/\Ah st st'/\Ar c13=true/\Own st.nt 14 st' c13 l.length xs/\FsR st' l xs/\1<=k/\k<=t.length/\BS l+3<=3*k/\
    ∀w r,CH w->(∀x,x∈w->lvD x<=d)->t=123::(AD true w++125::r)->∃l3,w=l++l3/\l3≠ []/\t.drop k=AD true l3++125::r,
   fun at_ _ _ _ _ _ _ _ _ _ _ _ _ _ _ _ _ _ _ _ _ _ _ _ _ _ _ _ _ _ _=>(t.length-at_).toNat,⟨rfl,rfl,rfl,rfl,rfl,rfl,rfl,rfl,rfl,rfl,rfl,rfl,rfl,rfl,rfl,rfl,rfl,rfl,rfl,rfl,rfl,rfl,rfl,rfl,rfl,rfl,rfl,rfl,1,[],[],rfl,Ah.refl st,rfl,Own.nil _ _ _,by unfold FsR;rfl,Nat.le_refl _,hpos,by show BS []+3<=3;have:BS []=0:=rfl;omega,fun w r hw hlv hd=>⟨w,rfl,fun e=>?_,?_⟩⟩,?_⟩
  ·subst e
   refine hne ⟨?_,?_⟩
   ·rw[hd];simp[AD]
   ·rw[hd];rfl
  ·rw[hd];rfl
  rintro _ _ _ _ _ _ _ _ _ _ _ _ _ _ _ _ _ _ _ _ _ _ _ _ _ _ _ _ _ w13 st5 ⟨rfl,rfl,rfl,rfl,rfl,rfl,rfl,rfl,rfl,rfl,rfl,rfl,rfl,rfl,rfl,rfl,rfl,rfl,rfl,rfl,rfl,rfl,rfl,rfl,rfl,rfl,rfl,rfl,k,l,xs,rfl,e5,o5,ho5,hvs,hk1,hkl,hsb,hG⟩
  have hll:=CC l
  refine⟨fun n s' D e at_ z1 z2 z3 z4 z5 z6 z7 z8 z9 z10 z11 z12 z13 c1 c2 c3 c4 c5 c6 c7 c8 c9 c10 c11 c12 c13 st'=>t=s'/\49-((d+1:Nat):Int)=D/\(125:Int)=e/\((k:Nat):Int)=at_/\(0:Int)=z1/\false=z2/\false=z3/\([]:B8)=z4/\(0:Int)=z5/\(0:Int)=z6/\(0:Int)=z7/\(0:Int)=z8/\(0:Int)=z9/\([]:B8)=z10/\TV.nilSlice=z11/\TV.nilSlice=z12/\TV.nilSlice=z13/\(7:Int)=c1/\false=c2/\false=c3/\([]:B8)=c4/\(0:Int)=c5/\(0:Int)=c6/\(0:Int)=c7/\(0:Int)=c8/\(0:Int)=c9/\([]:B8)=c10/\TV.nilSlice=c11/\TV.nilSlice=c12/\∃(m:Nat) (l':List Fd) (xs':List TV),n=m/\Ah st st'/\Ar c13=true/\Own st.nt 14 st' c13 l'.length xs'/\FsR st' l' xs'/\k+m<=t.length/\BS l'+3<=3*(k+m)+1/\
    ∀w r,CH w->(∀x,x∈w->lvD x<=d)->t=123::(AD true w++125::r)->0<m/\∃l4,w=l'++l4/\t.drop (k+m)=AD false l4++125::r,Aa (fun g=>absurd g (by decide)) fun _=>⟨⟨by omega,by omega⟩,?_⟩,?_⟩
  ·rw[Int.toNat_natCast,hD]
   refine Wa hdd ih (by rw[List.length_drop];omega) fun key sc wb wl wf st6 v n q1 q2 q3 e6 hv hn hz hRG=>Ab (Me q1 q2 q3) (Ab (Me q1 q2 q3) ?_)
   rw[List.length_drop]at hn
   refine QV (e5.trans e6) rfl (ho5.ext e6) (by omega) (fun h=>absurd h (by decide)) fun v' st7 e7 k7 ho7=>Ab (by simp[ho7.rd.one]) ?_
   have hsz:BS (l++[Fd.mk key v])=BS l+(key.length+v.sz):=by simp[Mv,szd]
   refine⟨rfl,rfl,rfl,rfl,rfl,rfl,rfl,rfl,rfl,rfl,rfl,rfl,rfl,rfl,rfl,rfl,rfl,rfl,rfl,rfl,rfl,rfl,rfl,rfl,rfl,rfl,rfl,rfl,rfl,n,l++[Fd.mk key v],_,rfl,e7,ho7.rd.one,by rw[List.length_append,List.length_singleton];exact ho7,FsR.snoc0 (hvs.keep (e6.keeps.trans k7)) (show FdR st7 (Fd.mk key v) _ by unfold FdR;exact⟨_,rfl,hv.keep k7⟩),by omega,by rw[hsz];omega,fun w r hw hlv hd=>?_⟩
   obtain⟨l3,rfl,hne3,hd3⟩:=hG w r hw hlv hd
   cases l3 with
   | nil=>exact absurd rfl hne3
   | cons x l4=>
    obtain⟨kx,x⟩:=x
    have hx:=EM.1 hw (Fd.mk kx x) (by simp)
    have hlx:=hlv (Fd.mk kx x) (by simp)
    unfold Lu at hx
    unfold lvD at hlx
    rw[AD,if_pos rfl,List.nil_append,HL]at hd3
    have hd3':t.drop k=quB kx++(58::(AG x++(AD false l4++125::r))):=by rw[hd3];simp
    obtain⟨rfl,rfl,r2⟩:=hRG kx x _ hx.2 hlx hd3' (by rw[JS];exact G7 HL (by decide) l4 r)
    refine⟨by omega,l4,by simp,?_⟩
    have e1:t.drop k=(quB key++(58::AG v))++(AD false l4++125::r):=by rw[hd3'];simp
    have e2:n=(quB key++(58::AG v)).length:=by rw[r2];simp;omega
    rw[e2,<-List.drop_drop,e1,List.drop_left]
  rintro _ _ _ _ _ _ _ _ _ _ _ _ _ _ _ _ _ _ _ _ _ _ _ _ _ _ _ _ _ _ w13 st10 ⟨rfl,rfl,rfl,rfl,rfl,rfl,rfl,rfl,rfl,rfl,rfl,rfl,rfl,rfl,rfl,rfl,rfl,rfl,rfl,rfl,rfl,rfl,rfl,rfl,rfl,rfl,rfl,rfl,rfl,m,l',xs',rfl,e6,o6,ho6,hvs6,hkm,hsb6,hG6⟩
  rw[Ad (((k:Nat):Int)+((m:Nat):Int)) (by omega) (by omega),show((k:Nat):Int)+((m:Nat):Int)=((k+m:Nat):Int) by omega,Int.toNat_natCast]
  have nxt:∀w r,CH w->(∀x,x∈w->lvD x<=d)->t=123::(AD true w++125::r)->k+m<t.length/\(t.getD (k+m) 0=44∨t.getD (k+m) 0=125):=fun w r hw hlv hd=>by
   obtain⟨_,l4,_,hd4⟩:=hG6 w r hw hlv hd
   cases l4 with
   | nil=>
    have:=BP (c:=125) (r:=r) (by rw[hd4];unfold AD;rfl)
    exact⟨this.2.2,.inr this.1⟩
   | cons y l5=>
    rw[AD,if_neg (by decide)]at hd4
    have:=BP (c:=44) (by rw[hd4];rfl)
    exact⟨this.2.2,.inl this.1⟩
  refine⟨fun s' D e at_ z1 z2 z3 z4 z5 z6 z7 z8 z9 z10 z11 z12 z13 c1 c2 c3 c4 c5 c6 c7 c8 c9 c10 c11 c12 c13 st'=>t=s'/\49-((d+1:Nat):Int)=D/\(125:Int)=e/\((k+m:Nat):Int)=at_/\(0:Int)=z1/\false=z2/\false=z3/\([]:B8)=z4/\(0:Int)=z5/\(0:Int)=z6/\(0:Int)=z7/\(0:Int)=z8/\(0:Int)=z9/\([]:B8)=z10/\TV.nilSlice=z11/\TV.nilSlice=z12/\TV.nilSlice=z13/\(7:Int)=c1/\false=c2/\false=c3/\([]:B8)=c4/\(0:Int)=c5/\(0:Int)=c6/\(0:Int)=c7/\(0:Int)=c8/\(0:Int)=c9/\([]:B8)=c10/\TV.nilSlice=c11/\TV.nilSlice=c12/\w13=c13/\st10=st'/\k+m<t.length/\0<m/\(t.getD (k+m) 0=44∨t.getD (k+m) 0=125),Aa (fun g=>no st10 e6 fun w r hw hlv hd=>by have:=(hG6 w r hw hlv hd).1;omega) fun g=>Aa (fun g1=>no st10 e6 fun w r hw hlv hd=>by have:=(nxt w r hw hlv hd).1;omega) fun g1=>⟨⟨by omega,by omega⟩,Aa (fun g2=>⟨⟨by omega,by omega⟩,Aa (fun g3=>no st10 e6 fun w r hw hlv hd=>?_) fun g3=>⟨rfl,rfl,rfl,rfl,rfl,rfl,rfl,rfl,rfl,rfl,rfl,rfl,rfl,rfl,rfl,rfl,rfl,rfl,rfl,rfl,rfl,rfl,rfl,rfl,rfl,rfl,rfl,rfl,rfl,rfl,rfl,by omega,by omega,.inr ((u8i (k:=125)).1 (Decidable.not_not.1 g3))⟩⟩) fun g2=>⟨rfl,rfl,rfl,rfl,rfl,rfl,rfl,rfl,rfl,rfl,rfl,rfl,rfl,rfl,rfl,rfl,rfl,rfl,rfl,rfl,rfl,rfl,rfl,rfl,rfl,rfl,rfl,rfl,rfl,rfl,rfl,by omega,by omega,.inl ((u8i (k:=44)).1 (Decidable.not_not.1 g2))⟩⟩,?_⟩
  ·rcases (nxt w r hw hlv hd).2 with h | h
   ·exact g2 (by rw[h];rfl)
   ·exact g3 (by rw[h];rfl)
  rintro _ _ _ _ _ _ _ _ _ _ _ _ _ _ _ _ _ _ _ _ _ _ _ _ _ _ _ _ _ _ _ ⟨rfl,rfl,rfl,rfl,rfl,rfl,rfl,rfl,rfl,rfl,rfl,rfl,rfl,rfl,rfl,rfl,rfl,rfl,rfl,rfl,rfl,rfl,rfl,rfl,rfl,rfl,rfl,rfl,rfl,rfl,rfl,hlt,hm0,hch⟩
  rw[Ad (((k+m:Nat):Int)+1) (by omega) (by omega),Ad (((k+m:Nat):Int)+1-1) (by omega) (by omega),show((k+m:Nat):Int)+1-1=((k+m:Nat):Int) by omega,Int.toNat_natCast]
  refine⟨⟨by omega,by omega⟩,Aa (fun g=>Ab (Bv rfl rfl o6) ?_) fun g=>?_⟩
  ·have hq:t.getD (k+m) 0=125:=(u8i (k:=125)).1 g
   rw[show((k+m:Nat):Int)+1=((k+m+1:Nat):Int) by omega]
   have hV:VlR st10 (.mk (scK 7) [] l') (AI (scK 7) .nilSlice .nilSlice w13):=by
    unfold VlR
    exact⟨_,_,_,[],xs',rfl,.of_rd (.inl ⟨rfl,rfl,rfl⟩),.of_rd (.inl ⟨rfl,rfl,rfl⟩),by unfold VsR;rfl,.of_rd ho6.rd,hvs6⟩
   refine hk (scK 7) .nilSlice .nilSlice w13 st10 (.mk (scK 7) [] l') (k+m+1) rfl rfl o6 e6 hV (by omega) (by rw[szs];show 1+0+0+0+Ct []+BS l'<=_;have:Ct []=0:=rfl;omega) (toG l' _ fun w r hw hlv hd=>?_)
   obtain⟨_,l4,rfl,hd4⟩:=hG6 w r hw hlv hd
   cases l4 with
   | nil=>
    refine⟨by rw[List.append_nil],?_⟩
    unfold AD at hd4
    have l1:=congrArg List.length hd
    have l2:=congrArg List.length hd4
    simp only[List.length_drop,List.length_append,List.length_cons,List.nil_append,List.append_nil]at l1 l2⊢
    omega
   | cons y l5=>
    exfalso
    rw[AD,if_neg (by decide)]at hd4
    have:=(BP (c:=44) (by rw[hd4];rfl)).1
    rw[hq]at this
    exact absurd this (by decide)
  ·have hq:t.getD (k+m) 0=44:=by
    rcases hch with h | h
    ·exact h
    ·exact absurd ((u8i (k:=125)).2 h) g
   refine⟨⟨rfl,rfl,rfl,rfl,rfl,rfl,rfl,rfl,rfl,rfl,rfl,rfl,rfl,rfl,rfl,rfl,rfl,rfl,rfl,rfl,rfl,rfl,rfl,rfl,rfl,rfl,rfl,rfl,k+m+1,l',xs',by omega,e6,o6,ho6,hvs6,by omega,by omega,by omega,fun w r hw hlv hd=>?_⟩,by dsimp only;omega⟩
   obtain⟨_,l4,rfl,hd4⟩:=hG6 w r hw hlv hd
   refine⟨l4,rfl,?_,?_⟩
   ·rintro rfl
    unfold AD at hd4
    have:=(BP (c:=125) (r:=r) (by rw[hd4];rfl)).1
    rw[hq]at this
    exact absurd this (by decide)
   ·cases l4 with
    | nil=>
     unfold AD at hd4
     have:=(BP (c:=125) (r:=r) (by rw[hd4];rfl)).1
     rw[hq]at this
     exact absurd this (by decide)
    | cons y l5=>
     rw[AD,if_neg (by decide)]at hd4
     rw[<-List.drop_drop,hd4,AD,if_pos rfl]
     simp
theorem SQ:∀d,d<=48->PL d
 | 0,_=>rval_0
 | d+1,h=>V6 (by omega) (SQ d (by omega))
def PM (s:B8) (v:Vl):Prop:=F3 v=0/\Bk v=v/\AG v=s
theorem PM.enc {s:B8} {v:Vl} (h:PM s v):BR v:=DD.enc (FK h.1)
theorem PM.lv {s:B8} {v:Vl} (h:PM s v):lvV v<=48:=MK v 1 0 h.1
theorem PM.uniq {s:B8} {v w:Vl} (h:PM s v) (h':PM s w):v=w:=Xa h.enc h'.enc (by rw[h.2.2,h'.2.2])
def RdR (s:B8) (v:Vl) (n:Int):Prop:=(¬U8 s/\n=5/\v= .mk (scK 0) [] [])∨(U8 s/\n=3/\v= .mk (scK 0) [] []/\∀w,¬PM s w)∨(U8 s/\n=0/\PM s v)
theorem RdR.fn {s:B8} {v w:Vl} {n m:Int} (h:RdR s v n) (h':RdR s w m):v=w/\n=m:=by
 rcases h with⟨a,b,c⟩ | ⟨a,b,c,d⟩ | ⟨a,b,c⟩<;>rcases h' with⟨a',b',c'⟩ | ⟨a',b',c',d'⟩ | ⟨a',b',c'⟩
 ·exact⟨by rw[c,c'],by rw[b,b']⟩
 ·exact absurd a' a
 ·exact absurd a' a
 ·exact absurd a a'
 ·exact⟨by rw[c,c'],by rw[b,b']⟩
 ·exact absurd c' (d _)
 ·exact absurd a a'
 ·exact absurd c (d' _)
 ·exact⟨c.uniq c',by rw[b,b']⟩
theorem XF {s:B8} (hl:s.length<=4000) {st:St} {K:K14}
  (hk:∀sc ub ul uf st' v n,Ar ub=true->Ar ul=true->Ar uf=true->Ah st st'->VlR st' v (AI sc ub ul uf)->v.sz<=12001->RdR s v n->K sc.kind sc.b sc.neg sc.dg sc.ex sc.tk sc.td sc.tn sc.tz sc.text ub ul uf n st'):
  CallT PR Ht [.str s] [.agg [.int .i64,.bool,.bool,.str,.int .i64,.int .i64,.int .i64,.int .i64,.int .i64,.str,.tv,.tv,.tv],.one (.int .i64)] st K:=by
 have no:∀st' n,Ah st st'->RdR s (.mk (scK 0) [] []) n->K 0 false false [] 0 0 0 0 0 [] .nilSlice .nilSlice .nilSlice n st':=fun st' n e hr=>hk (scK 0) .nilSlice .nilSlice .nilSlice st' (.mk (scK 0) [] []) n rfl rfl rfl e (Fg _ _ rfl) (by rw[szl];decide) hr
 refine PV s st K (Aa (fun g=>absurd g (by omega)) fun _=>MY (by omega) ?_)
 by_cases hu:GV s=s.length
 case neg=>
  rw[decide_eq_false hu]
  exact Aq (fun _=>no st 5 (Ah.refl _) (.inl ⟨hu,rfl,rfl⟩)) fun g=>by cases g
 rw[decide_eq_true hu]
 refine Aq (fun g=>by cases g) fun _=>?_
 have e1:Ah st (st.push (.cells [.str s,.int .i64 0,.bool false]) (some 144)):=(Ah.refl st).push _ _
 have h1:PS st.nb s (st.push (.cells [.str s,.int .i64 0,.bool false]) (some 144)) 0 false:=⟨by simp[St.push],by simp[St.push],Nat.zero_le _⟩
 refine Vf 48 (Nat.le_refl _) st.nb 0 s _ false _ (by omega) h1 fun sc ub ul uf st2 a2 b2 v q1 q2 q3 e2 h2 _ hv hz hb2 hG=>Ab (Bv q1 q2 q3) ?_
 have e12:Ah st st2:=StX.ext e1 e2 (fun i hi=>by subst hi;exact Nat.le_refl _)
 have rej:(∀w,PM s w->v=w/\b2=false/\a2=s.length->False)->∀st',Ah st st'->K 0 false false [] 0 0 0 0 0 [] .nilSlice .nilSlice .nilSlice 3 st':=fun hn st' e=>no st' 3 e (.inr (.inl ⟨hu,rfl,rfl,fun w hw=>hn w hw (by
  have:=hG w [] rfl hw.enc hw.lv (by rw[List.drop_zero,List.append_nil,hw.2.2]) S9
  rw[hw.2.2,Nat.zero_add]at this
  exact this)⟩))
 refine Ac h2.bad (Cy (Aq (fun g=>rej (fun w _ h=>?_) st2 e12) fun g=>Ac h2.pos (Ap (Aa (fun g1=>rej (fun w _ h=>?_) st2 e12) fun g1=>?_))))
 ·rw[h.2.1]at g;cases g
 ·exact g1 (by rw[h.2.2])
 have ha2:a2=s.length:=by omega
 have hz':v.sz<=12001:=by omega
 refine YX (by omega) hv (Uy _) fun st3 e3=>Aa (fun g2=>rej (fun w hw h=>?_) st3 (e12.trans e3)) fun g2=>?_
 ·rw[h.1]at g2;exact g2 (by rw[hw.1];rfl)
 have hc:F3 v=0:=by omega
 refine text_ok (by omega) (FK hc) (WL hc) (hv.keep (Uy _)) fun st4 e4=>Aa (fun g3=>rej (fun w hw h=>?_) st4 ((e12.trans e3).trans e4)) fun g3=>?_
 ·rw[h.1]at g3;exact g3 (by rw[hw.2.1];exact hw.2.2)
 have ht:AG (Bk v)=s:=Decidable.not_not.1 g3
 have hs:v=Bk v:=(hG (Bk v) [] rfl (DD.enc (FK hc)).sort (Nat.le_trans (On v) (MK v 1 0 hc)) (by rw[List.drop_zero,List.append_nil,ht]) S9).1
 exact Ab (Bv q1 q2 q3) (hk sc ub ul uf st4 v 0 q1 q2 q3 ((e12.trans e3).trans e4) (hv.keep (Uy _)) hz' (.inr (.inr ⟨hu,rfl,hc,hs.symm,by rw[hs];exact ht⟩)))
def scT (s:B8):Sc:=⟨4,false,false,[],0,0,0,0,0,s,[]⟩
theorem PC (s:B8):F3 (.mk (scT s) [] [])=5↔¬U8 s:=by
 have ho:FM (scT s) [] []:=⟨(by omega:(0:Int)<=4),(by omega:(4:Int)<=7),fun _=>rfl,fun _=>⟨rfl,rfl,rfl⟩,fun _=>⟨rfl,rfl,rfl,rfl⟩,fun h=>absurd rfl h,fun _=>rfl,fun _=>rfl,fun _=>rfl⟩
 have hd:Cu (scT s).neg (scT s).dg (scT s).ex:=HY.2 ⟨rfl,rfl⟩
 have hO:DK (scT s) [] []=if U8 s then(if 65536<s.length then 10 else 0)else 5:=by
  unfold DK
  rw[if_pos ho,if_pos hd,if_pos (show(scT s).kind=3->BW (scT s).tk (scT s).td (scT s).tn (scT s).tz from fun h=>absurd (show(4:Int)=3 from h) (by omega))]
  rfl
 unfold F3 CG
 rw[if_neg (by omega),if_neg (by omega),hO]
 by_cases h:U8 s
 ·rw[if_pos h]
  refine⟨fun h2=>?_,fun h2=>absurd h h2⟩
  exfalso
  by_cases g:65536<s.length
  ·rw[if_pos g,if_pos (by omega)]at h2;cases h2
  ·rw[if_neg g,if_neg (by omega)]at h2
   unfold F6 B6 CK at h2
   cases h2
 ·rw[if_neg h,if_pos (by omega)]
  exact⟨fun _=>h,fun _=>rfl⟩
theorem Xy {s:B8} (hl:s.length<=4000) {st:St} {K:K14}
  (hk:∀sc ub ul uf st' v n,Ar ub=true->Ar ul=true->Ar uf=true->Ah st st'->VlR st' v (AI sc ub ul uf)->v.sz<=12001->RdR s v n->K sc.kind sc.b sc.neg sc.dg sc.ex sc.tk sc.td sc.tn sc.tz sc.text ub ul uf n st'):
  CallT PR DV [.str s] [.agg [.int .i64,.bool,.bool,.str,.int .i64,.int .i64,.int .i64,.int .i64,.int .i64,.str,.tv,.tv,.tv],.one (.int .i64)] st K:=by
 have no:∀st' n,Ah st st'->RdR s (.mk (scK 0) [] []) n->K 0 false false [] 0 0 0 0 0 [] .nilSlice .nilSlice .nilSlice n st':=fun st' n e hr=>hk (scK 0) .nilSlice .nilSlice .nilSlice st' (.mk (scK 0) [] []) n rfl rfl rfl e (Fg _ _ rfl) (by rw[szl];decide) hr
 have hzT:(Vl.mk (scT s) [] []).sz<=2000000:=by rw[szl];show 1+0+s.length+0<=_;omega
 refine JD s st K (Aa (fun g=>absurd g (by omega)) fun _=>Qv hzT (Fg st (scT s) rfl) (BI.refl _) fun st1 e1=>Aa (fun g=>?_) fun g=>?_)
 ·exact no st1 5 e1 (.inl ⟨(PC s).1 (by omega),rfl,rfl⟩)
 have hu:U8 s:=Decidable.not_not.1 fun h=>g (by rw[(PC s).2 h];rfl)
 refine SQ 48 (Nat.le_refl _) s _ _ (by omega) fun sc ub ul uf st2 v n q1 q2 q3 e2 hv hn hz hG=>Ab (Bv q1 q2 q3) ?_
 have e12:=e1.trans e2
 have rej:(∀w,PM s w->v=w/\n=s.length->False)->∀st',Ah st st'->K 0 false false [] 0 0 0 0 0 [] .nilSlice .nilSlice .nilSlice 3 st':=fun hn st' e=>no st' 3 e (.inr (.inl ⟨hu,rfl,rfl,fun w hw=>hn w hw (by
  have:=hG w [] hw.enc hw.lv (by rw[List.append_nil,hw.2.2]) S9
  rw[hw.2.2]at this
  exact this)⟩))
 refine Aa (fun g1=>rej (fun w hw h=>?_) st2 e12) fun g1=>Aa (fun g2=>rej (fun w hw h=>?_) st2 e12) fun g2=>?_
 ·have:=LJ hw.enc
  rw[hw.2.2]at this
  omega
 ·omega
 have hz':v.sz<=12001:=by omega
 refine Xx (by omega) hv fun st3 e3=>Aa (fun g3=>rej (fun w hw h=>?_) st3 (e12.trans e3)) fun g3=>?_
 ·rw[h.1]at g3;exact g3 (by rw[hw.1];rfl)
 have hc:F3 v=0:=by omega
 rw[if_pos hc]
 refine Aa (fun g4=>rej (fun w hw h=>?_) st3 (e12.trans e3)) fun g4=>?_
 ·rw[h.1]at g4;exact g4 (by rw[hw.2.1];exact hw.2.2)
 have ht:AG (Bk v)=s:=Decidable.not_not.1 g4
 have hs:v=Bk v:=(hG (Bk v) [] (DD.enc (FK hc)).sort (Nat.le_trans (On v) (MK v 1 0 hc)) (by rw[List.append_nil,ht]) S9).1
 exact Ab (Bv q1 q2 q3) (hk sc ub ul uf st3 v 0 q1 q2 q3 (e12.trans e3) (hv.keep e3.keeps) hz' (.inr (.inr ⟨hu,rfl,hc,hs.symm,by rw[<-hs]at ht;exact ht⟩)))
theorem lreads_ok {s:B8} {st:St} {K:Bool->St->Prop} (hk:∀st',K true st'):CallT PR fn_datakitlaw10_CanonReads [.str s] [.one .bool] st K:=by
 refine Gt s st K (Aa (fun _=>hk _) fun g=>?_)
 refine XF (by omega) fun sc ub ul uf st1 v n q1 q2 q3 e1 hv hz hr=>Ab (Bv q1 q2 q3) ?_
 refine Xy (by omega) fun sc' ub' ul' uf' st2 v' n' q1' q2' q3' e2 hv' hz' hr'=>Ab (Bv q1' q2' q3') ?_
 obtain⟨rfl,rfl⟩:=hr.fn hr'
 exact Aa (fun _=>Same_ok 12001 v v hz (by omega) (by omega) (hv.keep e2.keeps) hv' (BI.refl _) fun r h=>by rw[h.2 rfl];exact hk _) fun g=>absurd rfl g
end Go.TVF
