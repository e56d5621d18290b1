/- What the laws below rest on: a framework for Go programs, and contracts of the functions that they reach. -/
import Derived.Test.YtpfhcnpnngjpnaaGreatDoorGgD
import Derived.Lib.DecodeN
set_option maxRecDepth 20000
set_option linter.unusedVariables false
set_option linter.unusedSimpArgs false
namespace Go.TVF
open Go.IntKind(i64 u8)
open Go Go.Proofs
section
theorem LC (i j:Nat) (h:i+j<=1000000000):i64.wrap (Int.fdiv (IntKind.u64.wrap (i64.wrap ((i:Int)+(j:Int)))) (2^(min (Int.toNat (1:Int)) (IntKind.bits .u64))))=(((i+j)/2:Nat):Int):=by
 rw[Ai ((i:Int)+(j:Int)) (by omega) (by omega)]
 have hu:IntKind.u64.wrap ((i:Int)+(j:Int))=((i+j:Nat):Int):=by
  unfold IntKind.wrap
  simp only[IntKind.signed,IntKind.bits]
  simp
  omega
 rw[hu]
 have h2:((2:Int)^(min (Int.toNat (1:Int)) (IntKind.bits .u64)))=2:=by decide
 rw[h2]
 have h3:Int.fdiv ((i+j:Nat):Int) 2=(((i+j)/2:Nat):Int):=by
  rw[Int.fdiv_eq_ediv_of_nonneg _ (by omega)];omega
 rw[h3,Ai _ (by omega) (by omega)]
theorem FT {α:Type} {l:List α} {k:Nat} {x:α} (h:l[k]? =some x):(l.take (k+1)).getLast? =some x:=by
 obtain⟨hk,rfl⟩:=List.getElem?_eq_some_iff.1 h
 rw[List.take_succ_eq_append_getElem hk,List.getLast?_concat]
theorem JT {α:Type} {l:List α} {k:Nat} {x:α} (h:l[k]? =some x):(l.drop k).head? =some x:=by
 rw[List.head?_drop,h]
section
variable {st:St} {b n cap:Nat}
theorem sm_one {P R Q:List (List TV)} {x:List TV} {cmp:TV} (hc:Nr cmp) (h:BxF st b n cap (P++[x]++R++Q)) (hn:n<=100000000) (hs:Srt lek R) (hR:0<R.length) {A M B:Int} (hA:A=(P.length:Int)) (hM:M=((P.length+1:Nat):Int)) (hB:B=((P.length+1+R.length:Nat):Int)) {K:St->Prop}
  (hk:∀st' W,W.Perm ([x]++R)->Srt lek W->BxF st' b n cap (P++W++Q)->StX (·=b) st st'->K st'):
  CallT PR Aj [.ms 14 b 0 n cap,.int .i64 A,.int .i64 M,.int .i64 B,cmp] [] st K:=by
 have hlen:=h.len
 simp only[List.length_append,List.length_cons,List.length_nil]at hlen
 refine A9 _ A M B cmp st K (Aa (fun _=>?_) fun g=>absurd (by subst hA hM;rw[Ai _ (by omega) (by omega)];omega) g)
 refine⟨fun i j d a c' st'=>d= .ms 14 b 0 n cap/\a=A/\cmp=c'/\∃u v:Nat,i=((P.length+1+u:Nat):Int)/\j=((P.length+1+v:Nat):Int)/\u<=v/\v<=R.length/\(∀y,(R.take u).getLast? =some y->lek y x)/\(∀y,(R.drop v).head? =some y->lek x y)/\BxF st' b n cap (P++[x]++R++Q)/\StX (·=b) st st',
  fun i j _ _ _ _=>(j-i).toNat,⟨rfl,rfl,rfl,0,R.length,by omega,by omega,Nat.zero_le _,Nat.le_refl _,fun y hy=>by simp at hy,fun y hy=>by simp at hy,h,StX.refl _ _⟩,?_⟩
 rintro _ _ _ _ _ st1 ⟨rfl,rfl,rfl,u,v,rfl,rfl,huv,hv,h1,h2,hb,e⟩
 subst hA hM hB
 have gx:(P++[x]++R++Q)[P.length]? =some x:=by simp
 refine Aa (fun g=>?_) fun g=>?_
 ·rw[LC _ _ (by omega)]
  obtain⟨w,hw⟩:∃w,(P.length+1+u+(P.length+1+v))/2=P.length+1+w:=⟨(u+v)/2,by omega⟩
  have hwu:u<=w:=by omega
  have hwv:w<v:=by omega
  have hwr:w<R.length:=by omega
  rw[hw]
  have gy:(P++[x]++R++Q)[P.length+1+w]? =some R[w]:=by
   rw[List.append_assoc (P++[x]),List.getElem?_append_right (by simp only[List.length_append,List.length_cons,List.length_nil];omega),List.getElem?_append_left (by simp only[List.length_append,List.length_cons,List.length_nil];omega)]
   simp[show P.length+1+w-(P.length+1)=w by omega,hwr]
  have gw:R[w]? =some R[w]:=List.getElem?_eq_getElem hwr
  refine S8 hc hb rfl rfl gy gx fun r st2 e2 hr=>?_
  have hb2:=hb.ext e2
  have e12:=e.trans (StX.of e2)
  refine Aa (fun g3=>?_) fun g3=>?_
  ·exact⟨⟨rfl,rfl,rfl,w+1,v,by rw[Ai _ (by omega) (by omega)];omega,rfl,by omega,hv,fun y hy=>by rw[FT gw]at hy;cases hy;exact GH (hr.1 g3),h2,hb2,e12⟩,by dsimp only;rw[Ai _ (by omega) (by omega)];omega⟩
  ·refine⟨⟨rfl,rfl,rfl,u,w,rfl,rfl,hwu,by omega,h1,fun y hy=>?_,hb2,e12⟩,by dsimp only;omega⟩
   rw[JT gw]at hy;cases hy
   cases hq:Op.bytesLess (Fk R[w]) (Fk x)with
   | true=>exact absurd (hr.2 hq) g3
   | false=>exact hq
 ·obtain rfl:u=v:=by omega
  refine⟨fun k d i st'=>d= .ms 14 b 0 n cap/\i=((P.length+1+u:Nat):Int)/\∃w:Nat,k=((P.length+w:Nat):Int)/\w<=u/\BxF st' b n cap (P++R.take w++[x]++R.drop w++Q)/\StX (·=b) st st',
   fun k _ _ _=>(P.length+u-k).toNat,⟨rfl,rfl,0,by omega,Nat.zero_le _,by simpa using hb,e⟩,?_⟩
  rintro _ _ _ st3 ⟨rfl,rfl,w,rfl,hwu,hb3,e3⟩
  have wi:i64.wrap (((P.length+1+u:Nat):Int)-1)=((P.length+u:Nat):Int):=by rw[Ai _ (by omega) (by omega)];omega
  rw[wi]
  refine Aa (fun g4=>?_) fun g4=>?_
  ·have hwr:w<R.length:=by omega
   have wk:i64.wrap (((P.length+w:Nat):Int)+1)=((P.length+w+1:Nat):Int):=by rw[Ai _ (by omega) (by omega)];omega
   have hd:R.drop w=R[w]::R.drop (w+1):=List.drop_eq_getElem_cons hwr
   have ec:P++R.take w++[x]++R.drop w++Q=(P++R.take w)++x::R[w]::(R.drop (w+1)++Q):=by rw[hd];simp only[List.append_assoc,List.cons_append,List.nil_append]
   have lc:(P++R.take w).length=P.length+w:=by simp;omega
   rw[ec]at hb3
   have gi:((P++R.take w)++x::R[w]::(R.drop (w+1)++Q))[P.length+w]? =some x:=by
    rw[List.getElem?_append_right (by omega),lc,Nat.sub_self];rfl
   have gj:((P++R.take w)++x::R[w]::(R.drop (w+1)++Q))[P.length+w+1]? =some R[w]:=by
    rw[List.getElem?_append_right (by omega),lc,show P.length+w+1-(P.length+w)=1 by omega];rfl
   rw[wk]
   refine Sn hb3 rfl rfl gi gj fun st4 hb4 e4=>⟨⟨rfl,rfl,w+1,rfl,by omega,?_,e3.trans e4⟩,by dsimp only;omega⟩
   have hset:((((P++R.take w)++x::R[w]::(R.drop (w+1)++Q)).set (P.length+w) R[w]).set (P.length+w+1) x)=P++R.take (w+1)++[x]++R.drop (w+1)++Q:=by
    rw[List.set_append_right _ _ (by omega),lc,Nat.sub_self,List.set_cons_zero,List.set_append_right _ _ (by omega),lc,show P.length+w+1-(P.length+w)=1 by omega,List.set_cons_succ,List.set_cons_zero]
    have t1:R.take (w+1)=R.take w++[R[w]]:=by rw[List.take_succ_eq_append_getElem hwr]
    rw[t1];simp only[List.append_assoc,List.cons_append,List.nil_append]
   rw[hset]at hb4
   exact hb4
  ·obtain rfl:w=u:=by omega
   refine hk st3 (R.take w++x::R.drop w) ?_ (Sq JR Ly (by rw[List.take_append_drop];exact hs) h1 h2) (by simpa using hb3) e3
   refine List.perm_middle.trans ?_
   rw[List.take_append_drop];exact List.Perm.refl _
theorem sm_two {P L Q:List (List TV)} {x:List TV} {cmp:TV} (hc:Nr cmp) (h:BxF st b n cap (P++L++[x]++Q)) (hn:n<=100000000) (hs:Srt lek L) (hL:1<L.length) {A M B:Int} (hA:A=(P.length:Int)) (hM:M=((P.length+L.length:Nat):Int)) (hB:B=((P.length+L.length+1:Nat):Int)) {K:St->Prop}
  (hk:∀st' W,W.Perm (L++[x])->Srt lek W->BxF st' b n cap (P++W++Q)->StX (·=b) st st'->K st'):
  CallT PR Aj [.ms 14 b 0 n cap,.int .i64 A,.int .i64 M,.int .i64 B,cmp] [] st K:=by
 have hlen:=h.len
 simp only[List.length_append,List.length_cons,List.length_nil]at hlen
 refine A9 _ A M B cmp st K (Aa (fun g=>absurd g (by subst hA hM;rw[Ai _ (by omega) (by omega)];omega)) fun _=>Aa (fun _=>?_) fun g=>absurd (by subst hB hM;rw[Ai _ (by omega) (by omega)];omega) g)
 refine⟨fun i j d m c' st'=>d= .ms 14 b 0 n cap/\m=M/\cmp=c'/\∃u v:Nat,i=((P.length+u:Nat):Int)/\j=((P.length+v:Nat):Int)/\u<=v/\v<=L.length/\(∀y,(L.take u).getLast? =some y->lek y x)/\(∀y,(L.drop v).head? =some y->lek x y)/\BxF st' b n cap (P++L++[x]++Q)/\StX (·=b) st st',
  fun i j _ _ _ _=>(j-i).toNat,⟨rfl,rfl,rfl,0,L.length,by omega,by omega,Nat.zero_le _,Nat.le_refl _,fun y hy=>by simp at hy,fun y hy=>by simp at hy,h,StX.refl _ _⟩,?_⟩
 rintro _ _ _ _ _ st1 ⟨rfl,rfl,rfl,u,v,rfl,rfl,huv,hv,h1,h2,hb,e⟩
 subst hA hM hB
 have gx:(P++L++[x]++Q)[P.length+L.length]? =some x:=by
  rw[List.append_assoc (P++L),List.getElem?_append_right (by simp),List.length_append,Nat.sub_self];rfl
 refine Aa (fun g=>?_) fun g=>?_
 ·rw[LC _ _ (by omega)]
  obtain⟨w,hw⟩:∃w,(P.length+u+(P.length+v))/2=P.length+w:=⟨(u+v)/2,by omega⟩
  have hwu:u<=w:=by omega
  have hwv:w<v:=by omega
  have hwr:w<L.length:=by omega
  rw[hw]
  have gy:(P++L++[x]++Q)[P.length+w]? =some L[w]:=by
   rw[List.append_assoc,List.append_assoc,List.getElem?_append_right (by omega),List.getElem?_append_left (by omega),Nat.add_sub_cancel_left]
   exact List.getElem?_eq_getElem hwr
  have gw:L[w]? =some L[w]:=List.getElem?_eq_getElem hwr
  refine S8 hc hb rfl rfl gx gy fun r st2 e2 hr=>?_
  have hb2:=hb.ext e2
  have e12:=e.trans (StX.of e2)
  refine Ap (fun g3=>?_) fun g3=>?_
  ·refine⟨⟨rfl,rfl,rfl,w+1,v,by rw[Ai _ (by omega) (by omega)];omega,rfl,by omega,hv,fun y hy=>?_,h2,hb2,e12⟩,by dsimp only;rw[Ai _ (by omega) (by omega)];omega⟩
   rw[FT gw]at hy;cases hy
   cases hq:Op.bytesLess (Fk x) (Fk L[w])with
   | true=>have:=hr.2 hq;simp at g3;omega
   | false=>exact hq
  ·exact⟨⟨rfl,rfl,rfl,u,w,rfl,rfl,hwu,by omega,h1,fun y hy=>by rw[JT gw]at hy;cases hy;exact GH (hr.1 (by simpa using g3)),hb2,e12⟩,by dsimp only;omega⟩
 ·obtain rfl:u=v:=by omega
  refine⟨fun k d i st'=>d= .ms 14 b 0 n cap/\i=((P.length+u:Nat):Int)/\∃w:Nat,k=((P.length+w:Nat):Int)/\u<=w/\w<=L.length/\BxF st' b n cap (P++L.take w++[x]++L.drop w++Q)/\StX (·=b) st st',
   fun k _ _ _=>k.toNat,⟨rfl,rfl,L.length,by omega,hv,Nat.le_refl _,by simpa using hb,e⟩,?_⟩
  rintro _ _ _ st3 ⟨rfl,rfl,w,rfl,hwu,hwl,hb3,e3⟩
  refine Aa (fun g4=>?_) fun g4=>?_
  ·obtain⟨w,rfl⟩:∃w',w=w'+1:=⟨w-1,by omega⟩
   have hwr:w<L.length:=by omega
   have wk:i64.wrap (((P.length+(w+1):Nat):Int)-1)=((P.length+w:Nat):Int):=by rw[Ai _ (by omega) (by omega)];omega
   have t1:L.take (w+1)=L.take w++[L[w]]:=by rw[List.take_succ_eq_append_getElem hwr]
   have ec:P++L.take (w+1)++[x]++L.drop (w+1)++Q=(P++L.take w)++L[w]::x::(L.drop (w+1)++Q):=by rw[t1];simp only[List.append_assoc,List.cons_append,List.nil_append]
   have lc:(P++L.take w).length=P.length+w:=by simp;omega
   rw[ec]at hb3
   have gi:((P++L.take w)++L[w]::x::(L.drop (w+1)++Q))[P.length+(w+1)]? =some x:=by
    rw[List.getElem?_append_right (by omega),lc,show P.length+(w+1)-(P.length+w)=1 by omega];rfl
   have gj:((P++L.take w)++L[w]::x::(L.drop (w+1)++Q))[P.length+w]? =some L[w]:=by
    rw[List.getElem?_append_right (by omega),lc,Nat.sub_self];rfl
   rw[wk]
   refine Sn hb3 rfl rfl gi gj fun st4 hb4 e4=>⟨⟨rfl,rfl,w,rfl,by omega,by omega,?_,e3.trans e4⟩,by dsimp only;omega⟩
   have hset:((((P++L.take w)++L[w]::x::(L.drop (w+1)++Q)).set (P.length+(w+1)) L[w]).set (P.length+w) x)=P++L.take w++[x]++L.drop w++Q:=by
    rw[List.set_append_right _ _ (by omega),lc,show P.length+(w+1)-(P.length+w)=1 by omega,List.set_cons_succ,List.set_cons_zero,List.set_append_right _ _ (by omega),lc,Nat.sub_self,List.set_cons_zero]
    have hd:L.drop w=L[w]::L.drop (w+1):=List.drop_eq_getElem_cons hwr
    rw[hd];simp only[List.append_assoc,List.cons_append,List.nil_append]
   rw[hset]at hb4
   exact hb4
  ·obtain rfl:w=u:=by omega
   refine hk st3 (L.take w++x::L.drop w) ?_ (Sq JR Ly (by rw[List.take_append_drop];exact hs) h1 h2) (by simpa using hb3) e3
   refine List.perm_middle.trans ?_
   rw[List.take_append_drop]
   exact List.perm_append_comm (l₁:=[x])
end
end
section
section
variable {b n cap:Nat}
theorem MW {cmp:TV} (hc:Nr cmp) (hn:n<=100000000):∀(N:Nat) {st:St} {P L R Q:List (List TV)} {A M B:Int} {K:St->Prop},L.length+R.length<=N->0<L.length->0<R.length->BxF st b n cap (P++L++R++Q)->Srt lek L->Srt lek R->
  A=(P.length:Int)->M=((P.length+L.length:Nat):Int)->B=((P.length+L.length+R.length:Nat):Int)->
  (∀st' W,W.Perm (L++R)->Srt lek W->BxF st' b n cap (P++W++Q)->StX (·=b) st st'->K st')->
  CallT PR Aj [.ms 14 b 0 n cap,.int .i64 A,.int .i64 M,.int .i64 B,cmp] [] st K:=by
 intro N
 induction N with
 | zero=>intro st P L R Q A M B K h0 h1;omega
 | succ N ih=>
 intro st P L R Q A M B K hN hL hR h sL sR hA hM hB hk
 have hlen:=h.len
 simp only[List.length_append]at hlen
 by_cases hL1:L.length=1
 ·obtain⟨x,rfl⟩:=List.length_eq_one_iff.1 hL1
  exact sm_one hc h hn sR hR hA (by simpa using hM) (by simpa using hB) hk
 by_cases hR1:R.length=1
 ·obtain⟨x,rfl⟩:=List.length_eq_one_iff.1 hR1
  exact sm_two hc h hn sL (by omega) hA hM (by simpa using hB) hk
 subst hA hM hB
 refine A9 _ _ _ _ cmp st K (Aa (fun g=>absurd g (by rw[Ai _ (by omega) (by omega)];omega)) fun _=>Aa (fun g=>absurd g (by rw[Ai _ (by omega) (by omega)];omega)) fun _=>?_)
 obtain⟨H,hH⟩:∃H,H=(L.length+R.length)/2:=⟨_,rfl⟩
 have hmid:=LC P.length (P.length+L.length+R.length) (by omega)
 have hmid2:(P.length+(P.length+L.length+R.length))/2=P.length+H:=by omega
 rw[hmid2]at hmid
 rw[hmid]
 --the bounds of the search
 obtain⟨u0,v0,hb0⟩:∃u0 v0:Nat,(P.length+H<P.length+L.length->u0=H-R.length/\v0=H)/\(¬P.length+H<P.length+L.length->u0=0/\v0=L.length):=by
  by_cases g:P.length+H<P.length+L.length
  ·exact⟨H-R.length,H,fun _=>⟨rfl,rfl⟩,fun g'=>absurd g g'⟩
  ·exact⟨0,L.length,fun g'=>absurd g' g,fun _=>⟨rfl,rfl⟩⟩
 have hnw:i64.wrap (((P.length+H:Nat):Int)+((P.length+L.length:Nat):Int))=((P.length+H+(P.length+L.length):Nat):Int):=by rw[Ai _ (by omega) (by omega)];omega
 rw[hnw]
 refine⟨fun s r d a m b' c mid n' st'=>d= .ms 14 b 0 n cap/\a=(P.length:Int)/\m=((P.length+L.length:Nat):Int)/\b'=((P.length+L.length+R.length:Nat):Int)/\cmp=c/\mid=((P.length+H:Nat):Int)/\n'=((P.length+H+(P.length+L.length):Nat):Int)/\st=st'/\s=((P.length+u0:Nat):Int)/\r=((P.length+v0:Nat):Int),?_,?_⟩
 ·refine Aa (fun g=>?_) fun g=>?_
  ·obtain⟨h1,h2⟩:=hb0.1 (by omega)
   exact⟨rfl,rfl,rfl,rfl,rfl,rfl,rfl,rfl,by rw[Ai _ (by omega) (by omega)];omega,by omega⟩
  ·obtain⟨h1,h2⟩:=hb0.2 (by omega)
   exact⟨rfl,rfl,rfl,rfl,rfl,rfl,rfl,rfl,by omega,by omega⟩
 rintro _ _ _ _ _ _ _ _ _ _ ⟨rfl,rfl,rfl,rfl,rfl,rfl,rfl,rfl,rfl,rfl⟩
 have hu0:u0<=v0/\v0<=L.length/\v0<=H/\H<=u0+R.length:=by
  by_cases g:P.length+H<P.length+L.length
  ·obtain⟨h1,h2⟩:=hb0.1 g;omega
  ·obtain⟨h1,h2⟩:=hb0.2 g;omega
 obtain⟨q1,q2,q3,q4⟩:=hu0
 refine⟨fun s r d a m b' c mid n' p st'=>d= .ms 14 b 0 n cap/\a=(P.length:Int)/\m=((P.length+L.length:Nat):Int)/\b'=((P.length+L.length+R.length:Nat):Int)/\cmp=c/\mid=((P.length+H:Nat):Int)/\n'=((P.length+H+(P.length+L.length):Nat):Int)/\p=((P.length+H+(P.length+L.length):Nat):Int)-1/\
   ∃u v:Nat,s=((P.length+u:Nat):Int)/\r=((P.length+v:Nat):Int)/\u0<=u/\u<=v/\v<=v0/\(∀x,(L.take u).getLast? =some x->∀y,(R.drop (H-u)).head? =some y->lek x y)/\(∀x,(R.take (H-v)).getLast? =some x->∀y,(L.drop v).head? =some y->lek x y)/\BxF st' b n cap (P++L++R++Q)/\StX (·=b) st st',
  fun s r _ _ _ _ _ _ _ _ _=>(r-s).toNat,⟨rfl,rfl,rfl,rfl,rfl,rfl,rfl,by rw[Ai _ (by omega) (by omega)],u0,v0,rfl,rfl,Nat.le_refl _,q1,Nat.le_refl _,?_,?_,h,StX.refl _ _⟩,?_⟩
 ·intro x hx y hy
  by_cases g:P.length+H<P.length+L.length
  ·obtain⟨h1,h2⟩:=hb0.1 g
   rw[List.drop_of_length_le (by omega)]at hy;simp at hy
  ·obtain⟨h1,h2⟩:=hb0.2 g
   rw[h1]at hx;simp at hx
 ·intro x hx y hy
  by_cases g:P.length+H<P.length+L.length
  ·obtain⟨h1,h2⟩:=hb0.1 g
   rw[h2,Nat.sub_self]at hx;simp at hx
  ·obtain⟨h1,h2⟩:=hb0.2 g
   rw[h2,List.drop_length]at hy;simp at hy
 rintro _ _ _ _ _ _ _ _ _ _ st1 ⟨rfl,rfl,rfl,rfl,rfl,rfl,rfl,rfl,u,v,rfl,rfl,hu,huv,hv,j1,j2,hb,e⟩
 refine Aa (fun g=>?_) fun g=>?_
 ·--one step of the search
  rw[LC _ _ (by omega)]
  obtain⟨w,hw⟩:∃w,(P.length+u+(P.length+v))/2=P.length+w:=⟨(u+v)/2,by omega⟩
  have hwu:u<=w:=by omega
  have hwv:w<v:=by omega
  have hwl:w<L.length:=by omega
  have hwr:H-w-1<R.length:=by omega
  rw[hw]
  have wp:i64.wrap (((P.length+H+(P.length+L.length):Nat):Int)-1-((P.length+w:Nat):Int))=((P.length+L.length+(H-w-1):Nat):Int):=by rw[Ai _ (by omega) (by omega)];omega
  rw[wp]
  have gy:(P++L++R++Q)[P.length+w]? =some L[w]:=by
   rw[List.append_assoc,List.append_assoc,List.getElem?_append_right (by omega),List.getElem?_append_left (by omega),Nat.add_sub_cancel_left]
   exact List.getElem?_eq_getElem hwl
  have gx:(P++L++R++Q)[P.length+L.length+(H-w-1)]? =some R[H-w-1]:=by
   rw[List.append_assoc (P++L),List.getElem?_append_right (by rw[List.length_append];omega),List.length_append,Nat.add_sub_cancel_left,List.getElem?_append_left hwr]
   exact List.getElem?_eq_getElem hwr
  have ly:L[w]? =some L[w]:=List.getElem?_eq_getElem hwl
  have lx:R[H-w-1]? =some R[H-w-1]:=List.getElem?_eq_getElem hwr
  refine S8 hc hb rfl rfl gx gy fun r st2 e2 hr=>?_
  have hb2:=hb.ext e2
  have e12:=e.trans (StX.of e2)
  refine Ap (fun g3=>?_) fun g3=>?_
  ·refine⟨⟨rfl,rfl,rfl,rfl,rfl,rfl,rfl,rfl,w+1,v,by rw[Ai _ (by omega) (by omega)];omega,rfl,by omega,by omega,hv,fun x hx y hy=>?_,j2,hb2,e12⟩,by dsimp only;rw[Ai _ (by omega) (by omega)];omega⟩
   rw[FT ly]at hx;cases hx
   rw[show H-(w+1)=H-w-1 by omega,JT lx]at hy;cases hy
   cases hq:Op.bytesLess (Fk R[H-w-1]) (Fk L[w])with
   | true=>have:=hr.2 hq;simp at g3;omega
   | false=>exact hq
  ·refine⟨⟨rfl,rfl,rfl,rfl,rfl,rfl,rfl,rfl,u,w,rfl,rfl,hu,hwu,by omega,j1,fun x hx y hy=>?_,hb2,e12⟩,by dsimp only;omega⟩
   rw[show H-w=H-w-1+1 by omega,FT lx]at hx;cases hx
   rw[JT ly]at hy;cases hy
   exact GH (hr.1 (by simpa using g3))
 ·obtain rfl:u=v:=by omega
  obtain⟨E,hE⟩:∃E,E=H-u:=⟨_,rfl⟩
  rw[<-hE]at j1 j2
  have wend:i64.wrap (((P.length+H+(P.length+L.length):Nat):Int)-((P.length+u:Nat):Int))=((P.length+L.length+E:Nat):Int):=by rw[Ai _ (by omega) (by omega)];omega
  rw[wend]
  have hER:E<=R.length:=by omega
  have huL:u<=L.length:=by omega
  have dL:L=L.take u++L.drop u:=(List.take_append_drop _ _).symm
  have dR:R=R.take E++R.drop E:=(List.take_append_drop _ _).symm
  have a1:(L.take u).length=u:=by simp;omega
  have a2:(L.drop u).length=L.length-u:=by simp
  have a3:(R.take E).length=E:=by simp;omega
  have a4:(R.drop E).length=R.length-E:=by simp
  generalize hL1':L.take u=L1 at*
  generalize hL2':L.drop u=L2 at*
  generalize hR1':R.take E=R1 at*
  generalize hR2':R.drop E=R2 at*
  have sL':Srt lek (L1++L2):=dL▸sL
  have sR':Srt lek (R1++R2):=dR▸sR
  obtain⟨z1,z2,_⟩:=List.pairwise_append.1 sL'
  obtain⟨z3,z4,_⟩:=List.pairwise_append.1 sR'
  --the second half
  have second:∀st2 W1,W1.Perm (L1++R1)->Srt lek W1->BxF st2 b n cap (P++W1++L2++R2++Q)->StX (·=b) st st2->
    BIf (decide (((P.length+H:Nat):Int)<((P.length+L.length+E:Nat):Int))) (BIf (decide (((P.length+L.length+E:Nat):Int)<((P.length+L.length+R.length:Nat):Int)))
     (CallT PR Aj [.ms 14 b 0 n cap,.int .i64 ((P.length+H:Nat):Int),.int .i64 ((P.length+L.length+E:Nat):Int),.int .i64 ((P.length+L.length+R.length:Nat):Int),cmp] [] st2 (fun s=>K s)) (K st2)) (K st2):=by
   intro st2 W1 p1 s1 hb2 e2
   have lw:=p1.length_eq
   rw[List.length_append]at lw
   have fin:∀st3 W2,W2.Perm (L2++R2)->Srt lek W2->BxF st3 b n cap (P++W1++W2++Q)->StX (·=b) st st3->K st3:=fun st3 W2 p2 s2 hb3 e3=>by
    obtain⟨t1,t2⟩:=VK JR Ly sL' sR' j2 j1 p1 p2 s1 s2
    exact hk st3 (W1++W2) (by rw[dL,dR];exact t1) t2 (by simpa using hb3) e3
   refine Aa (fun g1=>Aa (fun g2=>?_) fun g2=>?_) fun g1=>?_
   ·refine ih (P:=P++W1) (L:=L2) (R:=R2) (Q:=Q) (by omega) (by omega) (by omega) hb2 z2 z4 (by rw[List.length_append];omega) (by rw[List.length_append];omega) (by rw[List.length_append];omega) fun st3 W2 p2 s2 hb3 e3=>fin st3 W2 p2 s2 hb3 (e2.trans e3)
   ·have:R2=[]:=List.eq_nil_of_length_eq_zero (by omega)
    subst this
    exact fin st2 L2 (by simp) z2 (by simpa using hb2) e2
   ·have:L2=[]:=List.eq_nil_of_length_eq_zero (by omega)
    subst this
    exact fin st2 R2 (by simp) z4 (by simpa using hb2) e2
  --both halves
  have both:∀st2,BxF st2 b n cap (P++L1++R1++L2++R2++Q)->StX (·=b) st st2->
    (∀W1 st3,W1.Perm (L1++R1)->Srt lek W1->BxF st3 b n cap (P++W1++L2++R2++Q)->StX (·=b) st st3->True):=fun _ _ _ _ _ _ _ _ _=>trivial
  have firstCall:∀(st2:St) (K':St->Prop),0<L1.length->0<R1.length->BxF st2 b n cap (P++L1++R1++L2++R2++Q)->(∀st3 W1,W1.Perm (L1++R1)->Srt lek W1->BxF st3 b n cap (P++W1++L2++R2++Q)->StX (·=b) st2 st3->K' st3)->
    CallT PR Aj [.ms 14 b 0 n cap,.int .i64 (P.length:Int),.int .i64 ((P.length+u:Nat):Int),.int .i64 ((P.length+H:Nat):Int),cmp] [] st2 K':=by
   intro st2 K' y1 y2 hb2 hK'
   exact ih (P:=P) (L:=L1) (R:=R1) (Q:=L2++R2++Q) (by omega) y1 y2 (by simpa using hb2) z1 z3 rfl (by omega) (by omega) fun st3 W1 p1 s1 hb3 e3=>hK' st3 W1 p1 s1 (by simpa using hb3) e3
  have hb':BxF st1 b n cap (P++(L1++L2)++(R1++R2)++Q):=by rw[<-dL,<-dR];exact hb
  refine Aa (fun g1=>Aa (fun g2=>?_) fun g2=>?_) fun g1=>?_
  ·refine Yx (P:=P++L1) (U:=L2) (V:=R1) (Q:=R2++Q) (by simpa using hb') hn (by omega) (by omega) (by rw[List.length_append];omega) (by rw[List.length_append];omega) (by rw[List.length_append];omega) fun st2 hb2 e2=>?_
   have hb2':BxF st2 b n cap (P++L1++R1++L2++R2++Q):=by simpa using hb2
   have e12:=e.trans e2
   refine Aa (fun g3=>Aa (fun g4=>?_) fun g4=>?_) fun g3=>?_
   ·exact firstCall st2 _ (by omega) (by omega) hb2' fun st3 W1 p1 s1 hb3 e3=>second st3 W1 p1 s1 hb3 (e12.trans e3)
   ·have:R1=[]:=List.eq_nil_of_length_eq_zero (by omega)
    subst this
    exact second st2 L1 (by simp) z1 (by simpa using hb2') e12
   ·have:L1=[]:=List.eq_nil_of_length_eq_zero (by omega)
    subst this
    exact second st2 R1 (by simp) z3 (by simpa using hb2') e12
  ·have hR0:R1=[]:=List.eq_nil_of_length_eq_zero (by omega)
   subst hR0
   have hb2':BxF st1 b n cap (P++L1++[]++L2++R2++Q):=by simpa using hb'
   refine Aa (fun g3=>Aa (fun g4=>?_) fun g4=>?_) fun g3=>?_
   ·exact absurd g4 (by simp at a3;omega)
   ·exact second st1 L1 (by simp) z1 (by simpa using hb2') e
   ·exact second st1 L1 (by simp) z1 (by simpa using hb2') e
  ·have hL0:L2=[]:=List.eq_nil_of_length_eq_zero (by omega)
   subst hL0
   have hb2':BxF st1 b n cap (P++L1++R1++[]++R2++Q):=by simpa using hb'
   refine Aa (fun g3=>Aa (fun g4=>?_) fun g4=>?_) fun g3=>?_
   ·exact firstCall st1 _ (by omega) (by omega) hb2' fun st3 W1 p1 s1 hb3 e3=>second st3 W1 p1 s1 hb3 (e.trans e3)
   ·have:R1=[]:=List.eq_nil_of_length_eq_zero (by omega)
    subst this
    exact second st1 L1 (by simp) z1 (by simpa using hb2') e
   ·have:L1=[]:=List.eq_nil_of_length_eq_zero (by omega)
    subst this
    exact second st1 R1 (by simp) z3 (by simpa using hb2') e
end
end
section
def SB (bs:Nat) (l:List (List TV)):Prop:=∀k,Srt lek ((l.drop (k*bs)).take bs)
theorem SB.nil (bs:Nat):SB bs []:=fun k=>by simp only[List.drop_nil,List.take_nil];exact List.Pairwise.nil
theorem SB.app {bs q:Nat} {S M:List (List TV)} (h:SB bs S) (hq:S.length=q*bs) (hm:M.length<=bs) (hs:Srt lek M):SB bs (S++M):=fun k=>by
 rcases Nat.lt_trichotomy k q with hk | hk | hk
 ·have:(k+1)*bs<=q*bs:=Nat.mul_le_mul_right _ hk
  rw[Nat.add_mul,Nat.one_mul]at this
  rw[List.drop_append_of_le_length (by omega),List.take_append_of_le_length (by rw[List.length_drop];omega)]
  exact h k
 ·subst hk
  rw[<-hq,List.drop_left,List.take_of_length_le hm]
  exact hs
 ·have:(q+1)*bs<=k*bs:=Nat.mul_le_mul_right _ hk
  rw[Nat.add_mul,Nat.one_mul]at this
  rw[List.drop_of_length_le (by rw[List.length_append];omega),List.take_nil]
  exact List.Pairwise.nil
theorem SB.drop {bs q:Nat} {l:List (List TV)} (h:SB bs l):SB bs (l.drop (q*bs)):=fun k=>by
 rw[List.drop_drop,<-Nat.add_mul]
 exact h (q+k)
theorem SB.all {bs:Nat} {l:List (List TV)} (h:SB bs l) (hl:l.length<=bs):Srt lek l:=by
 have:=h 0
 rw[Nat.zero_mul,List.drop_zero,List.take_of_length_le hl]at this
 exact this
section
variable {st:St} {b n cap:Nat}
theorem Yo {cmp:TV} (hc:Nr cmp) {D0:List (List TV)} (h:BxF st b n cap D0) (hn:n<=100000000) {N:Int} (hN:N=(n:Int)) {K:St->Prop} (hk:∀st' W,W.Perm D0->Srt lek W->BxF st' b n cap W->StX (·=b) st st'->K st'):
  CallT PR AZ [.ms 14 b 0 n cap,.int .i64 N,cmp] [] st K:=by
 have hlen:=h.len
 subst hN
 refine B1 _ _ cmp st K ⟨fun a b' d n' c bs st'=>d= .ms 14 b 0 n cap/\n'=(n:Int)/\cmp=c/\bs=20/\∃(q:Nat) (S T:List (List TV)),a=((q*20:Nat):Int)/\b'=((q*20+20:Nat):Int)/\q*20<=n/\S.length=q*20/\SB 20 S/\(S++T).Perm D0/\BxF st' b n cap (S++T)/\StX (·=b) st st',
  fun a _ _ _ _ _ _=>(n-a).toNat,⟨rfl,rfl,rfl,rfl,0,[],D0,by omega,by omega,by omega,rfl,SB.nil _,by simp,by simpa using h,StX.refl _ _⟩,?_⟩
 rintro _ _ _ _ _ _ st1 ⟨rfl,rfl,rfl,rfl,q,S,T,rfl,rfl,hqn,hS,sb,hp,hb,e⟩
 have hl1:=hb.len
 rw[List.length_append]at hl1
 refine Aa (fun g=>?_) fun g=>?_
 ·have hT:T=T.take 20++T.drop 20:=(List.take_append_drop _ _).symm
  have lx:(T.take 20).length=20:=by simp;omega
  generalize T.take 20=X at*
  generalize T.drop 20=Y at*
  subst hT
  refine LB (P:=S) (L:=X) (Q:=Y) hc (by simpa using hb) hn (by omega) (by omega) fun st2 M pm sm hb2 e2=>?_
  have lm:=pm.length_eq
  refine⟨⟨rfl,rfl,rfl,rfl,q+1,S++M,Y,by omega,by rw[Ai _ (by omega) (by omega)];omega,by omega,by rw[List.length_append];omega,sb.app hS (by omega) sm,?_,hb2,e.trans e2⟩,by dsimp only;omega⟩
  rw[List.append_assoc]
  exact((pm.append_right Y).append_left S).trans hp
 ·refine LB (P:=S) (L:=T) (Q:=[]) hc (by simpa using hb) hn (by omega) (by omega) fun st2 M pm sm hb2 e2=>?_
  have lm:=pm.length_eq
  rw[List.append_nil]at hb2
  refine⟨fun bs d n' c st'=>d= .ms 14 b 0 n cap/\n'=(n:Int)/\cmp=c/\∃(s:Nat) (D:List (List TV)),bs=(s:Int)/\20<=s/\s<=200000020/\SB s D/\D.Perm D0/\BxF st' b n cap D/\StX (·=b) st st',
   fun bs _ _ _ _=>(n-bs).toNat,⟨rfl,rfl,rfl,20,S++M,rfl,Nat.le_refl _,by omega,sb.app hS (by omega) sm,(pm.append_left S).trans hp,hb2,e.trans e2⟩,?_⟩
  rintro _ _ _ _ st3 ⟨rfl,rfl,rfl,s,D,rfl,hs20,hsm,sbD,pD,hbD,eD⟩
  have hlD:=hbD.len
  refine Aa (fun g2=>?_) fun g2=>hk st3 D pD (sbD.all (by omega)) hbD eD
  have w2:i64.wrap (2*(s:Int))=((2*s:Nat):Int):=by rw[Ai _ (by omega) (by omega)];omega
  have ws2:i64.wrap ((s:Int)*2)=((2*s:Nat):Int):=by rw[Ai _ (by omega) (by omega)];omega
  refine⟨fun a b' d n' c bs st'=>d= .ms 14 b 0 n cap/\n'=(n:Int)/\cmp=c/\bs=(s:Int)/\∃(q:Nat) (S T:List (List TV)),a=((q*(2*s):Nat):Int)/\b'=((q*(2*s)+2*s:Nat):Int)/\q*(2*s)<=n/\S.length=q*(2*s)/\SB (2*s) S/\SB s T/\(S++T).Perm D0/\BxF st' b n cap (S++T)/\StX (·=b) st st',
   fun a _ _ _ _ _ _=>(n-a).toNat,⟨rfl,rfl,rfl,rfl,0,[],D,by simp,by rw[w2];simp,by omega,by simp,SB.nil _,sbD,by simpa using pD,by simpa using hbD,eD⟩,?_⟩
  rintro _ _ _ _ _ _ st4 ⟨rfl,rfl,rfl,rfl,q2,S2,T2,rfl,rfl,hq2,hS2,sbS,sbT,p2,hb4,e4⟩
  have hl4:=hb4.len
  rw[List.length_append]at hl4
  generalize hQ:q2*(2*s)=Qn at*
  have d1:=sbT 0
  have d2:=sbT 1
  rw[Nat.zero_mul,List.drop_zero]at d1
  rw[Nat.one_mul]at d2
  refine Aa (fun g3=>?_) fun g3=>?_
  ·rw[w2]
   have wa:i64.wrap ((Qn:Int)+(s:Int))=((Qn+s:Nat):Int):=by rw[Ai _ (by omega) (by omega)];omega
   rw[wa]
   have sb3:SB s (T2.drop (2*s)):=SB.drop (q:=2) sbT
   have hT:T2=T2.take s++((T2.drop s).take s++T2.drop (2*s)):=by
    have:T2.drop (2*s)=(T2.drop s).drop s:=by rw[List.drop_drop];congr 1;omega
    rw[this,List.take_append_drop,List.take_append_drop]
   have lx:(T2.take s).length=s:=by simp;omega
   have ly:((T2.drop s).take s).length=s:=by simp;omega
   generalize T2.take s=X at*
   generalize (T2.drop s).take s=Y at*
   generalize T2.drop (2*s)=Z at*
   subst hT
   refine MW hc hn _ (P:=S2) (L:=X) (R:=Y) (Q:=Z) (Nat.le_refl _) (by omega) (by omega) (by simpa using hb4) d1 d2 (by omega) (by omega) (by omega) fun st5 W pw sw hb5 e5=>?_
   have lw:=pw.length_eq
   rw[List.length_append]at lw
   refine⟨⟨rfl,rfl,rfl,rfl,q2+1,S2++W,Z,by rw[Nat.add_mul,hQ];omega,by rw[Ai _ (by omega) (by omega),Nat.add_mul,hQ];omega,by rw[Nat.add_mul,hQ];omega,by rw[List.length_append,Nat.add_mul,hQ];omega,sbS.app (by rw[hQ];exact hS2) (by omega) sw,sb3,?_,hb5,e4.trans e5⟩,by dsimp only;omega⟩
   refine List.Perm.trans ?_ p2
   rw[List.append_assoc]
   exact((pw.append_right Z).append_left S2).trans (by simp)
  ·have wa:i64.wrap ((Qn:Int)+(s:Int))=((Qn+s:Nat):Int):=by rw[Ai _ (by omega) (by omega)];omega
   rw[wa,ws2]
   refine Aa (fun g4=>?_) fun g4=>?_
   ·have hT:T2=T2.take s++T2.drop s:=(List.take_append_drop _ _).symm
    have lx:(T2.take s).length=s:=by simp;omega
    have ly:(T2.drop s).length=T2.length-s:=by simp
    rw[List.take_of_length_le (by omega)]at d2
    generalize T2.take s=X at*
    generalize T2.drop s=Y at*
    subst hT
    rw[List.length_append]at*
    refine MW hc hn _ (P:=S2) (L:=X) (R:=Y) (Q:=[]) (Nat.le_refl _) (by omega) (by omega) (by simpa using hb4) d1 d2 (by omega) (by omega) (by omega) fun st5 W pw sw hb5 e5=>?_
    have lw:=pw.length_eq
    rw[List.length_append]at lw
    rw[List.append_nil]at hb5
    exact⟨⟨rfl,rfl,rfl,2*s,S2++W,rfl,by omega,by omega,sbS.app (by rw[hQ];exact hS2) (by omega) sw,(pw.append_left S2).trans p2,hb5,e4.trans e5⟩,by dsimp only;omega⟩
   ·refine⟨⟨rfl,rfl,rfl,2*s,S2++T2,rfl,by omega,by omega,sbS.app (by rw[hQ];exact hS2) (by omega) (sbT.all (by omega)),p2,hb4,e4⟩,by dsimp only;omega⟩
theorem Qu {cmp:TV} (hc:Nr cmp) {D0:List (List TV)} (h:BxF st b n cap D0) (hn:n<=100000000) {K:St->Prop} (hk:∀st' W,W.Perm D0->Srt lek W->BxF st' b n cap W->StX (·=b) st st'->K st'):
  CallT PR AB [.ms 14 b 0 n cap,cmp] [] st K:=
 Ba _ cmp st K (Ab rfl (Yo hc h hn rfl hk))
end
end
theorem Bf {g:Ghost} {w:World} {l:B8} {v:Value} (h:Rel g w (.str l) v):v= .string ⟨l.toArray⟩:=by cases h;rfl
theorem Un {g:Ghost} {w:World} {k:IntKind} {n:Int} {v:Value} (h:Rel g w (.int k n) v):v= .int k n:=by cases h;rfl
theorem Uo {g:Ghost} {w:World} {x:TV} {vs:List Value} (h:AR g w [x] vs):∃v,vs=[v]/\Rel g w x v:=by
 obtain⟨v,h1,h2⟩:=h.get? (i:=0) rfl
 have:=h.1
 cases vs with
 | nil=>simp at this
 | cons a r=>cases r with
  | nil=>simp at h1;subst h1;exact⟨_,rfl,h2⟩
  | cons b r=>simp at this
theorem Lq {g:Ghost} {w:World} {x y:TV} {vs:List Value} (h:AR g w [x,y] vs):∃v u,vs=[v,u]/\Rel g w x v/\Rel g w y u:=by
 obtain⟨v,h1,h2⟩:=h.get? (i:=0) rfl
 obtain⟨u,h3,h4⟩:=h.get? (i:=1) rfl
 have:=h.1
 cases vs with
 | nil=>simp at this
 | cons a r=>cases r with
  | nil=>simp at this
  | cons b r=>cases r with
   | nil=>simp at h1 h3;subst h1 h3;exact⟨_,_,rfl,h2,h4⟩
   | cons c r=>simp at this
theorem LO:∀a b:B8,Lib.compareBytes a b<0↔Op.bytesLess a b=true
 | [],[]=>by simp[Lib.compareBytes,Op.bytesLess]
 | [],_::_=>by simp[Lib.compareBytes,Op.bytesLess]
 | _::_,[]=>by simp[Lib.compareBytes,Op.bytesLess]
 | a::x,b::y=>by
  unfold Lib.compareBytes Op.bytesLess
  by_cases h1:a<b
  ·simp[h1]
  ·by_cases h2:b<a
   ·have hne:a≠b:=fun e=>by subst e;exact UInt8.lt_irrefl _ h2
    simp[h1,h2,hne]
   ·have he:a=b:=UInt8.le_antisymm (UInt8.not_lt.1 h2) (UInt8.not_lt.1 h1)
    subst he
    simp[h1,LO x y]
theorem WM {a b:B8} {st:St} {K:Int->St->Prop} (hk:K (Lib.compareBytes a b) st):CallT PR Gk [.str a,.str b] [.one (.int .i64)] st K:=by
 refine CI (fun _ _=>by kernel_rfl) fun g w vargs s hr=>?_
 obtain⟨v,u,rfl,hv,hu⟩:=Lq hr
 rw[Bf hv,Bf hu]
 refine Calls.mono (Tryz.strings_Compare ⟨a.toArray⟩ ⟨b.toArray⟩ w) ?_
 rintro e w' ⟨rfl,rfl⟩
 exact⟨_,rfl,.int .i64 _,st,g,hk,s,Rel.int _ _,Ext.refl _ _⟩
theorem T9:Nr (.func Dh []):=by
 intro c d st K hc hd hk
 obtain⟨kx,n1,b1,b2,s2,n2,n3,n4,n5,n6,s3,u1,u2,u3,rfl,_⟩:=hc
 obtain⟨ky,m1,c1,c2,t2,m2,m3,m4,m5,m6,t3,v1,v2,v3,rfl,_⟩:=hd
 exact KY _ _ _ _ _ _ _ _ _ _ _ _ _ _ _ _ _ _ _ _ _ _ _ _ _ _ _ _ st K (WM (hk _ st (Am.refl _) (LO _ _)))
section
inductive Fv {α β:Type} (R:α->β->Prop):List α->List β->Prop
 | nil:Fv R [] []
 | cons {a:α} {b:β} {l:List α} {m:List β}:R a b->Fv R l m->Fv R (a::l) (b::m)
theorem Fv.len {α β:Type} {R:α->β->Prop} {l:List α} {m:List β} (h:Fv R l m):l.length=m.length:=by
 induction h with
 | nil=>rfl
 | cons _ _ ih=>simp[ih]
theorem Fv.perm {α β:Type} {R:α->β->Prop} {m m':List β} (p:m'.Perm m):∀{l:List α},Fv R l m->∃l',l'.Perm l/\Fv R l' m':=by
 induction p with
 | nil=>intro l h;cases h;exact⟨[],.nil,.nil⟩
 | cons x p ih=>
  intro l h
  cases h with
  | cons r h=>obtain⟨l',p',h'⟩:=ih h;exact⟨_::l',p'.cons _,.cons r h'⟩
 | swap x y l0=>
  intro l h
  cases h with
  | cons r1 h=>cases h with
   | cons r2 h=>exact⟨_,List.Perm.swap _ _ _,.cons r2 (.cons r1 h)⟩
 | trans p1 p2 ih1 ih2=>
  intro l h
  obtain⟨l1,q1,h1⟩:=ih2 h
  obtain⟨l2,q2,h2⟩:=ih1 h1
  exact⟨l2,q2.trans q1,h2⟩
theorem FsR.chunks {st:St}:∀{f:List Fd} {xs:List TV},FsR st f xs->∃cks:List (List TV),xs=cks.flatten/\Fv (FdR st) f cks
 | [],xs,h=>by unfold FsR at h;subst h;exact⟨[],rfl,.nil⟩
 | d::r,xs,h=>by
  unfold FsR at h
  obtain⟨a,b,rfl,h1,h2⟩:=h
  obtain⟨cks,rfl,h3⟩:=FsR.chunks h2
  exact⟨a::cks,by simp,.cons h1 h3⟩
theorem FsR.of_chunks {st:St} {f:List Fd} {cks:List (List TV)} (h:Fv (FdR st) f cks):FsR st f cks.flatten:=by
 induction h with
 | nil=>unfold FsR;rfl
 | cons r _ ih=>unfold FsR;exact⟨_,_,by simp,r,ih⟩
theorem SlR.one {st:St} {sz n:Nat} {u:TV} {xs:List TV} (h:SlR st sz u n xs):As u=true:=by
 rcases h with(⟨rfl,_⟩ | ⟨tip,rfl⟩) | ⟨b,off,cap,l,rfl,_⟩<;>rfl
theorem FdR.ck {st:St} {d:Fd} {cs:List TV} (h:FdR st d cs):Ck cs/\Fk cs=d.key:=by
 cases d with
 | mk k v=>
  unfold FdR at h
  obtain⟨c,rfl,h⟩:=h
  cases v with
  | mk s l f=>
   unfold VlR at h
   obtain⟨ub,ul,uf,xl,xf,rfl,h1,h2,_,h3,_⟩:=h
   exact⟨⟨k,_,_,_,_,_,_,_,_,_,_,ub,ul,uf,rfl,h1.one,h2.one,h3.one⟩,rfl⟩
theorem Fv.cks {st:St} {f:List Fd} {cks:List (List TV)} (h:Fv (FdR st) f cks):∀c,c∈cks->Ck c:=by
 induction h with
 | nil=>intro c hc;cases hc
 | cons r _ ih=>
  intro c hc
  rcases List.mem_cons.1 hc with rfl | hc
  ·exact r.ck.1
  ·exact ih c hc
theorem SlR.src {st:St} {sz n:Nat} {u:TV} {xs:List TV} (h:SlR st sz u n xs) (hl:xs.length=n*sz):FH st sz u=some (n,xs):=by
 rcases h with(⟨rfl,rfl,rfl⟩ | ⟨tip,rfl⟩) | ⟨b,off,cap,l,rfl,h2,h3,h4,h5,rfl⟩
 ·rfl
 ·simp[FH]
 ·have hlt:n*sz<=cap*sz:=Nat.mul_le_mul_right _ h5
  have e:=JS (B:=l.drop (off+n*sz)) (st:=st) (b:=b) ((l.drop off).take (n*sz)) l 0 off h3 (by
   rw[Nat.add_zero,<-List.drop_drop,List.take_append_drop])
  rw[show((l.drop off).take (n*sz)).length=n*sz by simp;omega]at e
  simp only[FH,Nat.beq_refl]
  rw[e]
theorem FsR.all_one {st:St} {f:List Fd} {xs:List TV} (h:FsR st f xs):List.all xs As=true:=by
 obtain⟨cks,rfl,h2⟩:=h.chunks
 rw[List.all_flatten,List.all_eq_true]
 exact fun c hc=>(h2.cks c hc).one
theorem Am.keeps {a b:St} (h:Am a b):BG a b:=⟨h.nb,h.box⟩
section
variable {st:St}
theorem So {data cmp:TV} {K:St->Prop} (hk:K st):CallT PR AZ [data,.int .i64 0,cmp] [] st K:=by
 refine B1 _ _ cmp st K ⟨fun a b' d n' c bs st'=>a=0/\b'=20/\n'=0/\bs=20/\st=st',fun _ _ _ _ _ _ _=>0,⟨rfl,rfl,rfl,rfl,rfl⟩,?_⟩
 rintro _ _ _ _ _ _ _ ⟨rfl,rfl,rfl,rfl,rfl⟩
 refine Aa (fun g=>absurd g (by omega)) fun _=>?_
 refine Br _ _ _ _ st _ ⟨fun i _ _ b' _ st'=>i=1/\b'=0/\st=st',fun _ _ _ _ _ _=>0,⟨by rw[Ai _ (by omega) (by omega)];rfl,rfl,rfl⟩,?_⟩
 rintro _ _ _ _ _ _ ⟨rfl,rfl,rfl⟩
 refine Aa (fun g=>absurd g (by omega)) fun _=>?_
 refine⟨fun bs _ n' _ st'=>bs=20/\n'=0/\st=st',fun _ _ _ _ _=>0,⟨rfl,rfl,rfl⟩,?_⟩
 rintro _ _ _ _ _ ⟨rfl,rfl,rfl⟩
 exact Aa (fun g=>absurd g (by omega)) fun _=>hk
def QJ (f:List Fd):Prop:=f.Pairwise fun x y=>Op.bytesLess y.key x.key=false
theorem srtF_of {st:St} {f:List Fd} {cks:List (List TV)} (h:Fv (FdR st) f cks) (hs:Srt lek cks):QJ f:=by
 induction h with
 | nil=>exact List.Pairwise.nil
 | cons r t ih=>
  rename_i d c f' cks'
  obtain⟨h1,h2⟩:=List.pairwise_cons.1 hs
  refine List.pairwise_cons.2 ⟨fun x hx=>?_,ih h2⟩
  have:∀{l:List Fd} {m:List (List TV)},Fv (FdR st) l m->x∈l->∃y,y∈m/\FdR st x y:=by
   intro l m h
   induction h with
   | nil=>intro hx;cases hx
   | cons r _ ih=>
    intro hx
    rcases List.mem_cons.1 hx with rfl | hx
    ·exact⟨_,.head _,r⟩
    ·obtain⟨y,h1,h2⟩:=ih hx;exact⟨y,.tail _ h1,h2⟩
  obtain⟨y,hy,hxy⟩:=this t hx
  have:=h1 y hy
  unfold lek at this
  rw[hxy.ck.2,r.ck.2]at this
  exact this
end
end
def HO (st:St) (sz:Nat) (u:TV) (n:Nat) (xs:List TV) (bs:List Nat):Prop:=
 (n=0/\xs=[]/\bs=[]/\(u= .nilSlice∨u= .list sz .full 0 []))∨∃b cap tail,u= .ms sz b 0 n cap/\b<st.nb/\st.box b= .cells (xs++tail)/\(xs++tail).length=cap*sz/\xs.length=n*sz/\n<=cap/\bs=[b]
theorem HO.rd {st:St} {sz n:Nat} {u:TV} {xs:List TV} {bs:List Nat} (h:HO st sz u n xs bs):SlR st sz u n xs:=by
 rcases h with⟨rfl,rfl,rfl,rfl | rfl⟩ | ⟨b,cap,tail,rfl,h1,h2,h3,h4,h5,rfl⟩
 ·exact .inl (.inl ⟨rfl,rfl,rfl⟩)
 ·exact .inl (.inr ⟨_,rfl⟩)
 ·exact .inr ⟨b,0,cap,_,rfl,h1,h2,by omega,h5,by rw[List.drop_zero,<-h4,List.take_left]⟩
theorem VQ (xs ys tail:List TV) (h:ys.length<=tail.length):setAll (xs++tail) xs.length ys=xs++ys++tail.drop ys.length:=by
 have e:tail=tail.take ys.length++tail.drop ys.length:=(List.take_append_drop _ _).symm
 have:=H9 ys xs (tail.take ys.length) (tail.drop ys.length) (by simp;omega)
 rw[List.append_assoc,List.take_append_drop]at this
 exact this
theorem Zi {T sz bytes:Nat} {st:St} {u:TV} {n k:Nat} {xs ys:List TV} {bs:List Nat} {K:TV->St->Prop} (h:HO st sz u n xs bs) (hk1:0<k) (hy:ys.length=k*sz) (hby:(n+k)*bytes<=140737488355328)
  (hK:∀u' st' bs',HO st' sz u' (n+k) (xs++ys) bs'->StX (·∈bs) st st'->((bs'=bs/\bs≠ [])∨bs'=[st.nb])->K u' st'):LP T sz bytes u k ys st K:=by
 obtain⟨m,rfl⟩:∃m,k=m+1:=⟨k-1,by omega⟩
 have fresh:∀(zs:List TV) (N cap:Nat),zs.length=N*sz->N<=cap->HO (st.push (.cells (zs++Fl ((cap-N)*sz))) (some T)) sz (.ms sz st.nb 0 N cap) N zs [st.nb]:=fun zs N cap h1 h2=>
  .inr ⟨st.nb,cap,Fl ((cap-N)*sz),rfl,by simp[St.push],by simp[St.push],by rw[List.length_append,h1];simp only[Fl,List.length_replicate];rw[<-Nat.add_mul];congr 1;omega,h1,h2,rfl⟩
 rcases h with⟨rfl,rfl,rfl,rfl | rfl⟩ | ⟨b,cap,tail,rfl,h1,h2,h3,h4,h5,rfl⟩
 ·simp only[LP,At]
  refine⟨by simpa using hby,fun cap hc=>hK _ _ [st.nb] ?_ (StX.of ((Am.refl st).push _ _)) (.inr rfl)⟩
  have:=fresh ys (m+1) cap hy hc
  simpa using this
 ·simp only[LP,Nat.beq_refl]
  refine⟨hby,fun cap hc=>hK _ _ [st.nb] ?_ (StX.of ((Am.refl st).push _ _)) (.inr rfl)⟩
  have:=fresh ys (0+(m+1)) cap (by rw[hy];congr 1;omega) hc
  simpa using this
 ·simp only[LP,Nat.beq_refl]
  rw[List.length_append]at h3
  refine⟨hby,_,h2,by rw[List.length_append];omega,fun hc=>?_,fun hc cap' hc'=>?_⟩
  ·have hmul:(n+(m+1))*sz<=cap*sz:=Nat.mul_le_mul_right _ hc
   rw[Nat.add_mul]at hmul
   rw[Nat.zero_add,<-h4,VQ xs ys tail (by omega)]
   refine hK _ _ [b] (.inr ⟨b,cap,tail.drop ys.length,rfl,h1,by simp[St.put],by simp only[List.length_append,List.length_drop];omega,by rw[List.length_append,h4,hy,<-Nat.add_mul],hc,rfl⟩) (StX.put (S:=(·∈ [b])) (.head _) _) (.inl ⟨rfl,by simp⟩)
  ·rw[List.drop_zero,<-h4,List.take_left]
   exact hK _ _ [st.nb] (fresh (xs++ys) (n+(m+1)) cap' (by rw[List.length_append,h4,hy,<-Nat.add_mul]) hc') (StX.of ((Am.refl st).push _ _)) (.inr rfl)
section
mutual
def Vl.sz:Vl->Nat
 | .mk s l f=>1+s.bytes.length+s.text.length+s.dg.length+A3 l+BC f
def A3:List Vl->Nat
 | []=>0
 | v::r=>v.sz+A3 r
def Fd.sz:Fd->Nat
 | .mk k v=>k.length+v.sz
def BC:List Fd->Nat
 | []=>0
 | d::r=>d.sz+BC r
end
theorem Vl.sz_pos (v:Vl):1<=v.sz:=by cases v;unfold Vl.sz;omega
theorem DY:∀l:List Vl,l.length<=A3 l
 | []=>Nat.le_refl _
 | v::r=>by have:=DY r;have:=v.sz_pos;unfold A3;simp only[List.length_cons];omega
theorem EC:∀l:List Fd,l.length<=BC l
 | []=>Nat.le_refl _
 | .mk k v::r=>by have:=EC r;have:=v.sz_pos;unfold BC Fd.sz;simp only[List.length_cons];omega
theorem IV:∀{l:List Vl} {i:Nat} {v:Vl},l[i]? =some v->v.sz<=A3 l
 | [],i,v,h=>by simp at h
 | w::r,0,v,h=>by simp at h;subst h;unfold A3;omega
 | w::r,i+1,v,h=>by have:=IV (by simpa using h:r[i]? =some v);unfold A3;omega
theorem Jv:∀{l:List Fd} {i:Nat} {d:Fd},l[i]? =some d->d.sz<=BC l
 | [],i,v,h=>by simp at h
 | w::r,0,v,h=>by simp at h;subst h;unfold BC;omega
 | w::r,i+1,v,h=>by have:=Jv (by simpa using h:r[i]? =some v);unfold BC;omega
theorem Pm {st:St} {ys:List TV}:∀(k j:Nat),j+k<=ys.length->Ah st [] (.t (.rptr ys)) j k=some ((ys.drop j).take k)
 | 0,j,h=>by simp[Ah]
 | k+1,j,h=>by
  show(match Ad st [] (.t (.rptr ys)) j with | some x=>(Ah st [] (.t (.rptr ys)) (j+1) k).map (x::·) | none=>none)=_
  have hj:j<ys.length:=by omega
  have:Ad st [] (.t (.rptr ys)) j=some ys[j]:=by simp[Ad,hj]
  rw[this]
  simp only
  rw[Pm k (j+1) (by omega),List.drop_eq_getElem_cons hj]
  rfl
theorem SlR.ldc {st:St} {sz n i:Nat} {u:TV} {xs:List TV} (h:SlR st sz u n xs) (hl:xs.length=n*sz) (hi:i<n):Ah st [] (.t (ixT sz u i)) 0 sz=some ((xs.drop (i*sz)).take sz):=by
 have hm:(i+1)*sz<=n*sz:=Nat.mul_le_mul_right _ hi
 rw[Nat.add_mul,Nat.one_mul]at hm
 rcases h with(⟨rfl,rfl,rfl⟩ | ⟨tip,rfl⟩) | ⟨b,off,cap,l,rfl,h2,h3,h4,h5,rfl⟩
 ·omega
 ·show Ah st [] (.t (.rptr (xs.drop (i*sz)))) 0 sz=_
  rw[Pm sz 0 (by rw[List.length_drop];omega),List.drop_zero]
 ·have hc:n*sz<=cap*sz:=Nat.mul_le_mul_right _ h5
  have e1:(((l.drop off).take (n*sz)).drop (i*sz)).take sz=(l.drop (off+i*sz)).take sz:=by
   rw[List.drop_take,List.drop_drop,List.take_take,Nat.min_eq_left (by omega)]
  rw[e1]
  have e:=JS (B:=l.drop (off+i*sz+sz)) (st:=st) (b:=b) ((l.drop (off+i*sz)).take sz) l 0 (off+i*sz) h3 (by
   have:=List.take_append_drop sz (l.drop (off+i*sz))
   rw[List.drop_drop]at this
   rw[Nat.add_zero];exact this.symm)
  rw[show((l.drop (off+i*sz)).take sz).length=sz by simp;omega]at e
  exact e
theorem SlR.lenZ {st:St} {sz n:Nat} {u:TV} {xs:List TV} (h:SlR st sz u n xs):TVF.lenZ sz u=n:=by
 rcases h with(⟨rfl,rfl,rfl⟩ | ⟨tip,rfl⟩) | ⟨b,off,cap,l,rfl,h2,h3,h4,h5,rfl⟩
 ·rfl
 ·simp[TVF.lenZ]
 ·simp[TVF.lenZ]
theorem SlR.lenS {st:St} {sz n:Nat} {u:TV} {xs:List TV} (h:SlR st sz u n xs):TVF.lenS u=n:=by
 rcases h with(⟨rfl,rfl,rfl⟩ | ⟨tip,rfl⟩) | ⟨b,off,cap,l,rfl,h2,h3,h4,h5,rfl⟩<;>rfl
theorem SlR.isSl {st:St} {sz n:Nat} {u:TV} {xs:List TV} (h:SlR st sz u n xs):TVF.isSl u=true:=by
 rcases h with(⟨rfl,rfl,rfl⟩ | ⟨tip,rfl⟩) | ⟨b,off,cap,l,rfl,h2,h3,h4,h5,rfl⟩<;>rfl
theorem HO.nil (st:St) (sz:Nat):HO st sz .nilSlice 0 [] []:= .inl ⟨rfl,rfl,rfl,.inl rfl⟩
theorem decA13 {n1:Int} {b1 b2:Bool} {s2:B8} {n2 n3 n4 n5 n6:Int} {s3:B8} {u1 u2 u3:TV} {f:Fun [.int .i64,.bool,.bool,.str,.int .i64,.int .i64,.int .i64,.int .i64,.int .i64,.str,.tv,.tv,.tv] Prop} (h:f n1 b1 b2 s2 n2 n3 n4 n5 n6 s3 u1 u2 u3):
  AK [.int .i64,.bool,.bool,.str,.int .i64,.int .i64,.int .i64,.int .i64,.int .i64,.str,.tv,.tv,.tv] (.agg [.int .i64 n1,.bool b1,.bool b2,.str s2,.int .i64 n2,.int .i64 n3,.int .i64 n4,.int .i64 n5,.int .i64 n6,.str s3,u1,u2,u3]) f:=h
theorem Dg {n1:Int} {b1 b2:Bool} {s2:B8} {n2 n3 n4 n5 n6:Int} {s3:B8} {u1 u2 u3:TV} (h1:As u1=true) (h2:As u2=true) (h3:As u3=true):
  List.all [.int .i64 n1,.bool b1,.bool b2,.str s2,.int .i64 n2,.int .i64 n3,.int .i64 n4,.int .i64 n5,.int .i64 n6,.str s3,u1,u2,u3] As=true:=by
 simp only[List.all_cons,List.all_nil,h1,h2,h3,Bool.and_true];rfl
end
theorem Vl.cnt_pos (v:Vl):1<=v.cnt:=by cases v;unfold Vl.cnt;omega
theorem QO:∀{l:List Vl} {i:Nat} {v:Vl},l[i]? =some v->v.cnt<=AX l
 | [],i,v,h=>by simp at h
 | w::r,0,v,h=>by simp at h;subst h;unfold AX;omega
 | w::r,i+1,v,h=>by have:=QO (by simpa using h:r[i]? =some v);unfold AX;omega
theorem RA:∀{l:List Fd} {i:Nat} {d:Fd},l[i]? =some d->d.cnt<=Bg l
 | [],i,v,h=>by simp at h
 | w::r,0,v,h=>by simp at h;subst h;unfold Bg;omega
 | w::r,i+1,v,h=>by have:=RA (by simpa using h:r[i]? =some v);unfold Bg;omega
theorem one14 {k:B8} {n1:Int} {b1 b2:Bool} {s2:B8} {n2 n3 n4 n5 n6:Int} {s3:B8} {u1 u2 u3:TV} (h1:As u1=true) (h2:As u2=true) (h3:As u3=true):
  List.all [.str k,.int .i64 n1,.bool b1,.bool b2,.str s2,.int .i64 n2,.int .i64 n3,.int .i64 n4,.int .i64 n5,.int .i64 n6,.str s3,u1,u2,u3] As=true:=by
 simp only[List.all_cons,List.all_nil,h1,h2,h3,Bool.and_true];rfl
def Bo (s:Sc) (ub ul uf:TV):List TV:=[.int .i64 s.kind,.bool s.b,.bool s.neg,.str s.dg,.int .i64 s.ex,.int .i64 s.tk,.int .i64 s.td,.int .i64 s.tn,.int .i64 s.tz,.str s.text,ub,ul,uf]
section
theorem Xz:∀x y:B8,Op.bytesLess x y=false->Op.bytesLess y x=false->x=y
 | [],[],_,_=>rfl
 | [],b::y,h,_=>by cases h
 | a::x,[],_,h=>by cases h
 | a::x,b::y,h1,h2=>by
  simp only[Op.bytesLess,Bool.or_eq_false_iff,Bool.and_eq_false_iff,decide_eq_false_iff_not,beq_eq_false_iff_ne,UInt8.not_lt]at h1 h2
  have hab:a=b:=UInt8.le_antisymm h2.1 h1.1
  subst hab
  rw[Xz x y (h1.2.resolve_left fun h=>h rfl) (h2.2.resolve_left fun h=>h rfl)]
def KK (d:Fd):List Fd->List Fd
 | []=>[d]
 | x::r=>match Op.bytesLess d.key x.key with
  | true=>d::x::r
  | false=>x::KK d r
def Ei (f:List Fd):List Fd:=f.foldl (fun out d=>KK d out) []
theorem MB (d:Fd):∀l:List Fd,(KK d l).Perm (d::l)
 | []=>List.Perm.refl _
 | x::r=>by
  unfold KK
  split
  ·exact List.Perm.refl _
  ·exact((MB d r).cons x).trans (List.Perm.swap _ _ _)
theorem insF_mem {d x:Fd} {l:List Fd} (h:x∈KK d l):x=d∨x∈l:=by
 have:=(MB d l).mem_iff.1 h
 exact List.mem_cons.1 this
theorem UL (d:Fd):∀l:List Fd,QJ l->QJ (KK d l)
 | [],_=>List.pairwise_singleton _ _
 | x::r,h=>by
  obtain⟨h1,h2⟩:=List.pairwise_cons.1 h
  unfold KK
  split
  ·rename_i hl
   refine List.pairwise_cons.2 ⟨fun y hy=>?_,h⟩
   have hx:=KH _ _ hl
   rcases List.mem_cons.1 hy with rfl | hy
   ·exact hx
   ·exact Gh _ _ _ hx (h1 y hy)
  ·rename_i hl
   refine List.pairwise_cons.2 ⟨fun y hy=>?_,UL d r h2⟩
   rcases insF_mem hy with rfl | hy
   ·exact hl
   ·exact h1 y hy
theorem XE (f:List Fd):∀out:List Fd,QJ out->QJ (f.foldl (fun out d=>KK d out) out)/\(f.foldl (fun out d=>KK d out) out).Perm (out++f):=by
 induction f with
 | nil=>intro out h;exact⟨h,by simp⟩
 | cons d f ih=>
  intro out h
  obtain⟨h1,h2⟩:=ih (KK d out) (UL d out h)
  refine⟨h1,h2.trans ?_⟩
  refine((MB d out).append_right f).trans ?_
  simp only[List.cons_append]
  exact(List.perm_middle).symm
theorem OI (f:List Fd):QJ (Ei f):=(XE f [] List.Pairwise.nil).1
theorem En (f:List Fd):(Ei f).Perm f:=by
 have:=(XE f [] List.Pairwise.nil).2
 rw[List.nil_append]at this
 exact this
def BT (f:List Fd):Prop:=(f.map Fd.key).Nodup
theorem XA {f:List Fd} (h:BT f) {x y:Fd} (hx:x∈f) (hy:y∈f) (e:x.key=y.key):x=y:=by
 induction f with
 | nil=>cases hx
 | cons d f ih=>
  unfold BT at h
  rw[List.map_cons,List.nodup_cons]at h
  rcases List.mem_cons.1 hx with h1 | h1<;>rcases List.mem_cons.1 hy with h2 | h2
  ·rw[h1,h2]
  ·exact absurd (by rw[<-h1,e];exact List.mem_map_of_mem h2) h.1
  ·exact absurd (by rw[<-h2,<-e];exact List.mem_map_of_mem h1) h.1
  ·exact ih h.2 h1 h2
theorem T8:∀{l m:List Fd},BT l->QJ l->QJ m->l.Perm m->l=m
 | [],m,_,_,_,p=>(List.Perm.nil_eq p)
 | x::l,[],_,_,_,p=>by have:=p.length_eq;simp at this
 | x::l,y::m,hk,hl,hm,p=>by
  obtain⟨l1,l2⟩:=List.pairwise_cons.1 hl
  obtain⟨m1,m2⟩:=List.pairwise_cons.1 hm
  have hxy:x=y:=by
   have hy:y∈x::l:=p.mem_iff.2 (.head _)
   have hx:x∈y::m:=p.mem_iff.1 (.head _)
   refine XA hk (.head _) hy (Xz _ _ ?_ ?_)
   ·rcases List.mem_cons.1 hx with rfl | hx
    ·exact GG _
    ·exact m1 x hx
   ·rcases List.mem_cons.1 hy with rfl | hy
    ·exact GG _
    ·exact l1 y hy
  subst hxy
  unfold BT at hk
  rw[List.map_cons,List.nodup_cons]at hk
  rw[T8 hk.2 l2 m2 (List.Perm.cons_inv p)]
theorem QY {f f':List Fd} (hk:BT f) (p:f'.Perm f) (s:QJ f'):f'=Ei f:=
 T8 (((p.map Fd.key).nodup_iff).2 hk) s (OI f) (p.trans (En f).symm)
mutual
def DQ:Vl->Vl
 | .mk s l f=> .mk s (Je l) (Ei (Jf f))
def Je:List Vl->List Vl
 | []=>[]
 | v::r=>DQ v::Je r
def Jg:Fd->Fd
 | .mk k v=> .mk k (DQ v)
def Jf:List Fd->List Fd
 | []=>[]
 | d::r=>Jg d::Jf r
end
theorem Mf (d:Fd):(Jg d).key=d.key:=by cases d;rfl
theorem H7:∀f:List Fd,Jf f=f.map Jg
 | []=>by unfold Jf;rfl
 | d::r=>by unfold Jf;rw[H7 r];rfl
theorem H6:∀l:List Vl,Je l=l.map DQ
 | []=>by unfold Je;rfl
 | d::r=>by unfold Je;rw[H6 r];rfl
theorem UM {g:Fd->Fd} (hg:∀d,(g d).key=d.key) (d:Fd):∀l:List Fd,KK (g d) (l.map g)=(KK d l).map g
 | []=>rfl
 | x::r=>by
  rw[List.map_cons]
  unfold KK
  rw[hg,hg]
  cases Op.bytesLess d.key x.key with
  | true=>rfl
  | false=>simp only[List.map_cons];rw[UM hg d r]
theorem OK {g:Fd->Fd} (hg:∀d,(g d).key=d.key) (f:List Fd):Ei (f.map g)=(Ei f).map g:=by
 have key:∀(f out:List Fd),(f.map g).foldl (fun out d=>KK d out) (out.map g)=(f.foldl (fun out d=>KK d out) out).map g:=by
  intro f
  induction f with
  | nil=>intro out;rfl
  | cons d f ih=>intro out;simp only[List.map_cons,List.foldl_cons];rw[UM hg,ih]
 exact key f []
end
section
theorem Fv.map_left {α β γ:Type} {R:α->γ->Prop} {S:β->γ->Prop} {g:α->β} (h:∀a c,R a c->S (g a) c) {l:List α} {m:List γ} (hl:Fv R l m):Fv S (l.map g) m:=by
 induction hl with
 | nil=>exact .nil
 | cons r _ ih=>exact .cons (h _ _ r) ih
section
variable {st:St}
theorem VL {α:Type} {g:α->Fd} {R:α->List TV->Prop} {la:List α} {cks0:List (List TV)} (hR:∀a c,R a c->FdR st (g a) c) (hall0:Fv R la cks0) {s:Sc} {ub ul uf:TV} {f:List Fd} {xf:List TV} (hfe:f=la.map g) (hxe:xf=cks0.flatten) (hu:SlR st 14 uf f.length xf) (hn:f.length<=2000000) {K:TV->St->Prop}
  (hk:∀v st' (la':List α) (cks:List (List TV)) bs,la'.Perm la->QJ (la'.map g)->Am st st'->HO st' 14 v la'.length cks.flatten bs->Fv R la' cks->bs.Nodup->(∀x,x∈bs->st.nb<=x)->K v st'):
  CallT PR CV [.agg [.int .i64 s.kind,.bool s.b,.bool s.neg,.str s.dg,.int .i64 s.ex,.int .i64 s.tk,.int .i64 s.td,.int .i64 s.tn,.int .i64 s.tz,.str s.text,ub,ul,uf]] [.one .tv] st K:=by
 have hall1:Fv (FdR st) f cks0:=hfe▸Fv.map_left hR hall0
 have hf:FsR st f xf:=hxe▸FsR.of_chunks hall1
 have hl:=hf.len
 have hlal:la.length=f.length:=by rw[hfe,List.length_map]
 have hsl:isSl uf=true:=by rcases hu with(⟨rfl,_⟩ | ⟨tip,rfl⟩) | ⟨b,off,cap,l,rfl,_⟩<;>rfl
 refine Ns _ _ _ _ _ _ _ _ _ _ _ _ _ st K (Dn _ st _ (Ab hsl ?_))
 have empty:∀v,f=[]->isSl v=true->lenS v=0->(v= .nilSlice∨v= .list 14 .full 0 [])->CallT PR AB [v,.func Dh []] [] st fun st2=>K v st2:=by
  intro v h0 h1 h2 h3
  refine Ba _ _ st _ (Ab h1 ?_)
  rw[h2]
  refine So ?_
  have hla:la=[]:=List.eq_nil_of_length_eq_zero (by rw[hlal,h0];rfl)
  refine hk v st [] [] [] (by rw[hla]) List.Pairwise.nil (Am.refl _) (.inl ⟨rfl,rfl,rfl,?_⟩) .nil List.nodup_nil (fun x hx=>by cases hx)
  exact h3
 have hb:∀(X Y:Prop),(G4 uf=true->X)->(G4 uf=false->Y)->BIf (G4 uf) X Y:=by
  intro X Y h1 h2
  cases hq:G4 uf with
  | true=>exact h1 hq
  | false=>exact h2 hq
 refine hb _ _ (fun h=>?_) fun h=>?_
 ·have h0:f=[]:=by
   rcases hu with(⟨rfl,h1,_⟩ | ⟨tip,rfl⟩) | ⟨b,off,cap,l,rfl,_⟩
   ·exact List.eq_nil_of_length_eq_zero h1
   ·cases h
   ·cases h
  exact empty _ h0 rfl rfl (.inl rfl)
 ·refine Ac (hu.src hl) (Ab hf.all_one ?_)
  simp only[LP,Nat.beq_refl]
  refine⟨by omega,?_⟩
  cases hlen:f.length with
  | zero=>
   have h0:f=[]:=List.eq_nil_of_length_eq_zero hlen
   exact empty _ h0 rfl rfl (.inr rfl)
  | succ m=>
   intro cap hcap
   subst hxe
   obtain⟨cks,hcke⟩:∃cks,cks=cks0:=⟨_,rfl⟩
   subst hcke
   have hall:=hall1
   have hcl:=hall.len
   obtain⟨st1,hst1⟩:∃st1,st1=st.push (.cells ([]++cks.flatten++Fl ((cap-(0+(m+1)))*14))) (some tyField):=⟨_,rfl⟩
   rw[<-hst1]
   have e1:Am st st1:=hst1▸(Am.refl st).push _ _
   have hbx:BxF st1 st.nb (0+(m+1)) cap cks:=by
    refine⟨by rw[hst1];simp[St.push],by omega,by omega,hall.cks,Fl ((cap-(0+(m+1)))*14),by rw[hst1];simp[St.push],?_⟩
    rw[List.length_append,hl]
    simp only[Fl,List.length_replicate]
    rw[<-Nat.add_mul];congr 1;omega
   refine Qu T9 hbx (by omega) fun st2 W pw sw hb2 e2=>?_
   have e12:Am st st2:=StX.ext e1 e2 (fun i hi=>by rw[hi];exact Nat.le_refl _)
   obtain⟨la',pla,hall'⟩:=hall0.perm pw
   have hlal':la'.length=0+(m+1):=by rw[pla.length_eq,hlal,hlen];omega
   obtain⟨tail,hbox,hbl⟩:=hb2.box
   have hWl:W.flatten.length=la'.length*14:=by rw[UX hb2.ck,hb2.len,hlal']
   have hallF:Fv (FdR st) (la'.map g) W:=Fv.map_left hR hall'
   rw[<-hlal']
   exact hk _ st2 la' W [st.nb] pla (srtF_of hallF sw) e12 (.inr ⟨st.nb,cap,tail,rfl,hb2.lt,hbox,hbl,hWl,by rw[hlal'];exact hb2.le,rfl⟩) hall' (by simp) (fun x hx=>by rw[List.mem_singleton.1 hx];exact Nat.le_refl _)
end
end
section
theorem Fv.snoc {α β:Type} {R:α->β->Prop} {a:α} {b:β} {l:List α} {m:List β} (h:Fv R l m) (r:R a b):Fv R (l++[a]) (m++[b]):=by
 induction h with
 | nil=>exact .cons r .nil
 | cons r' _ ih=>exact .cons r' ih
mutual
def KNd:Vl->Prop
 | .mk _ l f=>To l/\BT f/\Tp f
def To:List Vl->Prop
 | []=>True
 | v::r=>KNd v/\To r
def KNdD:Fd->Prop
 | .mk _ v=>KNd v
def Tp:List Fd->Prop
 | []=>True
 | d::r=>KNdD d/\Tp r
end
theorem To.mem:∀{l:List Vl} {v:Vl},To l->v∈l->KNd v
 | [],v,_,h=>by cases h
 | w::r,v,hk,h=>by
  unfold To at hk
  rcases List.mem_cons.1 h with rfl | h
  ·exact hk.1
  ·exact To.mem hk.2 h
theorem Tp.mem:∀{l:List Fd} {v:Fd},Tp l->v∈l->KNdD v
 | [],v,_,h=>by cases h
 | w::r,v,hk,h=>by
  unfold Tp at hk
  rcases List.mem_cons.1 h with rfl | h
  ·exact hk.1
  ·exact Tp.mem hk.2 h
theorem Ff {l:List Vl} {v:Vl} (h:v∈l):v.sz<=A3 l:=by
 obtain⟨i,hi⟩:=List.getElem?_of_mem h
 exact IV hi
theorem Pu {l:List Fd} {v:Fd} (h:v∈l):v.sz<=BC l:=by
 obtain⟨i,hi⟩:=List.getElem?_of_mem h
 exact Jv hi
end
theorem Xv (n:Nat) (h:n<256):n.toUInt8.toNat=n:=by simp;omega
section
structure ScOk (s:Sc):Prop where
 k0:0<=s.kind
 k7:s.kind<=7
 dg:s.dg.length<=10000000
 e1: -1000000<=s.ex
 e2:s.ex<=1000000
 t0:0<=s.tk
 t4:s.tk<=255
 d0:0<=s.td
 d1:s.td<=100000000000
 n0:0<=s.tn
 n1:s.tn<=100000000000000
 z0: -1000000<=s.tz
 z1:s.tz<=1000000
mutual
def VOk:Vl->Prop
 | .mk s l f=>ScOk s/\VsOk l/\FsOk f
def VsOk:List Vl->Prop
 | []=>True
 | v::r=>VOk v/\VsOk r
def FdOk:Fd->Prop
 | .mk _ v=>VOk v
def FsOk:List Fd->Prop
 | []=>True
 | d::r=>FdOk d/\FsOk r
end
end
theorem Ze (l:B8):List.all (AC l) As=true:=by
 rw[List.all_eq_true];intro x hx
 simp only[AC,List.mem_map]at hx
 obtain⟨y,_,rfl⟩:=hx;rfl
theorem QG {st0 st:St} {ul:TV} {xl:List TV} {l:List Vl} (hke:BG st0 st) (h2:SlR st0 13 ul l.length xl) (h3:VsR st0 l xl) {i:Int} {k:Nat} (hi:i=k) (hk:k<l.length) {f:Fun [.int .i64,.bool,.bool,.str,.int .i64,.int .i64,.int .i64,.int .i64,.int .i64,.str,.tv,.tv,.tv] Prop}
  (hf:∀s' l' f' ub1 ul1 uf1,l[k]? =some (.mk s' l' f')->VlR st0 (.mk s' l' f') (Bo s' ub1 ul1 uf1)->List.all (Bo s' ub1 ul1 uf1) As=true->f s'.kind s'.b s'.neg s'.dg s'.ex s'.tk s'.td s'.tn s'.tz s'.text ub1 ul1 uf1):
  (0<=i/\i<(lenZ 13 ul:Int))/\Ae ((Ah st [] (.t (ixT 13 ul (Int.toNat i))) 0 13).map TV.agg) fun x=>AK [.int .i64,.bool,.bool,.str,.int .i64,.int .i64,.int .i64,.int .i64,.int .i64,.str,.tv,.tv,.tv] x f:=by
 subst hi
 have gw:l[k]? =some l[k]:=List.getElem?_eq_getElem hk
 obtain⟨cw,hw,hcw,hcl⟩:=h3.get gw
 rw[h2.lenZ,Int.toNat_natCast,(h2.keep hke).ldc h3.len hk,hcw]
 generalize l[k]=w at*
 cases w with
 | mk s' l' f'=>
 have hw0:=hw
 unfold VlR at hw0
 obtain⟨ub',ul',uf',xl',xf',rfl,w1,w2,w3,w4,w5⟩:=hw0
 exact⟨⟨by omega,by omega⟩,Ac rfl (decA13 (hf s' l' f' ub' ul' uf' gw hw (Dg w1.one w2.one w4.one)))⟩
theorem U0 {st0 st:St} {uf:TV} {xf:List TV} {l:List Fd} (hke:BG st0 st) (h2:SlR st0 14 uf l.length xf) (h3:FsR st0 l xf) {i:Int} {k:Nat} (hi:i=k) (hk:k<l.length) {f:Fun [.str,.int .i64,.bool,.bool,.str,.int .i64,.int .i64,.int .i64,.int .i64,.int .i64,.str,.tv,.tv,.tv] Prop}
  (hf:∀key s' l' f' ub1 ul1 uf1,l[k]? =some (.mk key (.mk s' l' f'))->VlR st0 (.mk s' l' f') (Bo s' ub1 ul1 uf1)->List.all (.str key::Bo s' ub1 ul1 uf1) As=true->f key s'.kind s'.b s'.neg s'.dg s'.ex s'.tk s'.td s'.tn s'.tz s'.text ub1 ul1 uf1):
  (0<=i/\i<(lenZ 14 uf:Int))/\Ae ((Ah st [] (.t (ixT 14 uf (Int.toNat i))) 0 14).map TV.agg) fun x=>AK [.str,.int .i64,.bool,.bool,.str,.int .i64,.int .i64,.int .i64,.int .i64,.int .i64,.str,.tv,.tv,.tv] x f:=by
 subst hi
 have gw:l[k]? =some l[k]:=List.getElem?_eq_getElem hk
 obtain⟨cw,hw,hcw,hcl⟩:=h3.get gw
 rw[h2.lenZ,Int.toNat_natCast,(h2.keep hke).ldc h3.len hk,hcw]
 generalize l[k]=w at*
 cases w with
 | mk key w=>
 cases w with
 | mk s' l' f'=>
 have hw0:=hw
 unfold FdR at hw0
 obtain⟨cw2,rfl,hw1⟩:=hw0
 have hw2:=hw1
 unfold VlR at hw2
 obtain⟨ub',ul',uf',xl',xf',rfl,w1,w2,w3,w4,w5⟩:=hw2
 exact⟨⟨by omega,by omega⟩,Ac rfl (KO (hf key s' l' f' ub' ul' uf' gw hw1 (one14 w1.one w2.one w4.one)))⟩
theorem Md {α:Type} {l:List α} {k:Nat} {v:α} (h:l[k]? =some v):l.take (k+1)=l.take k++[v]:=by
 obtain⟨q1,q2⟩:=List.getElem?_eq_some_iff.1 h
 rw[List.take_succ_eq_append_getElem q1,q2]
theorem Bl {α:Type} {l:List α} {k:Nat} {v:α} (h:l[k]? =some v):v∈l:=by
 obtain⟨q1,q2⟩:=List.getElem?_eq_some_iff.1 h
 rw[<-q2];exact List.getElem_mem q1
end Go.TVF
section
namespace Go.TVF
open Go.IntKind(i64 u8)
open Go
theorem or_i64 (x y:Nat) (hx:x<2^63) (hy:y<2^63):C0 .or .i64 (x:Int) (y:Int)=((x ||| y:Nat):Int):=by
 have h:x ||| y<2^63:=Nat.or_lt_two_pow hx hy
 show IntKind.wrap .i64 ((BitVec.ofInt 64 (x:Int) ||| BitVec.ofInt 64 (y:Int)).toNat:Int)=_
 simp only[BitVec.ofInt_natCast,BitVec.toNat_or,BitVec.toNat_ofNat]
 rw[Nat.mod_eq_of_lt (by omega),Nat.mod_eq_of_lt (by omega),Ai _ (by omega) (by omega)]
theorem and_u8 (x y:Nat) (hx:x<2^8) (hy:y<2^8):C0 .and .u8 (x:Int) (y:Int)=((x&&&y:Nat):Int):=by
 have h:x&&&y<2^8:=Nat.and_lt_two_pow _ hy
 show IntKind.wrap .u8 ((BitVec.ofInt 8 (x:Int)&&&BitVec.ofInt 8 (y:Int)).toNat:Int)=_
 simp only[BitVec.ofInt_natCast,BitVec.toNat_and,BitVec.toNat_ofNat]
 rw[Nat.mod_eq_of_lt (by omega),Nat.mod_eq_of_lt (by omega),N3 _ (by omega) (by omega)]
theorem or_add (a b m:Nat) (hb:b<2^m) (h:a*2^m+b<2^63):C0 .or .i64 ((a*2^m:Nat):Int) (b:Int)=((a*2^m+b:Nat):Int):=by
 have hb':b<2^63:=by omega
 rw[or_i64 _ _ (by omega) hb',Nat.mul_comm a,Nat.two_pow_add_eq_or_of_lt hb]
theorem EV {α:Type} (l:List α) (i:Nat) (d:α) (h:i<l.length):l.take (i+1)=l.take i++[l.getD i d]:=by
 rw[List.take_add_one,List.getElem?_eq_getElem h,List.getD,List.getElem?_eq_getElem h];rfl
theorem JV {α:Type} (l:List α) (i j:Nat) (d:α):(l.drop i).getD j d=l.getD (i+j) d:=by
 simp[List.getD,List.getElem?_drop]
theorem RH {α:Type} (l:List α) (i:Nat) (d:α) (h:i<l.length):l.drop i=l.getD i d::l.drop (i+1):=by
 rw[List.drop_eq_getElem_cons h,List.getD,List.getElem?_eq_getElem h];rfl
theorem G0 {α:Type} (l:List α) (i j:Nat):(l.take j).drop i=(l.drop i).take (j-i):=by
 rw[List.drop_take]
def bt (l:B8) (i:Nat):Nat:=(l.getD i 0).toNat
theorem GT (l:B8) (i:Nat):bt l i<256:=(l.getD i 0).toNat_lt
theorem J0 (l:B8) (i j:Nat):bt (l.drop i) j=bt l (i+j):=by simp[bt,JV]
def dN (l:B8):Nat×Nat:=Lib.decodeN l.length (bt l 0) (bt l 1) (bt l 2) (bt l 3)
def ul (l:B8):Nat:=if l=[]∨dN l=(65533,1)then 0 else(dN l).2
def ur (l:B8):Nat:=(dN l).1
def Cw (r:Nat):Prop:=r<=1114111/\(r<55296∨57343<r)
instance (r:Nat):Decidable (Cw r):=by unfold Cw;infer_instance
def Hd (r:Nat):B8:=
 if r<128 then [UInt8.ofNat r]else if r<2048 then [UInt8.ofNat (192+r/64),UInt8.ofNat (128+r%64)]
 else if r<65536 then [UInt8.ofNat (224+r/4096),UInt8.ofNat (128+r/64%64),UInt8.ofNat (128+r%64)]
 else [UInt8.ofNat (240+r/262144),UInt8.ofNat (128+r/4096%64),UInt8.ofNat (128+r/64%64),UInt8.ofNat (128+r%64)]
theorem Dq (n:Nat) (c:UInt8):UInt8.ofNat n=c↔n%256=c.toNat:=by
 rw[<-UInt8.toNat_inj];simp
theorem Jb (l:B8) (h:1<=l.length):l.take 1=[l.getD 0 0]:=by
 rw[EV l 0 0 (by omega)];rfl
theorem Ld (l:B8) (h:2<=l.length):l.take 2=[l.getD 0 0,l.getD 1 0]:=by
 rw[EV l 1 0 (by omega),Jb l (by omega)];rfl
theorem H2 (l:B8) (h:3<=l.length):l.take 3=[l.getD 0 0,l.getD 1 0,l.getD 2 0]:=by
 rw[EV l 2 0 (by omega),Ld l (by omega)];rfl
theorem Me (l:B8) (h:4<=l.length):l.take 4=[l.getD 0 0,l.getD 1 0,l.getD 2 0,l.getD 3 0]:=by
 rw[EV l 3 0 (by omega),H2 l (by omega)];rfl
def rsz (b0:Nat):Nat:=if 240<=b0 then 4 else if 224<=b0 then 3 else if 192<=b0 then 2 else 1
def rb0 (b0:Nat):Nat:=if 240<=b0 then b0%8 else if 224<=b0 then b0%16 else if 192<=b0 then b0%32 else b0
def Dl (l:B8) (r0:Nat):Nat->Nat
 | 0=>r0
 | j+1=>Dl l r0 j*64+bt l (j+1)%64
theorem Xr (l:B8) (r0:Nat) (h:r0<256):∀j,Dl l r0 j<256*64^j
 | 0=>by simpa [Dl]using h
 | j+1=>by
  have:=Xr l r0 h j
  have h2:=Nat.mod_lt (bt l (j+1)) (show 0<64 by omega)
  simp only[Dl,Nat.pow_succ]
  omega
theorem VY (b0:Nat):1<=rsz b0/\rsz b0<=4:=by
 unfold rsz
 repeat' split
 all_goals omega
def SD (l:B8):Nat×Nat:=
 let size:=rsz (bt l 0)
 let r:=Dl l (rb0 (bt l 0)) (size-1)
 if l.length<size then(0,0)else if Cw r/\Hd r=l.take size then(r,size)else(0,0)
theorem DC {a b:UInt8} {x y:B8}:(a::x=b::y)↔a=b/\x=y:=by simp
set_option maxHeartbeats 4000000 in
theorem Ia (l:B8) (h:l≠ []):SD l=if ul l=0 then(0,0)else(ur l,ul l):=by
 have hl:1<=l.length:=by cases l with | nil=>exact absurd rfl h | cons a r=>simp
 have h0:=GT l 0
 have h1:=GT l 1
 have h2:=GT l 2
 have h3:=GT l 3
 have e0:(l.getD 0 0).toNat=bt l 0:=rfl
 have e1:(l.getD 1 0).toNat=bt l 1:=rfl
 have e2:(l.getD 2 0).toNat=bt l 2:=rfl
 have e3:(l.getD 3 0).toNat=bt l 3:=rfl
 have hul:ul l=if dN l=(65533,1)then 0 else(dN l).2:=by simp[ul,h]
 rw[hul,ur]
 unfold dN
 generalize hb0:bt l 0=b0 at*
 generalize hb1:bt l 1=b1 at*
 generalize hb2:bt l 2=b2 at*
 generalize hb3:bt l 3=b3 at*
 unfold SD
 simp only[hb0]
 by_cases c4:240<=b0
 ·have r4:rsz b0=4:=by unfold rsz;rw[if_pos c4]
  have rb:rb0 b0=b0%8:=by unfold rb0;rw[if_pos c4]
  rw[r4,rb]
  simp only[Nat.reduceSub,Dl,hb1,hb2,hb3,Nat.zero_add,Nat.reduceAdd]
  by_cases hn:l.length<4
  ·rw[if_pos hn]
   have:Lib.decodeN l.length b0 b1 b2 b3=(65533,1):=by
    unfold Lib.decodeN
    rw[if_neg (by omega),if_neg (by omega),if_neg (by omega),if_neg (by omega)]
   rw[this];simp
  ·rw[if_neg hn]
   have hEnc:(Cw (((b0%8*64+b1%64)*64+b2%64)*64+b3%64)/\Hd (((b0%8*64+b1%64)*64+b2%64)*64+b3%64)=l.take 4)↔(b0/8=30/\b1/64=2/\b2/64=2/\b3/64=2/\65536<=((b0%8*64+b1%64)*64+b2%64)*64+b3%64/\((b0%8*64+b1%64)*64+b2%64)*64+b3%64<=1114111):=by
    rw[Me l (by omega)]
    generalize hr:((b0%8*64+b1%64)*64+b2%64)*64+b3%64=r
    unfold Cw Hd
    by_cases k1:r<128
    ·rw[if_pos k1];simp;omega
    ·rw[if_neg k1]
     by_cases k2:r<2048
     ·rw[if_pos k2];simp;omega
     ·rw[if_neg k2]
      by_cases k3:r<65536
      ·rw[if_pos k3];simp;omega
      ·rw[if_neg k3]
       simp only[DC,Dq,e0,e1,e2,e3,and_true]
       omega
   by_cases hE:b0/8=30/\b1/64=2/\b2/64=2/\b3/64=2/\65536<=((b0%8*64+b1%64)*64+b2%64)*64+b3%64/\((b0%8*64+b1%64)*64+b2%64)*64+b3%64<=1114111
   ·rw[if_pos (hEnc.2 hE)]
    have:Lib.decodeN l.length b0 b1 b2 b3=(((b0%8*64+b1%64)*64+b2%64)*64+b3%64,4):=by
     unfold Lib.decodeN
     rw[if_neg (by omega),if_neg (by omega),if_neg (by omega),if_pos (by omega),if_pos (by omega)]
     simp only[Prod.mk.injEq,and_true];omega
    rw[this];simp
   ·rw[if_neg (fun hh=>hE (hEnc.1 hh))]
    have:Lib.decodeN l.length b0 b1 b2 b3=(65533,1):=by
     unfold Lib.decodeN
     rw[if_neg (by omega),if_neg (by omega),if_neg (by omega)]
     split
     ·rw[if_neg (by omega)]
     ·rfl
    rw[this];simp
 ·by_cases c3:224<=b0
  ·have r4:rsz b0=3:=by unfold rsz;rw[if_neg c4,if_pos c3]
   have rb:rb0 b0=b0%16:=by unfold rb0;rw[if_neg c4,if_pos c3]
   rw[r4,rb]
   simp only[Nat.reduceSub,Dl,hb1,hb2,Nat.zero_add,Nat.reduceAdd]
   by_cases hn:l.length<3
   ·rw[if_pos hn]
    have:Lib.decodeN l.length b0 b1 b2 b3=(65533,1):=by
     unfold Lib.decodeN
     rw[if_neg (by omega),if_neg (by omega),if_neg (by omega),if_neg (by omega)]
    rw[this];simp
   ·rw[if_neg hn]
    have hEnc:(Cw ((b0%16*64+b1%64)*64+b2%64)/\Hd ((b0%16*64+b1%64)*64+b2%64)=l.take 3)↔(b1/64=2/\b2/64=2/\2048<=(b0%16*64+b1%64)*64+b2%64/\Cw ((b0%16*64+b1%64)*64+b2%64)):=by
     rw[H2 l (by omega)]
     generalize hr:(b0%16*64+b1%64)*64+b2%64=r
     unfold Cw Hd
     by_cases k1:r<128
     ·rw[if_pos k1];simp;omega
     ·rw[if_neg k1]
      by_cases k2:r<2048
      ·rw[if_pos k2];simp;omega
      ·rw[if_neg k2]
       by_cases k3:r<65536
       ·rw[if_pos k3]
        simp only[DC,Dq,e0,e1,e2,and_true]
        omega
       ·omega
    by_cases hE:b1/64=2/\b2/64=2/\2048<=(b0%16*64+b1%64)*64+b2%64/\Cw ((b0%16*64+b1%64)*64+b2%64)
    ·rw[if_pos (hEnc.2 hE)]
     have:Lib.decodeN l.length b0 b1 b2 b3=((b0%16*64+b1%64)*64+b2%64,3):=by
      unfold Cw at hE
      unfold Lib.decodeN
      rw[if_neg (by omega),if_neg (by omega),if_pos (by omega),if_pos (by omega)]
      simp only[Prod.mk.injEq,and_true];omega
     rw[this];simp
    ·rw[if_neg (fun hh=>hE (hEnc.1 hh))]
     have:Lib.decodeN l.length b0 b1 b2 b3=(65533,1):=by
      unfold Cw at hE
      unfold Lib.decodeN
      rw[if_neg (by omega),if_neg (by omega)]
      split
      ·rw[if_neg (by omega)]
      ·rw[if_neg (by omega)]
     rw[this];simp
  ·by_cases c2:192<=b0
   ·have r4:rsz b0=2:=by unfold rsz;rw[if_neg c4,if_neg c3,if_pos c2]
    have rb:rb0 b0=b0%32:=by unfold rb0;rw[if_neg c4,if_neg c3,if_pos c2]
    rw[r4,rb]
    simp only[Nat.reduceSub,Dl,hb1,Nat.zero_add,Nat.reduceAdd]
    by_cases hn:l.length<2
    ·rw[if_pos hn]
     have:Lib.decodeN l.length b0 b1 b2 b3=(65533,1):=by
      unfold Lib.decodeN
      rw[if_neg (by omega),if_neg (by omega),if_neg (by omega),if_neg (by omega)]
     rw[this];simp
    ·rw[if_neg hn]
     have hEnc:(Cw (b0%32*64+b1%64)/\Hd (b0%32*64+b1%64)=l.take 2)↔(b1/64=2/\128<=b0%32*64+b1%64):=by
      rw[Ld l (by omega)]
      generalize hr:b0%32*64+b1%64=r
      unfold Cw Hd
      by_cases k1:r<128
      ·rw[if_pos k1];simp;omega
      ·rw[if_neg k1,if_pos (by omega)]
       simp only[DC,Dq,e0,e1,and_true]
       omega
     by_cases hE:b1/64=2/\128<=b0%32*64+b1%64
     ·rw[if_pos (hEnc.2 hE)]
      have:Lib.decodeN l.length b0 b1 b2 b3=(b0%32*64+b1%64,2):=by
       unfold Lib.decodeN
       rw[if_neg (by omega),if_pos (by omega),if_pos (by omega)]
      rw[this];simp
     ·rw[if_neg (fun hh=>hE (hEnc.1 hh))]
      have:Lib.decodeN l.length b0 b1 b2 b3=(65533,1):=by
       unfold Lib.decodeN
       rw[if_neg (by omega)]
       split
       ·rw[if_neg (by omega)]
       ·rw[if_neg (by omega),if_neg (by omega)]
      rw[this];simp
   ·have r4:rsz b0=1:=by unfold rsz;rw[if_neg c4,if_neg c3,if_neg c2]
    have rb:rb0 b0=b0:=by unfold rb0;rw[if_neg c4,if_neg c3,if_neg c2]
    rw[r4,rb]
    simp only[Nat.reduceSub,Dl]
    rw[if_neg (by omega),Jb l hl]
    have hEnc:(Cw b0/\Hd b0=[l.getD 0 0])↔b0<128:=by
     unfold Cw Hd
     by_cases k1:b0<128
     ·rw[if_pos k1];simp only[DC,Dq,e0,and_true];omega
     ·rw[if_neg k1,if_pos (by omega)];simp;omega
    by_cases hE:b0<128
    ·rw[if_pos (hEnc.2 hE)]
     have:Lib.decodeN l.length b0 b1 b2 b3=(b0,1):=by unfold Lib.decodeN;rw[if_pos hE]
     rw[this,if_neg (by simp;omega)]
     simp only[Prod.mk.injEq]
     rw[if_neg (by omega)]
     simp
    ·rw[if_neg (fun hh=>hE (hEnc.1 hh))]
     have:Lib.decodeN l.length b0 b1 b2 b3=(65533,1):=by
      unfold Lib.decodeN
      rw[if_neg (by omega),if_neg (by omega),if_neg (by omega),if_neg (by omega)]
     rw[this];simp
theorem Xg (l:B8) (h:ul l≠0):Cw (ur l)/\Hd (ur l)=l.take (ul l)/\ul l<=l.length/\ul l<=4:=by
 have hne:l≠ []:=fun h0=>h (by simp[ul,h0])
 have e:=Ia l hne
 rw[if_neg h]at e
 unfold SD at e
 simp only at e
 split at e
 ·simp only[Prod.mk.injEq]at e;omega
 ·split at e
  ·rename_i hn hc
   simp only[Prod.mk.injEq]at e
   rw[<-e.1,<-e.2]
   exact⟨hc.1,hc.2,by omega,(VY _).2⟩
  ·simp only[Prod.mk.injEq]at e;omega
theorem I7 (l:B8):ul l<=l.length:=by
 by_cases h:ul l=0
 ·omega
 ·exact(Xg l h).2.2.1
theorem K9 (l:B8) (h:l≠ []) (hb:bt l 0<128):ul l=1/\ur l=bt l 0:=by
 have:dN l=(bt l 0,1):=by unfold dN Lib.decodeN;rw[if_pos hb]
 unfold ul ur
 rw[this,if_neg (by simp[h];omega)]
 exact⟨rfl,rfl⟩
theorem Si (l:B8) (h:l≠ []):ul l=0↔dN l=(65533,1):=by
 have hul:ul l=if dN l=(65533,1)then 0 else(dN l).2:=by simp[ul,h]
 rw[hul]
 constructor
 ·intro h0
  by_cases hd:dN l=(65533,1)
  ·exact hd
  ·rw[if_neg hd]at h0
   exfalso
   unfold dN Lib.decodeN at h0
   repeat' split at h0
   all_goals simp at h0
 ·intro h0;rw[if_pos h0]
theorem dN_val (l:B8) (h:ul l≠0):dN l=(ur l,ul l):=by
 have hne:l≠ []:=fun h0=>h (by simp[ul,h0])
 have hul:ul l=if dN l=(65533,1)then 0 else(dN l).2:=by simp[ul,hne]
 have hd:dN l≠(65533,1):=fun hd=>h ((Si l hne).2 hd)
 rw[if_neg hd]at hul
 rw[hul];rfl
theorem ul_not (l:B8) (h:ul l≠0):¬(ur l=65533/\ul l=1):=by
 intro hh
 have hne:l≠ []:=fun h0=>h (by simp[ul,h0])
 have:=dN_val l h
 rw[hh.1,hh.2]at this
 exact h ((Si l hne).2 this)
def vlen (l:B8):Nat:=if h:ul l=0 then 0 else ul l+vlen (l.drop (ul l))
termination_by l.length
decreasing_by
 have:=I7 l
 simp only[List.length_drop];omega
theorem BI (l:B8) (h:ul l=0):vlen l=0:=by rw[vlen,dif_pos h]
theorem BJ (l:B8) (h:ul l≠0):vlen l=ul l+vlen (l.drop (ul l)):=by rw[vlen,dif_neg h]
theorem Xe:∀(n:Nat) (l:B8),l.length<=n->vlen l<=l.length
 | 0,l,h=>by
  have:l=[]:=List.eq_nil_of_length_eq_zero (by omega)
  subst this
  rw[BI _ (by simp[ul])];simp
 | n+1,l,h=>by
  by_cases h0:ul l=0
  ·rw[BI l h0];omega
  ·have h1:=I7 l
   have h2:=Xe n (l.drop (ul l)) (by simp only[List.length_drop];omega)
   rw[BJ l h0]
   simp only[List.length_drop]at h2;omega
end Go.TVF
end
namespace Go.TVF
open Go.IntKind(i64 u8)
open Go Go.Proofs
section
def KE (n:Nat):B8:=if h:n=0 then []else KE (n/10)++[(48+n%10).toUInt8]
termination_by n
decreasing_by omega
theorem HA:KE 0=[]:=by unfold KE;rw[dif_pos rfl]
theorem HB {n:Nat} (h:0<n):KE n=KE (n/10)++[(48+n%10).toUInt8]:=by
 rw[KE.eq_def,dif_neg (by omega)]
theorem Pb:∀(k n:Nat),n<10^k->(KE n).length<=k
 | 0,n,h=>by rw[show n=0 by simpa using h,HA];simp
 | k+1,n,h=>by
  by_cases h0:n=0
  ·rw[h0,HA];simp
  ·rw[HB (by omega),List.length_append]
   have:=Pb k (n/10) (by rw[Nat.div_lt_iff_lt_mul (by omega)];rw[Nat.pow_succ]at h;exact h)
   simp only[List.length_cons,List.length_nil];omega
def whN (n:Nat):B8:=if n=0 then [48]else KE n
def MH (p:Int):B8:=101::(if p<1 then 45::whN (1-p).toNat else whN (p-1).toNat)
def dcT (neg:Bool) (dg:B8) (ex:Int):B8:=
 if dg=[]then [48]else(if neg then [45]else [])++
  (if 0<=ex/\dg.length+ex<=21 then dg++List.replicate ex.toNat 48
  else if ex<0/\1<=dg.length+ex/\dg.length+ex<=21 then dg.take (dg.length+ex).toNat++46::dg.drop (dg.length+ex).toNat
  else if-5<=dg.length+ex/\dg.length+ex<=0 then 48::46::(List.replicate (-(dg.length+ex)).toNat 48++dg)
  else dg.take 1++((if 1<dg.length then 46::dg.drop 1 else [])++MH (dg.length+ex)))
def Bw:Nat->Nat->B8
 | 0,_=>[]
 | w+1,n=>Bw w (n/10)++[(48+n%10).toUInt8]
theorem Bv:∀w n,(Bw w n).length=w
 | 0,_=>rfl
 | w+1,n=>by simp[Bw,Bv w]
def AF (c:UInt8):Prop:=48<=c.toNat/\c.toNat<=57
instance (c:UInt8):Decidable (AF c):=inferInstanceAs (Decidable (_/\_))
def A4 (l:B8):Nat:=(l.reverse.takeWhile (·==48)).length
def Dk (neg:Bool) (dg:B8) (ex:Int):Prop:=
 (dg=[]->neg=false/\ex=0)/\(dg≠ []->dg.length<=120/\(∀c,c∈dg->AF c)/\dg.getD 0 0≠48/\A4 dg=0/\ -400<=ex/\ex<=400)
instance (neg:Bool) (dg:B8) (ex:Int):Decidable (Dk neg dg ex):=inferInstanceAs (Decidable ((_->_)/\(_->_)))
def DW (k d n z:Int):Prop:=
 1<=k/\k<=4/\0<=d/\d<=3652058/\0<=n/\n<=86399999999999/\ -1439<=z/\z<=1439/\(k=2->d=0)/\(k=1->n=0)/\(k≠4->z=0)
instance (k d n z:Int):Decidable (DW k d n z):=inferInstanceAs (Decidable (_/\_/\_/\_/\_/\_/\_/\_/\(_->_)/\(_->_)/\(_->_)))
theorem Ef (k:Nat) (h:k<10):(48+k).toUInt8.toNat=48+k:=by simp;omega
theorem BM:∀w n c,c∈Bw w n->AF c
 | 0,_,c,h=>by cases h
 | w+1,n,c,h=>by
  unfold Bw at h
  rcases List.mem_append.1 h with h | h
  ·exact BM w _ c h
  ·rw[List.mem_singleton.1 h];unfold AF;rw[Ef _ (by omega)];omega
theorem natD_dg:∀(n:Nat) c,c∈KE n->AF c:=by
 intro n
 induction n using Nat.strongRecOn with
 | _ n ih=>
  intro c h
  by_cases h0:n=0
  ·rw[h0,HA]at h;cases h
  ·rw[HB (by omega)]at h
   rcases List.mem_append.1 h with h | h
   ·exact ih (n/10) (by omega) c h
   ·rw[List.mem_singleton.1 h];unfold AF;rw[Ef _ (by omega)];omega
def Iv (l:B8):B8:=(l.reverse.dropWhile (·==48)).reverse
theorem RN (l:B8) (c:UInt8):Iv (l++[c])=if c=48 then Iv l else l++[c]:=by
 unfold Iv
 rw[List.reverse_append,List.reverse_singleton,List.singleton_append,List.dropWhile_cons]
 by_cases h:c=48
 ·rw[if_pos h,if_pos (by simp[h])]
 ·rw[if_neg h,if_neg (by simp[h])];simp
theorem cut0_mem {l:B8} {c:UInt8} (h:c∈Iv l):c∈l:=by
 unfold Iv at h
 exact List.mem_reverse.1 ((List.dropWhile_sublist _).mem (List.mem_reverse.1 h))
theorem U9 (l:B8):(Iv l).length<=l.length:=by
 unfold Iv
 rw[List.length_reverse]
 have:=(List.dropWhile_sublist (l:=l.reverse) (fun x:UInt8=>x==48)).length_le
 rw[List.length_reverse]at this;exact this
def JB (n:Nat):B8:=Bw 2 (n/1000000000/3600)++58::(Bw 2 (n/1000000000/60%60)++58::(Bw 2 (n/1000000000%60)++(if n%1000000000=0 then []else 46::Iv (Bw 9 (n%1000000000)))))
def Ic (z:Int):B8:=if z=0 then [90]else(if z<0 then 45 else 43)::(Bw 2 (z.natAbs/60)++58::Bw 2 (z.natAbs%60))
def Ro (y:Nat):Prop:=y%4=0/\(y%100≠0∨y%400=0)
instance (y:Nat):Decidable (Ro y):=inferInstanceAs (Decidable (_/\_))
def KF (y m:Nat):Nat:=if m=2 then(if Ro y then 29 else 28)else if m=4∨m=6∨m=9∨m=11 then 30 else 31
def ET (y:Nat):Nat->Nat
 | 0=>0
 | 1=>0
 | m+2=>ET y (m+1)+KF y (m+1)
def yrS (y:Nat):Nat:=365*(y-1)+(y-1)/4-(y-1)/100+(y-1)/400
def Gu (n y m d:Nat):Prop:=1<=y/\y<=9999/\1<=m/\m<=12/\1<=d/\d<=KF y m/\n=yrS y+ET y m+(d-1)
theorem N2 {a b:Nat} (h1:1<=a) (h:a<=b):yrS a<=yrS b:=by
 rcases Nat.eq_or_lt_of_le h with rfl | h
 ·exact Nat.le_refl _
 ·unfold yrS;omega
theorem monS_12 (y:Nat):ET y 12+KF y 12=if Ro y then 366 else 365:=by
 simp only[ET,KF]
 by_cases h:Ro y<;>simp[h]
theorem WH (k q:Nat) (h:0<q):(k+1)/q=k/q+(if (k+1)%q=0 then 1 else 0):=by
 rw[Nat.succ_div]
 congr 1
 simp only[Nat.dvd_iff_mod_eq_zero]
theorem IT {y:Nat} (h:1<=y):yrS (y+1)=yrS y+(ET y 12+KF y 12):=by
 rw[monS_12]
 obtain⟨k,rfl⟩:∃k,y=k+1:=⟨y-1,by omega⟩
 unfold yrS
 simp only[Nat.add_sub_cancel]
 rw[WH k 4 (by omega),WH k 100 (by omega),WH k 400 (by omega)]
 have m1:(k+1)%400=0->(k+1)%100=0:=fun h=>by omega
 have m2:(k+1)%100=0->(k+1)%4=0:=fun h=>by omega
 have m3:k/100<=k/4:=by omega
 by_cases a4:(k+1)%4=0
 ·rw[if_pos a4]
  by_cases a100:(k+1)%100=0
  ·rw[if_pos a100]
   by_cases a400:(k+1)%400=0
   ·rw[if_pos a400,if_pos ⟨a4,.inr a400⟩];omega
   ·rw[if_neg a400,if_neg (fun h=>h.2.elim (fun h=>h a100) a400)];omega
  ·rw[if_neg a100,if_neg (fun h=>a100 (m1 h)),if_pos ⟨a4,.inl a100⟩];omega
 ·rw[if_neg a4,if_neg (fun h=>a4 (m2 h)),if_neg (fun h=>a4 (m2 (m1 h))),if_neg (fun h=>a4 h.1)];omega
theorem JP (y:Nat):∀{a b:Nat},a<=b->ET y a<=ET y b:=by
 intro a b h
 induction b with
 | zero=>rw[show a=0 by omega];exact Nat.le_refl _
 | succ b ih=>
  by_cases hab:a=b+1
  ·rw[hab];exact Nat.le_refl _
  ·refine Nat.le_trans (ih (by omega)) ?_
   cases b with
   | zero=>exact Nat.le_refl _
   | succ b=>simp only[ET];omega
theorem Er (y:Nat) {m:Nat} (h:1<=m):ET y (m+1)=ET y m+KF y m:=by
 cases m with
 | zero=>omega
 | succ m=>rfl
theorem Gu.uniq {n y m d y' m' d':Nat} (h:Gu n y m d) (h':Gu n y' m' d'):y=y'/\m=m'/\d=d':=by
 obtain⟨a1,a2,a3,a4,a5,a6,a7⟩:=h
 obtain⟨b1,b2,b3,b4,b5,b6,b7⟩:=h'
 have within:∀{y m d:Nat},1<=y->1<=m->m<=12->1<=d->d<=KF y m->ET y m+(d-1)<ET y 12+KF y 12:=by
  intro y m d h1 h2 h3 h4 h5
  by_cases hm:m=12
  ·subst hm;omega
  ·have:=JP y (a:=m+1) (b:=12) (by omega)
   rw[Er y h2]at this;omega
 have w1:=within a1 a3 a4 a5 a6
 have w2:=within b1 b3 b4 b5 b6
 have hy:y=y':=by
  rcases Nat.lt_trichotomy y y' with h | h | h
  ·have:=N2 (a:=y+1) (b:=y') (by omega) (by omega)
   rw[IT a1]at this;omega
  ·exact h
  ·have:=N2 (a:=y'+1) (b:=y) (by omega) (by omega)
   rw[IT b1]at this;omega
 subst hy
 have hm:m=m':=by
  rcases Nat.lt_trichotomy m m' with h | h | h
  ·have:=JP y (a:=m+1) (b:=m') (by omega)
   rw[Er y a3]at this;omega
  ·exact h
  ·have:=JP y (a:=m'+1) (b:=m) (by omega)
   rw[Er y b3]at this;omega
 subst hm
 exact⟨rfl,rfl,by omega⟩
open Classical in
noncomputable def Jz (n:Nat):Nat×Nat×Nat:=if h:∃p:Nat×Nat×Nat,Gu n p.1 p.2.1 p.2.2 then h.choose else(0,0,0)
theorem Y6 {n y m d:Nat} (h:Gu n y m d):Jz n=(y,m,d):=by
 have hex:∃p:Nat×Nat×Nat,Gu n p.1 p.2.1 p.2.2:=⟨(y,m,d),h⟩
 unfold Jz
 rw[dif_pos hex]
 obtain⟨h1,h2,h3⟩:=hex.choose_spec.uniq h
 exact Prod.ext h1 (Prod.ext h2 h3)
noncomputable def J5 (n:Nat):B8:=Bw 4 (Jz n).1++45::(Bw 2 (Jz n).2.1++45::Bw 2 (Jz n).2.2)
noncomputable def Ja (k td tn tz:Int):B8:=
 if k=1 then J5 td.toNat else if k=2 then JB tn.toNat else if k=3 then J5 td.toNat++84::JB tn.toNat else J5 td.toNat++84::(JB tn.toNat++Ic tz)
end
section
structure P5 (s:Sc) (l:List Vl) (f:List Fd):Prop where
 k0:0<=s.kind
 k7:s.kind<=7
 bo:s.kind≠1->s.b=false
 nu:s.kind≠2->s.neg=false/\s.dg=[]/\s.ex=0
 ti:s.kind≠3->s.tk=0/\s.td=0/\s.tn=0/\s.tz=0
 tx:s.kind≠4->s.text=[]
 by_:s.kind≠5->s.bytes=[]
 ls:s.kind≠6->l=[]
 fs:s.kind≠7->f=[]
noncomputable instance (s:Sc) (l:List Vl) (f:List Fd):Decidable (P5 s l f):=Classical.propDecidable _
def U8 (s:B8):Prop:=vlen s=s.length
instance (s:B8):Decidable (U8 s):=inferInstanceAs (Decidable (_=_))
def Fj (seen:List B8):List Fd->Nat
 | []=>0
 | d::r=>if U8 d.key then(if 1024<d.key.length then 10 else if d.key∈seen then 8 else Fj (d.key::seen) r)else 5
noncomputable def Gf (s:Sc) (l:List Vl) (f:List Fd):Nat:=
 if P5 s l f then(if Dk s.neg s.dg s.ex then(if s.kind=3->DW s.tk s.td s.tn s.tz then(if U8 s.text then(if 65536<s.text.length then 10 else if 65536<s.bytes.length then 10 else Fj [] f)else 5)else 2)else 2)else 6
noncomputable def Hs (x:Nat×Nat) (f:Nat->Nat×Nat):Nat×Nat:=if x.2=0 then f x.1 else x
mutual
noncomputable def DD (d n:Nat):Vl->Nat×Nat
 | .mk s l f=>if 48<d then(n,9)else if 65536<=n then(n,10)else if Gf s l f≠0 then(n,Gf s l f)else Hs (Dj (d+1) (n+1) l) fun m=>CG (d+1) m f
noncomputable def Dj (d n:Nat):List Vl->Nat×Nat
 | []=>(n,0)
 | v::r=>Hs (DD d n v) fun m=>Dj d m r
noncomputable def NI (d n:Nat):Fd->Nat×Nat
 | .mk _ v=>DD d n v
noncomputable def CG (d n:Nat):List Fd->Nat×Nat
 | []=>(n,0)
 | x::r=>Hs (NI d n x) fun m=>CG d m r
end
noncomputable def CC (v:Vl):Nat:=(DD 1 0 v).2
theorem CH {x:Nat×Nat} {f:Nat->Nat×Nat} (h:(Hs x f).2=0):x.2=0/\(f x.1).2=0:=by
 unfold Hs at h
 split at h
 ·rename_i h0;exact⟨h0,h⟩
 ·rename_i h0;exact absurd h h0
theorem CU {x:Nat×Nat} {f:Nat->Nat×Nat} (h:x.2=0):Hs x f=f x.1:=by unfold Hs;rw[if_pos h]
theorem Mb {x:Nat×Nat} {f:Nat->Nat×Nat} (h:x.2≠0):Hs x f=x:=by unfold Hs;rw[if_neg h]
theorem Pq:∀(f:List Fd) (seen:List B8),Fj seen f=0->BT f/\(∀d,d∈f->d.key∉seen/\U8 d.key/\d.key.length<=1024)
 | [],seen,_=>⟨List.nodup_nil,fun d h=>by cases h⟩
 | d::r,seen,h=>by
  unfold Fj at h
  split at h
  ·rename_i h1
   split at h
   ·cases h
   ·rename_i h2
    split at h
    ·cases h
    ·rename_i h3
     obtain⟨k1,k2⟩:=Pq r (d.key::seen) h
     refine⟨?_,fun x hx=>?_⟩
     ·unfold BT
      rw[List.map_cons,List.nodup_cons]
      refine⟨fun hm=>?_,k1⟩
      obtain⟨x,hx,he⟩:=List.mem_map.1 hm
      exact(k2 x hx).1 (he▸.head _)
     ·rcases List.mem_cons.1 hx with rfl | hx
      ·exact⟨h3,h1,by omega⟩
      ·obtain⟨q1,q2,q3⟩:=k2 x hx
       exact⟨fun hm=>q1 (.tail _ hm),q2,q3⟩
  ·cases h
structure Eb (s:Sc) (l:List Vl) (f:List Fd):Prop where
 own:P5 s l f
 dec:Dk s.neg s.dg s.ex
 time:s.kind=3->DW s.tk s.td s.tn s.tz
 text:U8 s.text
 tlen:s.text.length<=65536
 blen:s.bytes.length<=65536
 keys:Fj [] f=0
theorem Mt {s:Sc} {l:List Vl} {f:List Fd}:Gf s l f=0↔Eb s l f:=by
 unfold Gf
 constructor
 ·intro h
  split at h
  ·rename_i h1
   split at h
   ·rename_i h2
    split at h
    ·rename_i h3
     split at h
     ·rename_i h4
      split at h
      ·cases h
      ·rename_i h5
       split at h
       ·cases h
       ·rename_i h6
        exact⟨h1,h2,h3,h4,by omega,by omega,h⟩
     ·cases h
    ·cases h
   ·cases h
  ·cases h
 ·intro h
  rw[if_pos h.own,if_pos h.dec,if_pos h.time,if_pos h.text,if_neg (by have:=h.tlen;omega),if_neg (by have:=h.blen;omega)]
  exact h.keys
mutual
def AS:Vl->Prop
 | .mk s l f=>Eb s l f/\Cp l/\CE f
def Cp:List Vl->Prop
 | []=>True
 | v::r=>AS v/\Cp r
def Gt:Fd->Prop
 | .mk _ v=>AS v
def CE:List Fd->Prop
 | []=>True
 | d::r=>Gt d/\CE r
end
mutual
theorem Ta:∀(v:Vl) (d n:Nat),(DD d n v).2=0->AS v
 | .mk s l f,d,n,h=>by
  unfold DD at h
  unfold AS
  split at h
  ·cases h
  ·split at h
   ·cases h
   ·split at h
    ·rename_i h1;exact absurd h h1
    ·rename_i h1
     obtain⟨h2,h3⟩:=CH h
     exact⟨Mt.1 (Decidable.of_not_not h1),Ve l _ _ h2,Vi f _ _ h3⟩
theorem Ve:∀(l:List Vl) (d n:Nat),(Dj d n l).2=0->Cp l
 | [],d,n,_=>by unfold Cp;trivial
 | v::r,d,n,h=>by
  unfold Dj at h
  unfold Cp
  obtain⟨h2,h3⟩:=CH h
  exact⟨Ta v _ _ h2,Ve r _ _ h3⟩
theorem chkD_ok:∀(x:Fd) (d n:Nat),(NI d n x).2=0->Gt x
 | .mk k v,d,n,h=>by unfold NI at h;unfold Gt;exact Ta v _ _ h
theorem Vi:∀(l:List Fd) (d n:Nat),(CG d n l).2=0->CE l
 | [],d,n,_=>by unfold CE;trivial
 | x::r,d,n,h=>by
  unfold CG at h
  unfold CE
  obtain⟨h2,h3⟩:=CH h
  exact⟨chkD_ok x _ _ h2,Vi r _ _ h3⟩
end
theorem Eb.sc {s:Sc} {l:List Vl} {f:List Fd} (h:Eb s l f):ScOk s:=by
 obtain⟨own,dec,time,text,tlen,blen,keys⟩:=h
 have hd:s.dg.length<=120/\ -400<=s.ex/\s.ex<=400:=by
  by_cases h0:s.dg=[]
  ·have:=dec.1 h0;rw[h0];simp only[List.length_nil];omega
  ·have:=dec.2 h0;exact⟨this.1,this.2.2.2.2⟩
 have ht:0<=s.tk/\s.tk<=255/\0<=s.td/\s.td<=100000000000/\0<=s.tn/\s.tn<=100000000000000/\ -1000000<=s.tz/\s.tz<=1000000:=by
  by_cases h3:s.kind=3
  ·have:=time h3;unfold DW at this;omega
  ·have:=own.ti h3;omega
 exact⟨own.k0,own.k7,by omega,by omega,by omega,ht.1,ht.2.1,ht.2.2.1,ht.2.2.2.1,ht.2.2.2.2.1,ht.2.2.2.2.2.1,ht.2.2.2.2.2.2.1,ht.2.2.2.2.2.2.2⟩
mutual
theorem AS.ok:∀{v:Vl},AS v->VOk v/\KNd v
 | .mk s l f,h=>by
  unfold AS at h
  unfold VOk KNd
  obtain⟨h1,h2,h3⟩:=h
  have a:=Cp.ok h2
  have b:=CE.ok h3
  exact⟨⟨h1.sc,a.1,b.1⟩,a.2,(Pq _ _ h1.keys).1,b.2⟩
theorem Cp.ok:∀{l:List Vl},Cp l->VsOk l/\To l
 | [],h=>by unfold VsOk To;exact⟨trivial,trivial⟩
 | v::r,h=>by
  unfold Cp at h
  unfold VsOk To
  have a:=AS.ok h.1
  have b:=Cp.ok h.2
  exact⟨⟨a.1,b.1⟩,a.2,b.2⟩
theorem Gt.ok:∀{x:Fd},Gt x->FdOk x/\KNdD x
 | .mk k v,h=>by unfold Gt at h;unfold FdOk KNdD;exact AS.ok h
theorem CE.ok:∀{l:List Fd},CE l->FsOk l/\Tp l
 | [],h=>by unfold FsOk Tp;exact⟨trivial,trivial⟩
 | v::r,h=>by
  unfold CE at h
  unfold FsOk Tp
  have a:=Gt.ok h.1
  have b:=CE.ok h.2
  exact⟨⟨a.1,b.1⟩,a.2,b.2⟩
end
end
theorem SlR.isPtr {st:St} {sz n i:Nat} {u:TV} {xs:List TV} (h:SlR st sz u n xs) (hi:i<n):TVF.isPtr (ixT sz u i)=true:=by
 rcases h with(⟨rfl,rfl,rfl⟩ | ⟨tip,rfl⟩) | ⟨b,off,cap,l,rfl,_⟩
 ·omega
 ·rfl
 ·rfl
theorem SlR.ldcf {st:St} {sz n i f m:Nat} {u:TV} {xs:List TV} (h:SlR st sz u n xs) (hl:xs.length=n*sz) (hi:i<n) (hf:f+m<=sz):Ah st [] (.t (Ao (ixT sz u i) f)) 0 m=some ((xs.drop (i*sz+f)).take m):=by
 have hm:(i+1)*sz<=n*sz:=Nat.mul_le_mul_right _ hi
 rw[Nat.add_mul,Nat.one_mul]at hm
 rcases h with(⟨rfl,rfl,rfl⟩ | ⟨tip,rfl⟩) | ⟨b,off,cap,l,rfl,h2,h3,h4,h5,rfl⟩
 ·omega
 ·show Ah st [] (.t (.rptr ((xs.drop (i*sz)).drop f))) 0 m=_
  rw[List.drop_drop,Pm m 0 (by rw[List.length_drop];omega),List.drop_zero]
 ·have hc:n*sz<=cap*sz:=Nat.mul_le_mul_right _ h5
  have e1:(((l.drop off).take (n*sz)).drop (i*sz+f)).take m=(l.drop (off+i*sz+f)).take m:=by
   rw[List.drop_take,List.drop_drop,List.take_take,Nat.min_eq_left (by omega),Nat.add_assoc]
  rw[e1]
  have e:=JS (B:=l.drop (off+i*sz+f+m)) (st:=st) (b:=b) ((l.drop (off+i*sz+f)).take m) l 0 (off+i*sz+f) h3 (by
   have:=List.take_append_drop m (l.drop (off+i*sz+f))
   rw[List.drop_drop]at this
   rw[Nat.add_zero];exact this.symm)
  rw[show((l.drop (off+i*sz+f)).take m).length=m by simp;omega]at e
  exact e
theorem SlR.ldf {st:St} {sz n i f:Nat} {u x:TV} {xs:List TV} (h:SlR st sz u n xs) (hl:xs.length=n*sz) (hi:i<n) (hf:f<sz) (hx:xs[i*sz+f]? =some x):Ad st [] (.t (Ao (ixT sz u i) f)) 0=some x:=by
 have:=h.ldcf (f:=f) (m:=1) hl hi (by omega)
 have hlt:i*sz+f<xs.length:=by
  obtain⟨q,_⟩:=List.getElem?_eq_some_iff.1 hx
  exact q
 rw[List.drop_eq_getElem_cons hlt]at this
 rw[List.getElem?_eq_getElem hlt]at hx
 simp only[Ah,List.take_succ_cons,List.take_zero]at this
 cases hq:Ad st [] (.t (Ao (ixT sz u i) f)) 0 with
 | none=>rw[hq]at this;cases this
 | some y=>
  rw[hq]at this
  simp only[Option.map_some,Option.some.injEq,List.cons.injEq,and_true]at this
  rw[this];exact hx
theorem SlR.toBytes {st:St} {u:TV} {l:B8} (h:SlR st 1 u l.length (AC l)):TVF.toBytes st u=some l:=by
 have hl:(AC l).length=l.length:=D4 l
 rcases h with(⟨rfl,h1,_⟩ | ⟨tip,rfl⟩) | ⟨b,off,cap,m,rfl,h2,h3,h4,h5,h6⟩
 ·rw[List.eq_nil_of_length_eq_zero h1];rfl
 ·simp[TVF.toBytes,DF]
 ·have e:=JS (B:=m.drop (off+l.length)) (st:=st) (b:=b) (AC l) m 0 off h3 (by
   rw[h6,Nat.add_zero,Nat.mul_one,<-List.drop_drop,List.take_append_drop])
  rw[hl]at e
  simp only[TVF.toBytes,Nat.beq_refl,e,DF]
theorem val14 {st0 st:St} {uf:TV} {xf:List TV} {l:List Fd} (hke:BG st0 st) (h2:SlR st0 14 uf l.length xf) (h3:FsR st0 l xf) {i:Int} {k:Nat} (hi:i=k) (hk:k<l.length) {f:Fun [.int .i64,.bool,.bool,.str,.int .i64,.int .i64,.int .i64,.int .i64,.int .i64,.str,.tv,.tv,.tv] Prop}
  (hf:∀key s' l' f' ub1 ul1 uf1,l[k]? =some (.mk key (.mk s' l' f'))->VlR st0 (.mk s' l' f') (Bo s' ub1 ul1 uf1)->List.all (Bo s' ub1 ul1 uf1) As=true->f s'.kind s'.b s'.neg s'.dg s'.ex s'.tk s'.td s'.tn s'.tz s'.text ub1 ul1 uf1):
  (0<=i/\i<(lenZ 14 uf:Int))/\need (TVF.isPtr (ixT 14 uf (Int.toNat i))) (Ae ((Ah st [] (.t (Ao (ixT 14 uf (Int.toNat i)) 1)) 0 13).map TV.agg) fun x=>AK [.int .i64,.bool,.bool,.str,.int .i64,.int .i64,.int .i64,.int .i64,.int .i64,.str,.tv,.tv,.tv] x f):=by
 subst hi
 have gw:l[k]? =some l[k]:=List.getElem?_eq_getElem hk
 obtain⟨cw,hw,hcw,hcl⟩:=h3.get gw
 rw[h2.lenZ,Int.toNat_natCast]
 refine⟨⟨by omega,by omega⟩,Ab (h2.isPtr hk) ?_⟩
 rw[(h2.keep hke).ldcf (f:=1) (m:=13) h3.len hk (by omega)]
 generalize l[k]=w at*
 cases w with
 | mk key w=>
 cases w with
 | mk s' l' f'=>
 unfold FdR at hw
 obtain⟨cw2,rfl,hw1⟩:=hw
 have hw2:=hw1
 unfold VlR at hw2
 obtain⟨ub',ul',uf',xl',xf',rfl,w1,w2,w3,w4,w5⟩:=hw2
 have e:(xf.drop (k*14+1)).take 13=Bo s' ub' ul' uf':=by
  rw[<-List.drop_drop]
  have:=congrArg (fun z=>z.drop 1) hcw
  simp only[List.drop_take]at this
  simpa [Bo]using this
 rw[e]
 exact Ac rfl (decA13 (hf key s' l' f' ub' ul' uf' gw hw1 (Dg w1.one w2.one w4.one)))
theorem BG.trans {a b c:St} (h:BG a b) (k:BG b c):BG a c:=⟨Nat.le_trans h.1 k.1,fun i hi=>(k.2 i (Nat.lt_of_lt_of_le hi h.1)).trans (h.2 i hi)⟩
theorem BG.refl (a:St):BG a a:=⟨Nat.le_refl _,fun _ _=>rfl⟩
theorem Al {s:B8} {f:B8->Prop} (h:f s):Af .str (.str s) f:=h
theorem AA {k:IntKind} {n:Int} {f:Int->Prop} (h:f n):Af (.int k) (.int k n) f:=by
 simp only[Af];exact h
theorem Aq {b:Bool} {f:Bool->Prop} (h:f b):Af .bool (.bool b) f:=h
theorem Fu {α:Type} {K:α->St->Prop} {a b:α} {st:St} (h:a=b) (hk:K b st):K a st:=h▸hk
def rD (l:B8):Nat×Nat:=if ul l=0 then(0,0)else(ur l,ul l)
theorem TA (l:B8):vlen l<=l.length:=Xe _ l (Nat.le_refl _)
theorem Cf:vlen []=0:=BI _ (by simp[ul])
theorem Rd.ldx {sz:Nat} {v:TV} {n:Nat} {xs:List TV} (h:Rd sz v n xs) (st:St) (i j:Nat) {x:TV} (hx:xs[i*sz+j]? =some x):Ad st [] (.t (ixT sz v i)) j=some x:=by
 obtain⟨hlt,hx⟩:=List.getElem?_eq_some_iff.1 hx
 rw[h.ld st i j hlt,hx]
theorem Rd.ldfx {sz:Nat} {v:TV} {n:Nat} {xs:List TV} (h:Rd sz v n xs) (st:St) (i j:Nat) {x:TV} (hx:xs[i*sz+j]? =some x):Ad st [] (.t (Ao (ixT sz v i) j)) 0=some x:=by
 obtain⟨hlt,hx⟩:=List.getElem?_eq_some_iff.1 hx
 rw[h.ldf st i j hlt,hx]
def hdS (b:Nat):Nat:=if b<128 then 1 else if 192<=b/\b<224 then 2 else if 224<=b/\b<240 then 3 else if 240<=b/\b<248 then 4 else 0
def hdB (b:Nat):Nat:=if b<128 then b else if 192<=b/\b<224 then b%32 else if 224<=b/\b<240 then b%16 else if 240<=b/\b<248 then b%8 else 0
def wid (r:Nat):Nat:=if r<128 then 1 else if r<2048 then 2 else if r<65536 then 3 else 4
theorem J3 (a m:Nat) (ha:a<256) (hm:m<=8):C0 .and .u8 (a:Int) ((2^m-1:Nat):Int)=((a%2^m:Nat):Int):=by
 have:2^m<=2^8:=Nat.pow_le_pow_right (by decide) hm
 rw[and_u8 _ _ ha (by omega),Nat.and_two_pow_sub_one_eq_mod]
theorem head_ok {B:Int} {b:Nat} {st:St} {K:Int->Int->St->Prop} (hB:B=(b:Int)) (hb:b<256) (hk:K (hdS b:Nat) (hdB b:Nat) st):CallT PR Jw [.int .u8 B] [.one (.int .i64),.one (.int .i64)] st K:=by
 have m31:C0 .and .u8 B (31:Int)=((b%32:Nat):Int):=by rw[hB];exact J3 b 5 hb (by decide)
 have m15:C0 .and .u8 B (15:Int)=((b%16:Nat):Int):=by rw[hB];exact J3 b 4 hb (by decide)
 have m7:C0 .and .u8 B (7:Int)=((b%8:Nat):Int):=by rw[hB];exact J3 b 3 hb (by decide)
 unfold hdS hdB at hk
 have kk:∀(x y x' y':Int),x=x'->y=y'->K x' y' st->K x y st:=fun x y x' y' h1 h2 hk=>by rw[h1,h2];exact hk
 refine TD B st K ?_
 rw[m31,m15,m7,Ai B (by omega) (by omega),Ai ((b%32:Nat):Int) (by omega) (by omega),Ai ((b%16:Nat):Int) (by omega) (by omega),Ai ((b%8:Nat):Int) (by omega) (by omega)]
 by_cases g1:b<128
 ·rw[if_pos g1,if_pos g1]at hk
  exact Aa (fun _=>kk _ _ _ _ rfl hB hk) fun h=>by omega
 rw[if_neg g1,if_neg g1]at hk
 refine Aa (fun h=>by omega) fun _=>?_
 by_cases g2:192<=b/\b<224
 ·rw[if_pos g2,if_pos g2]at hk
  exact Aa (fun _=>Aa (fun _=>hk) fun h=>by omega) fun h=>by omega
 rw[if_neg g2,if_neg g2]at hk
 by_cases g3:224<=b/\b<240
 ·rw[if_pos g3,if_pos g3]at hk
  refine Aa (fun _=>Aa (fun h=>by omega) fun _=>?_) fun h=>by omega
  exact Aa (fun _=>Aa (fun _=>hk) fun h=>by omega) fun h=>by omega
 rw[if_neg g3,if_neg g3]at hk
 by_cases g4:240<=b/\b<248
 ·rw[if_pos g4,if_pos g4]at hk
  refine Aa (fun _=>Aa (fun h=>by omega) fun _=>?_) fun h=>by omega
  refine Aa (fun _=>Aa (fun h=>by omega) fun _=>?_) fun h=>by omega
  exact Aa (fun _=>Aa (fun _=>hk) fun h=>by omega) fun h=>by omega
 rw[if_neg g4,if_neg g4]at hk
 repeat' first
  | exact hk
  | omega
  | refine Aa (fun _=>?_) fun _=>?_
theorem Yu {R:Int} {r:Nat} {st:St} {K:Bool->St->Prop} (hR:R=(r:Int)) (hk:K (decide (Cw r)) st):CallT PR G8 [.int .i64 R] [.one (.bool)] st K:=by
 unfold Cw at hk
 refine Qg R st K (Aa (fun _=>Aa (fun h2=>Aa (fun h3=>?_) fun h3=>?_) fun h2=>?_) fun h1=>by omega)
 ·exact Fu (decide_eq_true (by omega)).symm hk
 ·exact Fu (decide_eq_decide.2 (by omega)) hk
 ·exact Fu (decide_eq_false (by omega)).symm hk
theorem Zq {R:Int} {r:Nat} {st:St} {K:Int->St->Prop} (hR:R=(r:Int)) (hk:K (wid r:Nat) st):CallT PR Ij [.int .i64 R] [.one (.int .i64)] st K:=by
 unfold wid at hk
 refine R6 R st K (Aa (fun h1=>?_) fun h1=>Aa (fun h2=>?_) fun h2=>Aa (fun h3=>?_) fun h3=>?_)
 ·rw[if_pos (by omega)]at hk;exact hk
 ·rw[if_neg (by omega),if_pos (by omega)]at hk;exact hk
 ·rw[if_neg (by omega),if_neg (by omega),if_pos (by omega)]at hk;exact hk
 ·rw[if_neg (by omega),if_neg (by omega),if_neg (by omega)]at hk;exact hk
def SF (l:B8):Prop:=hdS (bt l 0)≠0/\hdS (bt l 0)<=l.length/\(∀j,1<=j->j<hdS (bt l 0)->bt l j/64=2)/\Cw (Dl l (hdB (bt l 0)) (hdS (bt l 0)-1))/\wid (Dl l (hdB (bt l 0)) (hdS (bt l 0)-1))=hdS (bt l 0)
theorem pd_val (l:B8) (h:l≠ []) (hp:SF l):ul l=hdS (bt l 0)/\ur l=Dl l (hdB (bt l 0)) (hdS (bt l 0)-1):=by
 obtain⟨p1,p2,p3,p4,p5⟩:=hp
 have e:=Ia l h
 have h0:=GT l 0
 have e0:(l.getD 0 0).toNat=bt l 0:=rfl
 have e1:(l.getD 1 0).toNat=bt l 1:=rfl
 have e2:(l.getD 2 0).toNat=bt l 2:=rfl
 have e3:(l.getD 3 0).toNat=bt l 3:=rfl
 have fin:∀n r,rsz (bt l 0)=n->rb0 (bt l 0)=r->n=hdS (bt l 0)->r=hdB (bt l 0)->Hd (Dl l r (n-1))=l.take n->ul l=hdS (bt l 0)/\ur l=Dl l (hdB (bt l 0)) (hdS (bt l 0)-1):=by
  intro n r hn hr hn2 hr2 henc
  unfold SD at e
  simp only[hn,hr]at e
  rw[if_neg (by omega),if_pos ⟨by rw[hr2,hn2];exact p4,henc⟩]at e
  by_cases hz:ul l=0
  ·rw[if_pos hz]at e;simp only[Prod.mk.injEq]at e;omega
  ·rw[if_neg hz]at e;simp only[Prod.mk.injEq]at e
   exact⟨by omega,by rw[<-hr2,<-hn2];exact e.1.symm⟩
 have h1:=GT l 1
 have h2:=GT l 2
 have h3:=GT l 3
 by_cases g1:bt l 0<128
 ·have hs:hdS (bt l 0)=1:=by unfold hdS;rw[if_pos g1]
  have hb:hdB (bt l 0)=bt l 0:=by unfold hdB;rw[if_pos g1]
  refine fin 1 (bt l 0) (by unfold rsz;rw[if_neg (by omega),if_neg (by omega),if_neg (by omega)]) (by unfold rb0;rw[if_neg (by omega),if_neg (by omega),if_neg (by omega)]) hs.symm hb.symm ?_
  rw[Jb l (by omega)]
  simp only[Nat.sub_self,Dl]
  unfold Hd
  rw[if_pos g1]
  simp only[DC,Dq,e0,and_true]
  omega
 by_cases g2:192<=bt l 0/\bt l 0<224
 ·have hs:hdS (bt l 0)=2:=by unfold hdS;rw[if_neg g1,if_pos g2]
  have hb:hdB (bt l 0)=bt l 0%32:=by unfold hdB;rw[if_neg g1,if_pos g2]
  rw[hs]at p3 p5
  rw[hb]at p5
  have q1:=p3 1 (by omega) (by omega)
  refine fin 2 (bt l 0%32) (by unfold rsz;rw[if_neg (by omega),if_neg (by omega),if_pos (by omega)]) (by unfold rb0;rw[if_neg (by omega),if_neg (by omega),if_pos (by omega)]) hs.symm hb.symm ?_
  rw[Ld l (by omega)]
  simp only[Nat.reduceSub,Dl,Nat.zero_add]at p5⊢
  generalize bt l 0=b0 at*
  generalize bt l 1=b1 at*
  unfold wid at p5
  unfold Hd
  by_cases k1:b0%32*64+b1%64<128
  ·rw[if_pos k1]at p5;omega
  rw[if_neg k1]at p5⊢
  by_cases k2:b0%32*64+b1%64<2048
  ·rw[if_pos k2]
   simp only[DC,Dq,e0,e1,and_true]
   omega
  ·rw[if_neg k2]at p5;split at p5<;>omega
 by_cases g3:224<=bt l 0/\bt l 0<240
 ·have hs:hdS (bt l 0)=3:=by unfold hdS;rw[if_neg g1,if_neg g2,if_pos g3]
  have hb:hdB (bt l 0)=bt l 0%16:=by unfold hdB;rw[if_neg g1,if_neg g2,if_pos g3]
  rw[hs]at p3 p5
  rw[hb]at p5
  have q1:=p3 1 (by omega) (by omega)
  have q2:=p3 2 (by omega) (by omega)
  refine fin 3 (bt l 0%16) (by unfold rsz;rw[if_neg (by omega),if_pos (by omega)]) (by unfold rb0;rw[if_neg (by omega),if_pos (by omega)]) hs.symm hb.symm ?_
  rw[H2 l (by omega)]
  simp only[Nat.reduceSub,Dl,Nat.zero_add,Nat.reduceAdd]at p5⊢
  generalize bt l 0=b0 at*
  generalize bt l 1=b1 at*
  generalize bt l 2=b2 at*
  generalize hr:(b0%16*64+b1%64)*64+b2%64=r at*
  unfold wid at p5
  unfold Hd
  by_cases k1:r<128
  ·rw[if_pos k1]at p5;omega
  rw[if_neg k1]at p5⊢
  by_cases k2:r<2048
  ·rw[if_pos k2]at p5;omega
  rw[if_neg k2]at p5⊢
  by_cases k3:r<65536
  ·rw[if_pos k3]
   simp only[DC,Dq,e0,e1,e2,and_true]
   omega
  ·rw[if_neg k3]at p5;omega
 by_cases g4:240<=bt l 0/\bt l 0<248
 ·have hs:hdS (bt l 0)=4:=by unfold hdS;rw[if_neg g1,if_neg g2,if_neg g3,if_pos g4]
  have hb:hdB (bt l 0)=bt l 0%8:=by unfold hdB;rw[if_neg g1,if_neg g2,if_neg g3,if_pos g4]
  rw[hs]at p3 p4 p5
  rw[hb]at p4 p5
  have q1:=p3 1 (by omega) (by omega)
  have q2:=p3 2 (by omega) (by omega)
  have q3:=p3 3 (by omega) (by omega)
  refine fin 4 (bt l 0%8) (by unfold rsz;rw[if_pos (by omega)]) (by unfold rb0;rw[if_pos (by omega)]) hs.symm hb.symm ?_
  rw[Me l (by omega)]
  simp only[Nat.reduceSub,Dl,Nat.zero_add,Nat.reduceAdd]at p4 p5⊢
  generalize bt l 0=b0 at*
  generalize bt l 1=b1 at*
  generalize bt l 2=b2 at*
  generalize bt l 3=b3 at*
  generalize hr:((b0%8*64+b1%64)*64+b2%64)*64+b3%64=r at*
  unfold wid at p5
  unfold Hd
  by_cases k1:r<128
  ·rw[if_pos k1]at p5;omega
  rw[if_neg k1]at p5⊢
  by_cases k2:r<2048
  ·rw[if_pos k2]at p5;omega
  rw[if_neg k2]at p5⊢
  by_cases k3:r<65536
  ·rw[if_pos k3]at p5;omega
  rw[if_neg k3]
  have:=p4.1
  simp only[DC,Dq,e0,e1,e2,e3,and_true]
  omega
 ·exfalso
  unfold hdS at p1
  rw[if_neg g1,if_neg g2,if_neg g3,if_neg g4]at p1
  exact p1 rfl
theorem Z2 (l:B8) (h:l≠ []):ul l≠0->SF l:=by
 intro hu
 have e:=Ia l h
 rw[if_neg hu]at e
 have h0:=GT l 0
 have e0:(l.getD 0 0).toNat=bt l 0:=rfl
 have e1:(l.getD 1 0).toNat=bt l 1:=rfl
 have e2:(l.getD 2 0).toNat=bt l 2:=rfl
 have e3:(l.getD 3 0).toNat=bt l 3:=rfl
 have h1:=GT l 1
 have h2:=GT l 2
 have h3:=GT l 3
 have hc:¬l.length<rsz (bt l 0)/\Cw (Dl l (rb0 (bt l 0)) (rsz (bt l 0)-1))/\Hd (Dl l (rb0 (bt l 0)) (rsz (bt l 0)-1))=l.take (rsz (bt l 0)):=by
  unfold SD at e
  simp only at e
  split at e
  ·simp only[Prod.mk.injEq]at e;omega
  ·split at e
   ·rename_i a b;exact⟨a,b⟩
   ·simp only[Prod.mk.injEq]at e;omega
 obtain⟨hl,hch,henc⟩:=hc
 by_cases g4:240<=bt l 0
 ·have r4:rsz (bt l 0)=4:=by unfold rsz;rw[if_pos g4]
  have rb:rb0 (bt l 0)=bt l 0%8:=by unfold rb0;rw[if_pos g4]
  rw[r4,rb]at henc hch
  rw[r4]at hl
  rw[Me l (by omega)]at henc
  unfold SF hdS hdB
  simp only[Nat.reduceSub,Dl,Nat.zero_add,Nat.reduceAdd]at henc hch
  generalize hb0:bt l 0=b0 at*
  generalize hb1:bt l 1=b1 at*
  generalize hb2:bt l 2=b2 at*
  generalize hb3:bt l 3=b3 at*
  have hr0:∃r,r=((b0%8*64+b1%64)*64+b2%64)*64+b3%64:=⟨_,rfl⟩
  obtain⟨r,hr⟩:=hr0
  rw[<-hr]at henc hch
  have hmax:=hch.1
  unfold Hd at henc
  have hw:wid r=4/\b0=240+r/262144/\b1/64=2/\b2/64=2/\b3/64=2:=by
   unfold wid
   split at henc
   ·simp at henc
   ·split at henc
    ·simp at henc
    ·split at henc
     ·simp at henc
     ·simp only[DC,Dq,e0,e1,e2,e3,and_true]at henc
      refine⟨by rw[if_neg ‹_›,if_neg ‹_›,if_neg ‹_›],by omega,by omega,by omega,by omega⟩
  rw[if_neg (show ¬b0<128 by omega),if_neg (show ¬(192<=b0/\b0<224) by omega),if_neg (show ¬(224<=b0/\b0<240) by omega),if_pos (show 240<=b0/\b0<248 by omega),if_neg (show ¬b0<128 by omega),if_neg (show ¬(192<=b0/\b0<224) by omega),if_neg (show ¬(224<=b0/\b0<240) by omega),if_pos (show 240<=b0/\b0<248 by omega)]
  simp only[Nat.reduceSub,Dl,Nat.zero_add,Nat.reduceAdd,hb1,hb2,hb3]
  rw[<-hr]
  refine⟨by omega,by omega,fun j j1 j2=>?_,hch,hw.1⟩
  have:j=1∨j=2∨j=3:=by omega
  rcases this with rfl | rfl | rfl<;>omega
 by_cases g3:224<=bt l 0
 ·have r4:rsz (bt l 0)=3:=by unfold rsz;rw[if_neg g4,if_pos g3]
  have rb:rb0 (bt l 0)=bt l 0%16:=by unfold rb0;rw[if_neg g4,if_pos g3]
  rw[r4,rb]at henc hch
  rw[r4]at hl
  rw[H2 l (by omega)]at henc
  unfold SF hdS hdB
  simp only[Nat.reduceSub,Dl,Nat.zero_add,Nat.reduceAdd]at henc hch
  generalize hb0:bt l 0=b0 at*
  generalize hb1:bt l 1=b1 at*
  generalize hb2:bt l 2=b2 at*
  have hr0:∃r,r=(b0%16*64+b1%64)*64+b2%64:=⟨_,rfl⟩
  obtain⟨r,hr⟩:=hr0
  rw[<-hr]at henc hch
  unfold Hd at henc
  have hw:wid r=3/\b1/64=2/\b2/64=2:=by
   unfold wid
   split at henc
   ·simp at henc
   ·split at henc
    ·simp at henc
    ·split at henc
     ·simp only[DC,Dq,e0,e1,e2,and_true]at henc
      refine⟨by rw[if_neg ‹_›,if_neg ‹_›,if_pos ‹_›],by omega,by omega⟩
     ·simp at henc
  rw[if_neg (show ¬b0<128 by omega),if_neg (show ¬(192<=b0/\b0<224) by omega),if_pos (show 224<=b0/\b0<240 by omega),if_neg (show ¬b0<128 by omega),if_neg (show ¬(192<=b0/\b0<224) by omega),if_pos (show 224<=b0/\b0<240 by omega)]
  simp only[Nat.reduceSub,Dl,Nat.zero_add,Nat.reduceAdd,hb1,hb2]
  rw[<-hr]
  refine⟨by omega,by omega,fun j j1 j2=>?_,hch,hw.1⟩
  have:j=1∨j=2:=by omega
  rcases this with rfl | rfl<;>omega
 by_cases g2:192<=bt l 0
 ·have r4:rsz (bt l 0)=2:=by unfold rsz;rw[if_neg g4,if_neg g3,if_pos g2]
  have rb:rb0 (bt l 0)=bt l 0%32:=by unfold rb0;rw[if_neg g4,if_neg g3,if_pos g2]
  rw[r4,rb]at henc hch
  rw[r4]at hl
  rw[Ld l (by omega)]at henc
  unfold SF hdS hdB
  simp only[Nat.reduceSub,Dl,Nat.zero_add,Nat.reduceAdd]at henc hch
  generalize hb0:bt l 0=b0 at*
  generalize hb1:bt l 1=b1 at*
  have hr0:∃r,r=b0%32*64+b1%64:=⟨_,rfl⟩
  obtain⟨r,hr⟩:=hr0
  rw[<-hr]at henc hch
  unfold Hd at henc
  have hw:wid r=2/\b1/64=2:=by
   unfold wid
   split at henc
   ·simp at henc
   ·split at henc
    ·simp only[DC,Dq,e0,e1,and_true]at henc
     refine⟨by rw[if_neg ‹_›,if_pos ‹_›],by omega⟩
    ·split at henc<;>simp at henc
  rw[if_neg (show ¬b0<128 by omega),if_pos (show 192<=b0/\b0<224 by omega),if_neg (show ¬b0<128 by omega),if_pos (show 192<=b0/\b0<224 by omega)]
  simp only[Nat.reduceSub,Dl,Nat.zero_add,hb1]
  rw[<-hr]
  refine⟨by omega,by omega,fun j j1 j2=>?_,hch,hw.1⟩
  have:j=1:=by omega
  subst this;omega
 ·have r4:rsz (bt l 0)=1:=by unfold rsz;rw[if_neg g4,if_neg g3,if_neg g2]
  have rb:rb0 (bt l 0)=bt l 0:=by unfold rb0;rw[if_neg g4,if_neg g3,if_neg g2]
  rw[r4,rb]at henc hch
  rw[r4]at hl
  rw[Jb l (by omega)]at henc
  unfold SF hdS hdB
  simp only[Nat.sub_self,Dl]at henc hch
  generalize hb0:bt l 0=b0 at*
  have hlt:b0<128:=by
   unfold Hd at henc
   split at henc
   ·assumption
   ·split at henc
    ·simp at henc
    ·split at henc<;>simp at henc
  rw[if_pos hlt,if_pos hlt]
  simp only[Nat.sub_self,Dl]
  refine⟨by omega,by omega,fun j j1 j2=>by omega,hch,by unfold wid;rw[if_pos hlt]⟩
theorem Oy {s:B8} {I:Int} {i:Nat} {st:St} {K:Int->Int->St->Prop} (hI:I=(i:Int)) (hl:s.length<=2000000) (hi:i<=s.length) (hk:K ((rD (s.drop i)).1:Nat) ((rD (s.drop i)).2:Nat) st):
  CallT PR E6 [.str s,.int .i64 I] [.one (.int .i64),.one (.int .i64)] st K:=by
 have no:¬SF (s.drop i)->s.drop i≠ []->K 0 0 st:=fun h hne=>by
  have:ul (s.drop i)=0:=Decidable.byContradiction fun h0=>h (Z2 _ hne h0)
  unfold rD at hk
  rw[if_pos this]at hk;exact hk
 have yes:SF (s.drop i)->s.drop i≠ []->K (Dl (s.drop i) (hdB (bt (s.drop i) 0)) (hdS (bt (s.drop i) 0)-1):Nat) (hdS (bt (s.drop i) 0):Nat) st:=fun h hne=>by
  have hv:=pd_val _ hne h
  unfold rD at hk
  rw[if_neg (by rw[hv.1];exact h.1),hv.1,hv.2]at hk
  exact hk
 have hlen:(s.drop i).length=s.length-i:=by simp
 have hb:∀j,bt (s.drop i) j=(s.getD (i+j) 0).toNat:=J0 s i
 refine Qh s I st K (Aa (fun h=>by omega) fun _=>Aa (fun h=>?_) fun h=>⟨⟨by omega,by omega⟩,?_⟩)
 ·have:s.drop i=[]:=List.drop_of_length_le (by omega)
  have h0:rD (s.drop i)=(0,0):=by rw[this];simp[rD,ul]
  rw[h0]at hk;exact hk
 have hne:s.drop i≠ []:=by
  intro h0
  have:=congrArg List.length h0
  rw[hlen]at this;simp only[List.length_nil]at this;omega
 have hb0:(List.getD s (Int.toNat I) 0).toNat=bt (s.drop i) 0:=by rw[hb,hI];rfl
 have hlt:=GT (s.drop i) 0
 rw[hb0]
 refine head_ok rfl hlt ?_
 have hsz:hdS (bt (s.drop i) 0)<=4:=by unfold hdS;(repeat' split)<;>omega
 have hbz:hdB (bt (s.drop i) 0)<256:=by unfold hdB;(repeat' split)<;>omega
 unfold SF at no yes
 generalize hdS (bt (s.drop i) 0)=n at*
 generalize hdB (bt (s.drop i) 0)=r0 at*
 rw[Ai _ (by omega) (by omega)]
 refine Aa (fun g=>no (fun hh=>hh.1 (by omega)) hne) fun g1=>Aa (fun g=>no (fun hh=>by omega) hne) fun g2=>?_
 have hra:=Xr (s.drop i) r0 hbz
 refine⟨fun r j s' at' sz st2=>s=s'/\I=at'/\st=st2/\((n:Nat):Int)=sz/\∃k:Nat,j=((k+1:Nat):Int)/\k+1<=n/\r=((Dl (s.drop i) r0 k:Nat):Int)/\∀m,1<=m->m<=k->bt (s.drop i) m/64=2,fun _ j _ _ sz _=>(sz-j).toNat,⟨rfl,rfl,rfl,rfl,0,rfl,by omega,rfl,fun m h1 h2=>by omega⟩,?_⟩
 rintro _ _ _ _ _ _ ⟨rfl,rfl,rfl,rfl,k,rfl,hk1,rfl,hall⟩
 have hrk:=hra k
 have h64:64^k<=64^3:=Nat.pow_le_pow_right (by decide) (by omega)
 refine Aa (fun h2=>?_) fun h2=>?_
 ·rw[Ai (I+((k+1:Nat):Int)) (by omega) (by omega)]
  have hbk:(List.getD s (Int.toNat (I+((k+1:Nat):Int))) 0).toNat=bt (s.drop i) (k+1):=by
   rw[hb,show Int.toNat (I+((k+1:Nat):Int))=i+(k+1) by omega]
  have hbl:=GT (s.drop i) (k+1)
  have h192:C0 .and .u8 ((bt (s.drop i) (k+1):Nat):Int) (192:Int)=((bt (s.drop i) (k+1)&&&192:Nat):Int):=and_u8 _ 192 hbl (by decide)
  have hand:i64.wrap (C0 .and .u8 ((bt (s.drop i) (k+1):Nat):Int) (63:Int))=((bt (s.drop i) (k+1)%64:Nat):Int):=by
   rw[show(63:Int)=((2^6-1:Nat):Int) by decide,J3 _ 6 hbl (by decide),Ai _ (by omega) (by omega)]
  have hmul:i64.wrap (((Dl (s.drop i) r0 k:Nat):Int)*2^(min (Int.toNat (6:Int)) (IntKind.bits .i64)))=((Dl (s.drop i) r0 k*2^6:Nat):Int):=by
   rw[show(2:Int)^(min (Int.toNat (6:Int)) (IntKind.bits .i64))=64 by decide,Ai _ (by omega) (by omega)];omega
  have hc:(bt (s.drop i) (k+1)&&&192)=128↔bt (s.drop i) (k+1)/64=2:=by
   have:∀x,x<256->((x&&&192)=128↔x/64=2):=by decide+kernel
   exact this _ hbl
  refine⟨⟨by omega,by omega⟩,?_⟩
  rw[hbk,h192,hand,hmul,or_add _ _ 6 (by omega) (by omega),Ai _ (by omega) (by omega)]
  refine Aa (fun h3=>no (fun hh=>h3 ?_) hne) fun h3=>?_
  ·have:=hh.2.2.1 (k+1) (by omega) (by omega)
   rw[hc.2 this];rfl
  ·have h4:bt (s.drop i) (k+1)/64=2:=hc.1 (by omega)
   refine⟨⟨rfl,rfl,rfl,rfl,k+1,by omega,by omega,by simp only[Dl],fun m m1 m2=>?_⟩,by dsimp only;omega⟩
   by_cases hm:m=k+1
   ·rw[hm];exact h4
   ·exact hall m m1 (by omega)
 ·have hks:k=n-1:=by omega
  subst hks
  refine Yu rfl (Ap (fun h3=>no (fun hh=>?_) hne) fun h3=>Zq rfl (Aa (fun h4=>no (fun hh=>?_) hne) fun h4=>?_))
  ·simp only[Bool.not_eq_true',decide_eq_false_iff_not]at h3
   exact h3 hh.2.2.2.1
  ·rw[hh.2.2.2.2]at h4;exact h4 rfl
  ·simp only[Bool.not_eq_false',decide_eq_true_eq]at h3
   exact yes ⟨by omega,by omega,fun m m1 m2=>hall m m1 (by omega),h3,by omega⟩ hne
theorem uLen_ok {s:B8} {st:St} {K:Int->Int->St->Prop} (hl:s.length<=2000000) (hk:∀n:Int,K n (if vlen s=s.length then 0 else 5) st):CallT PR KL [.str s] [.one (.int .i64),.one (.int .i64)] st K:=by
 have hv:=TA s
 refine VD s st K ⟨fun n i s' st'=>s=s'/\st=st'/\∃k:Nat,i=(k:Int)/\k<=s.length/\k+vlen (s.drop k)=vlen s,fun _ i _ _=>(s.length-i).toNat,⟨rfl,rfl,0,rfl,by omega,by simp⟩,?_⟩
 rintro n _ _ _ ⟨rfl,rfl,k,rfl,h1,h2⟩
 refine Aa (fun g1=>Oy rfl hl h1 ?_) fun g1=>?_
 ·have hle:=I7 (s.drop k)
  rw[List.length_drop]at hle
  unfold rD
  by_cases h0:ul (s.drop k)=0
  ·rw[if_pos h0]
   rw[BI _ h0]at h2
   have:=hk 0
   rw[if_neg (by omega)]at this
   exact Aa (fun _=>this) fun h=>absurd rfl h
  ·rw[if_neg h0]
   rw[BJ _ h0,List.drop_drop]at h2
   refine Aa (fun h=>absurd h (by show ¬((ul (s.drop k):Nat):Int)=0;omega)) fun _=>?_
   have w:i64.wrap ((k:Int)+(ul (s.drop k):Nat))=((k+ul (s.drop k):Nat):Int):=by rw[Ai _ (by omega) (by omega)];omega
   dsimp only
   rw[w]
   exact⟨⟨rfl,rfl,_,rfl,by omega,by omega⟩,by omega⟩
 ·rw[show s.drop k=[]from List.drop_of_length_le (by omega),Cf]at h2
  have:=hk n
  rw[if_pos (by omega)]at this
  exact this
theorem L7 {s:B8} {st:St} {K:Bool->St->Prop} (hl:s.length<=2000000) (hk:K (decide (vlen s=s.length)) st):CallT PR EE [.str s] [.one (.bool)] st K:=by
 refine R7 s st K (uLen_ok hl fun n=>?_)
 by_cases h:vlen s=s.length
 ·rw[if_pos h];rw[decide_eq_true h]at hk;exact hk
 ·rw[if_neg h];rw[decide_eq_false h]at hk;exact hk
theorem La {l:B8} {c:UInt8} (hc:c.toNat<128) (hl:l.length<=9223372036854775807) {st:St} {K:B8->St->Prop} (hk:K (Lib.trimRightB l c) st):CallT PR Dv [.str l,.str [c]] [.one .str] st K:=by
 refine CI (fun _ _=>by kernel_rfl) fun g w vargs s hr=>?_
 obtain⟨v,u,rfl,hv,hu⟩:=Lq hr
 rw[Bf hv,Bf hu]
 refine Calls.mono (Tryz.strings_TrimRight_one ⟨l.toArray⟩ c hc w (by simpa [ByteArray.size]using hl)) ?_
 rintro e w' ⟨rfl,rfl⟩
 exact⟨_,rfl,.str _,st,g,hk,s,Rel.str _,Ext.refl _ _⟩
theorem I9 (l:B8):(Lib.trimRightB l 48).length+A4 l=l.length:=by
 unfold Lib.trimRightB A4
 have:=congrArg List.length (List.takeWhile_append_dropWhile (p:=fun x:UInt8=>x==48) (l:=l.reverse))
 rw[List.length_append,List.length_reverse]at this
 rw[List.length_reverse];omega
theorem Zm {l:B8} (hl:l.length<=2000000) {st:St} {K:Int->St->Prop} (hk:K (A4 l:Nat) st):CallT PR Fz [.str l] [.one (.int .i64)] st K:=by
 refine Ny _ st K (La (by decide) (by omega) ?_)
 have:=I9 l
 rw[Ai _ (by omega) (by omega),show((l.length:Nat):Int)-((Lib.trimRightB l 48).length:Int)=(A4 l:Nat) by omega]
 exact hk
theorem LD {l:B8} {n:Nat} (h:n<l.length):List.getD l n 0∈l:=by
 rw[List.getD_eq_getElem?_getD,List.getElem?_eq_getElem h,Option.getD_some]
 exact List.getElem_mem h
theorem all_snoc {P:UInt8->Prop} {l:B8} {n:Nat} (h:n<l.length) (h1:∀c,c∈l.take n->P c) (h2:P (List.getD l n 0)):∀c,c∈l.take (n+1)->P c:=by
 intro c hc
 rw[EV _ _ 0 h]at hc
 rcases List.mem_append.1 hc with hc | hc
 ·exact h1 c hc
 ·rw[List.mem_singleton.1 hc];exact h2
theorem all_ok {l:B8} (hl:l.length<=2000000) {st:St} {K:Bool->St->Prop} (hk:K (decide (∀c,c∈l->AF c)) st):CallT PR Ha [.str l] [.one .bool] st K:=by
 refine Qp l st K ⟨fun i s m st'=>l=s/\(l.length:Int)=m/\st=st'/\∃n:Nat,i=n/\n<=l.length/\∀c,c∈l.take n->AF c,fun i _ _ _=>(l.length-i).toNat,⟨rfl,rfl,rfl,0,rfl,Nat.zero_le _,fun c hc=>by simp at hc⟩,?_⟩
 rintro _ _ _ _ ⟨rfl,rfl,rfl,n,rfl,hn,hall⟩
 refine Aa (fun g=>?_) fun g=>?_
 ·have hm:=LD (l:=l) (n:=n) (by omega)
  have bad:¬AF (List.getD l n 0)->K false st:=fun hb=>by
   rw[decide_eq_false fun h=>hb (h _ hm)]at hk;exact hk
  rw[Int.toNat_natCast]
  refine⟨⟨by omega,by omega⟩,Aa (fun g2=>bad (by unfold AF;omega)) fun g2=>⟨⟨by omega,by omega⟩,Aa (fun g3=>bad (by unfold AF;omega)) fun g3=>?_⟩⟩
  rw[Ai _ (by omega) (by omega)]
  exact⟨⟨rfl,rfl,rfl,n+1,by omega,by omega,all_snoc (by omega) hall (by unfold AF;omega)⟩,by dsimp only;omega⟩
 ·have:n=l.length:=by omega
  subst this
  rw[List.take_length]at hall
  rw[decide_eq_true hall]at hk;exact hk
def P6 (l:B8):Prop:=l.length<=600/\(∀c,c∈l->AF c)/\(l≠ []->l.getD 0 0≠48)
instance (l:B8):Decidable (P6 l):=inferInstanceAs (Decidable (_/\_/\(_->_)))
theorem ne48 (c:UInt8):decide ((c.toNat:Int)≠48)=decide (c≠48):=by
 have:((c.toNat:Int)≠48)↔c≠48:=by rw[ne_eq,ne_eq,<-UInt8.toNat_inj];exact not_congr ⟨fun h=>Int.ofNat.inj h,fun h=>by rw[h];rfl⟩
 exact decide_eq_decide.2 this
theorem RM {l:B8} (hl:l.length<=2000000) {st:St} {K:Bool->St->Prop} (hk:K (decide (P6 l)) st):CallT PR Ed [.str l] [.one .bool] st K:=by
 have no:¬P6 l->K false st:=fun h=>by rw[decide_eq_false h]at hk;exact hk
 refine Nz l st K (Aa (fun g=>all_ok hl (Aa (fun g2=>Aa (fun g3=>?_) fun g3=>⟨⟨by omega,by have:=List.length_pos_iff.2 g3;omega⟩,?_⟩) fun g2=>no fun h=>g2 h.2.1)) fun g=>no fun h=>g (by have:=h.1;omega))
 ·rw[decide_eq_true (show P6 l from⟨by omega,g2,fun h=>absurd g3 h⟩)]at hk;exact hk
 ·rw[ne48]
  refine Fu (decide_eq_decide.2 ?_) hk
  exact⟨fun h=>⟨by omega,g2,fun _=>h⟩,fun h=>h.2.2 g3⟩
theorem HJ {neg:Bool} {l:B8} {ex:Int} (h:l≠ []):Dk neg l ex↔P6 l/\l.length<=120/\A4 l=0/\ -400<=ex/\ex<=400:=by
 unfold Dk P6
 constructor
 ·intro g
  obtain⟨g1,g2,g3,g4,g5,g6⟩:=g.2 h
  exact⟨⟨by omega,g2,fun _=>g3⟩,g1,g4,g5,g6⟩
 ·rintro⟨⟨g1,g2,g3⟩,g4,g5,g6,g7⟩
  exact⟨fun e=>absurd e h,fun _=>⟨g4,g2,g3 h,g5,g6,g7⟩⟩
theorem RK {neg:Bool} {ex:Int}:Dk neg [] ex↔neg=false/\ex=0:=by
 unfold Dk
 exact⟨fun g=>g.1 rfl,fun g=>⟨fun _=>g,fun h=>absurd rfl h⟩⟩
theorem Nh {neg:Bool} {l:B8} {ex:Int} (hl:l.length<=2000000) {st:St} {K:Bool->St->Prop} (hk:K (decide (Dk neg l ex)) st):CallT PR DM [.agg [.bool neg,.str l,.int .i64 ex]] [.one .bool] st K:=by
 have no:¬Dk neg l ex->K false st:=fun h=>by rw[decide_eq_false h]at hk;exact hk
 refine L0 _ _ _ st K (Aa (fun g=>?_) fun g=>?_)
 ·subst g
  refine Fu ?_ hk
  rw[Bool.eq_iff_iff]
  simp[RK]
 ·refine RM hl (Aa (fun g2=>Aa (fun g3=>Zm hl (Aa (fun g4=>Aa (fun g5=>?_) fun g5=>?_) fun g4=>?_)) fun g3=>?_) fun g2=>?_)
  ·exact Fu (decide_eq_decide.2 (by rw[HJ g];exact⟨fun h=>⟨g2,by omega,by omega,g5,h⟩,fun h=>h.2.2.2.2⟩)) hk
  ·exact no fun h=>g5 ((HJ g).1 h).2.2.2.1
  ·exact no fun h=>g4 (by have:=((HJ g).1 h).2.2.1;omega)
  ·exact no fun h=>g3 (by have:=((HJ g).1 h).2.1;omega)
  ·exact no fun h=>g2 ((HJ g).1 h).1
theorem Lb {k d n z:Int} {st:St} {K:Bool->St->Prop} (hk:K (decide (DW k d n z)) st):CallT PR CW [.agg [.int .i64 k,.int .i64 d,.int .i64 n,.int .i64 z]] [.one .bool] st K:=by
 refine Nv _ _ _ _ st K ?_
 repeat' first
  | exact Fu (Eq.symm (decide_eq_false (by unfold DW;omega))) hk
  | exact Fu (Eq.symm (decide_eq_true (by unfold DW;omega))) hk
  | exact Fu (decide_eq_decide.2 (by unfold DW;omega)) hk
  | refine Aa (fun _=>?_) fun _=>?_
theorem orc {c p r:Bool} {K:Bool->Prop} {R1 R2:Prop} (h1:K r->R1) (h2:K r->R2) (hk:K ((c&&p) || r)):BIf c (BIf p (K true) R1) R2:=by
 cases c<;>cases p<;>simp only[Bool.true_and,Bool.false_and,Bool.true_or,Bool.false_or]at hk<;>first | exact h1 hk | exact h2 hk | exact hk
theorem orn {c p r s:Bool} {K:Bool->Prop} {R1 R2:Prop} (hs:s=true) (h1:K r->R1) (h2:K r->R2) (hk:K ((c&&p) || r)):BIf c (need s (BIf p (K true) R1)) R2:=by
 subst hs;exact orc h1 h2 hk
theorem ore {c p s:Bool} {K:Bool->Prop} (hs:s=true) (hk:K (c&&p)):BIf c (need s (K p)) (K false):=by
 subst hs;cases c<;>exact hk
def exB (s:Sc) (l:List Vl) (f:List Fd):Bool:=
 (decide (s.kind≠1)&&s.b) || ((decide (s.kind≠2)&& !((s.neg==false)&&(decide (s.dg=[])&&(decide (s.ex=0)&&true)))) || ((decide (s.kind≠3)&& !(decide (s.tk=0)&&(decide (s.td=0)&&(decide (s.tn=0)&&(decide (s.tz=0)&&true))))) ||
  ((decide (s.kind≠4)&&decide (s.text≠ [])) || ((decide (s.kind≠5)&&decide (0<(s.bytes.length:Int))) || ((decide (s.kind≠6)&&decide (0<(l.length:Int))) || (decide (s.kind≠7)&&decide (0<(f.length:Int))))))))
theorem len_zero {α:Type} {l:List α}:¬0<(l.length:Int)↔l=[]:=by
 rw[<-List.length_eq_zero_iff];omega
theorem RF {s:Sc} {l:List Vl} {f:List Fd} (h0:0<=s.kind) (h7:s.kind<=7):exB s l f=false↔P5 s l f:=by
 unfold exB
 simp only[Bool.or_eq_false_iff,Bool.and_eq_false_imp,decide_eq_true_eq,Bool.not_eq_false',Bool.and_eq_true,beq_iff_eq,decide_eq_false_iff_not,len_zero,ne_eq,Decidable.not_not,and_true]
 constructor
 ·rintro⟨a,b,c,d,e,f,g⟩;exact⟨h0,h7,a,b,c,d,e,f,g⟩
 ·rintro⟨_,_,a,b,c,d,e,f,g⟩;exact⟨a,b,c,d,e,f,g⟩
theorem exB_eq {s:Sc} {l:List Vl} {f:List Fd} (h0:0<=s.kind) (h7:s.kind<=7):exB s l f= !decide (P5 s l f):=by
 cases h:exB s l f with
 | false=>rw[decide_eq_true ((RF h0 h7).1 h)];rfl
 | true=>rw[decide_eq_false fun o=>by rw[(RF h0 h7).2 o]at h;cases h];rfl
theorem extra_ok {s:Sc} {l:List Vl} {f:List Fd} {ub ul uf:TV} {st:St} {K:Bool->St->Prop} (h1:isSl ub=true) (h2:isSl ul=true) (h3:isSl uf=true) (l1:lenS ub=s.bytes.length) (l2:lenS ul=l.length) (l3:lenS uf=f.length) (hk:K (exB s l f) st):
  CallT PR Gj [.agg (Bo s ub ul uf)] [.one .bool] st K:=by
 unfold exB at hk
 refine Oa _ _ _ _ _ _ _ _ _ _ _ _ _ st K ?_
 rw[l1,l2,l3]
 revert hk
 repeat' first
  | (refine fun hk=>ore (K:=fun b=>K b st) h3 hk)
  | (refine fun hk=>orn (K:=fun b=>K b st) h1 ?_ ?_ hk)
  | (refine fun hk=>orn (K:=fun b=>K b st) h2 ?_ ?_ hk)
  | (refine fun hk=>orc (K:=fun b=>K b st) ?_ ?_ hk)
theorem Rn {α:Type} {l:List α}:(l.length:Int)=0↔l=[]:=by
 rw[<-List.length_eq_zero_iff];omega
theorem key_ok {s:B8} (hl:s.length<=2000000) {st:St} {K:Int->St->Prop} (hk:K ((if U8 s then(if 1024<s.length then 10 else 0)else 5:Nat):Int) st):CallT PR Ii [.str s] [.one (.int .i64)] st K:=by
 refine R4 _ st K (L7 hl (Ap (fun g=>?_) fun g=>?_))
 ·have hu:¬U8 s:=by unfold U8;simpa using g
  rw[if_neg hu]at hk;exact hk
 ·have hu:U8 s:=by unfold U8;simpa using g
  rw[if_pos hu]at hk
  refine Aa (fun g2=>?_) fun g2=>?_
  ·have h3:1024<s.length:=by omega
   rw[if_pos h3]at hk;exact hk
  ·have h3:¬1024<s.length:=by omega
   rw[if_neg h3]at hk;exact hk
theorem Io (k k':B8) (v:TV):∀es:List (B8×TV),BP k (Ji k' v es)=if k=k' then some v else BP k es
 | []=>by
  simp only[Ji,BP]
  by_cases h:k=k'<;>simp[h]
 | (k1,v1)::es=>by
  simp only[Ji]
  by_cases h1:k'=k1
  ·simp only[h1,decide_true,BP]
   by_cases h:k=k1<;>simp[h]
  ·simp only[h1,decide_false,BP,Io k k' v es]
   by_cases h:k=k1
   ·simp[h,Ne.symm h1]
   ·simp[h]
def MapN (es:List (B8×TV)) (ns:List B8):Prop:=∀t,BP t es=if t∈ns then some (.bool true)else none
theorem MapN.add {es:List (B8×TV)} {ns:List B8} (h:MapN es ns) (t:B8):MapN (Ji t (.bool true) es) (t::ns):=by
 intro k
 rw[Io]
 by_cases hk:k=t
 ·simp[hk]
 ·rw[if_neg hk,h k];simp[hk]
theorem Wn (seen:List B8) (d:Fd) (r:List Fd):Fj seen (d::r)=if U8 d.key then(if 1024<d.key.length then 10 else if d.key∈seen then 8 else Fj (d.key::seen) r)else 5:=rfl
theorem PG {α:Type} {l:List α} {k:Nat} {x:α} (h:l[k]? =some x):l.drop k=x::l.drop (k+1):=by
 obtain⟨q1,q2⟩:=List.getElem?_eq_some_iff.1 h
 rw[List.drop_eq_getElem_cons q1,q2]
theorem key_len {f:List Fd} {d:Fd} (h:d∈f):d.key.length<=BC f:=by
 have:=Pu h
 cases d;unfold Fd.sz at this;simp only[Fd.key];omega
theorem keys_ok {st0 st:St} {uf:TV} {xf:List TV} {f:List Fd} (hke:BG st0 st) (h4:SlR st0 14 uf f.length xf) (h5:FsR st0 f xf) (hN:BC f<=2000000) {K:Int->St->Prop} (hk:∀st',Am st st'->K (Fj [] f:Nat) st'):
  CallT PR G6 [uf] [.one (.int .i64)] st K:=by
 have hfl:=EC f
 refine Qc _ st K (Ab h4.isSl ⟨fun i m u n st'=> .map st.nb=m/\uf=u/\(f.length:Int)=n/\∃(k:Nat) (ns:List B8) (es:List (B8×TV)),i=k/\k<=f.length/\Am st st'/\st.nb<st'.nb/\st'.box st.nb= .map es/\MapN es ns/\Fj [] f=Fj ns (f.drop k),fun i _ _ _ _=>(f.length-i).toNat,
  ⟨rfl,rfl,by rw[h4.lenS],0,[],[],rfl,Nat.zero_le _,(Am.refl st).push _ _,by simp[St.push],by simp[St.push],fun t=>by simp[BP],rfl⟩,?_⟩)
 rintro _ _ _ _ st1 ⟨rfl,rfl,rfl,k,ns,es,rfl,hkf,e1,hb,hm,hns,hE⟩
 refine Aa (fun g=>?_) fun g=>?_
 ·refine U0 (hke.trans e1.keeps) h4 h5 rfl (by omega) fun key s' l' f' ub1 ul1 uf1 gw hw on=>Ab on ?_
  have hmem:=Bl gw
  have hkl:=key_len hmem
  rw[PG gw,Wn]at hE
  change Fj [] f=if U8 key then(if 1024<key.length then 10 else if key∈ns then 8 else Fj (key::ns) (f.drop (k+1)))else 5 at hE
  change key.length<=_ at hkl
  refine key_ok (by omega) ?_
  by_cases g1:U8 key
  case neg=>
   rw[if_neg g1]at hE⊢
   refine Aa (fun _=>?_) fun h=>absurd (by decide) h
   rw[<-hE];exact hk st1 e1
  rw[if_pos g1]at hE⊢
  by_cases g2:1024<key.length
  ·rw[if_pos g2]at hE⊢
   refine Aa (fun _=>?_) fun h=>absurd (by decide) h
   rw[<-hE];exact hk st1 e1
  rw[if_neg g2]at hE⊢
  refine Aa (fun h=>absurd rfl h) fun _=>Ac (x:=es) (by simp only[EA,hm]) ?_
  rw[hns key]
  by_cases g3:key∈ns
  ·rw[if_pos g3]at hE⊢
   refine Aq (Ap (fun _=>?_) fun h=>by cases h)
   have:=hk st1 e1
   rw[hE]at this;exact this
  ·rw[if_neg g3]at hE⊢
   refine Aq (Ap (fun h=>by cases h) fun _=>⟨es,hm,?_⟩)
   rw[Ai _ (by omega) (by omega)]
   exact⟨⟨rfl,rfl,rfl,k+1,key::ns,_,by omega,by omega,StX.ext e1 (StX.put (S:=fun i=>i=st.nb) rfl _) (fun i hi=>by rw[hi];exact Nat.le_refl _),hb,by simp[St.put],hns.add key,hE⟩,by dsimp only;omega⟩
 ·have:k=f.length:=by omega
  subst this
  rw[List.drop_length]at hE
  have:=hk st1 e1
  rw[hE]at this;exact this
theorem BG.stx {b:Nat} {a c d:St} (h:BG a c) (k:StX (fun i=>i=b) c d) (hb:a.nb<=b):BG a d:=
 ⟨Nat.le_trans h.1 k.nb,fun i hi=>(k.box i (Nat.lt_of_lt_of_le hi h.1) (by omega)).trans (h.2 i hi)⟩
theorem XY {d n:Nat} {s:Sc} {l:List Vl} {f:List Fd} (h1:¬48<d) (h2:¬65536<=n) (h3:Gf s l f=0):DD d n (.mk s l f)=Hs (Dj (d+1) (n+1) l) fun m=>CG (d+1) m f:=by
 unfold DD;rw[if_neg h1,if_neg h2,if_neg (fun h=>h h3)]
theorem Vh {d n:Nat} {s:Sc} {l:List Vl} {f:List Fd} (h1:¬48<d) (h2:¬65536<=n) (h3:Gf s l f≠0):DD d n (.mk s l f)=(n,Gf s l f):=by
 unfold DD;rw[if_neg h1,if_neg h2,if_pos h3]
theorem PU (d n:Nat) (v:Vl) (r:List Vl):Dj d n (v::r)=Hs (DD d n v) fun m=>Dj d m r:=by rw[Dj]
theorem WO (d n:Nat) (k:B8) (v:Vl) (r:List Fd):CG d n (.mk k v::r)=Hs (DD d n v) fun m=>CG d m r:=by rw[CG,NI]
theorem VB:U8 []:=by unfold U8;rw[Cf];rfl
theorem check_ok:∀(N:Nat) (v:Vl),v.sz<=N->N<=2000000->∀{st0 st:St} {cs:List TV} {b d n:Nat} {D:Int} {K:Int->St->Prop},VlR st0 v cs->BG st0 st->st0.nb<=b->b<st.nb->st.box b= .cells [.int .i64 (n:Nat)]->n<=65536->D=(d:Int)->d<=100->
  (∀st' (m:Nat),StX (fun i=>i=b) st st'->st'.box b= .cells [.int .i64 (m:Nat)]->((DD d n v).2=0->m=(DD d n v).1/\m<=65536)->K ((DD d n v).2:Nat) st')->CallT PR Dt [.agg cs,.int .i64 D,.box b 0] [.one (.int .i64)] st K:=by
 intro N
 induction N with
 | zero=>intro v h;have:=v.sz_pos;omega
 | succ N ih=>
 intro v hN hN2 st0 st cs b d n D K h hke hb0 hb hbx hn hD hd hk
 subst hD
 cases v with
 | mk s l f=>
 have hsz:(Vl.mk s l f).sz=1+s.bytes.length+s.text.length+s.dg.length+A3 l+BC f:=by unfold Vl.sz;rfl
 have hll:=DY l
 have hfl:=EC f
 unfold VlR at h
 obtain⟨ub,ul,uf,xl,xf,rfl,h1,h2,h3,h4,h5⟩:=h
 refine Ob _ _ _ _ _ _ _ _ _ _ _ _ _ (d:Int) b st K ?_
 refine Ac (x:= .int .i64 (n:Nat)) (by simp[Ad,hbx]) (AA ?_)
 rw[Ai _ (by omega) (by omega)]
 refine⟨_,hbx,by simp,?_⟩
 obtain⟨st1,hst1⟩:∃st1,st1=st.put b (.cells (setAll [.int .i64 (n:Nat)] 0 [.int .i64 ((n:Int)+1)])):=⟨_,rfl⟩
 rw[<-hst1]
 have e1:StX (fun i=>i=b) st st1:=by rw[hst1];exact StX.put (S:=fun i=>i=b) rfl _
 have hb1:st1.box b= .cells [.int .i64 ((n+1:Nat):Int)]:=by rw[hst1];simp[St.put,setAll]
 have hke1:=hke.stx e1 hb0
 refine⟨fun dp p kd bo ng dg ex tk td tn tz tx u1 u2 u3 st'=>dp=d/\p= .box b 0/\ul=u2/\uf=u3/\¬48<d/\¬65536<=n/\Gf s l f=Fj [] f/\StX (fun i=>i=b) st st'/\st'.box b= .cells [.int .i64 ((n+1:Nat):Int)],?_,?_⟩
 ·--the value but for the values in it
  refine Aa (fun g=>?_) fun g=>?_
  ·have hc:DD d n (.mk s l f)=(n,9):=by unfold DD;rw[if_pos (by omega)]
   have:=hk st1 (n+1) e1 hb1 (by rw[hc];intro h;cases h)
   rw[hc]at this;exact this
  refine Ac (x:= .int .i64 ((n+1:Nat):Int)) (by simp[Ad,hb1]) (AA (Aa (fun g2=>?_) fun g2=>?_))
  ·have hc:DD d n (.mk s l f)=(n,10):=by unfold DD;rw[if_neg (by omega),if_pos (by omega)]
   have:=hk st1 (n+1) e1 hb1 (by rw[hc];intro h;cases h)
   rw[hc]at this;exact this
  have hg1:¬48<d:=by omega
  have hg2:¬65536<=n:=by omega
  --an error of the value itself
  have err:∀st',StX (fun i=>i=b) st st'->st'.box b= .cells [.int .i64 ((n+1:Nat):Int)]->Gf s l f≠0->K ((Gf s l f:Nat):Int) st':=fun st' e' hb' ho=>by
   have hc:=Vh hg1 hg2 ho
   have:=hk st' (n+1) e' hb' (by rw[hc];intro h;exact absurd h ho)
   rw[hc]at this;exact this
  refine⟨fun q dp p kd bo ng dg ex tk td tn tz tx u1 u2 u3 st'=>dp=d/\p= .box b 0/\kd=s.kind/\ng=s.neg/\dg=s.dg/\ex=s.ex/\tk=s.tk/\td=s.td/\tn=s.tn/\tz=s.tz/\tx=s.text/\ub=u1/\ul=u2/\uf=u3/\q= !decide (P5 s l f)/\st1=st',?_,?_⟩
  ·refine Aa (fun g3=>?_) fun g3=>Aa (fun g4=>?_) fun g4=>?_
   ·exact⟨rfl,rfl,rfl,rfl,rfl,rfl,rfl,rfl,rfl,rfl,rfl,rfl,rfl,rfl,by rw[decide_eq_false fun o=>by have:=o.k0;omega];rfl,rfl⟩
   ·exact⟨rfl,rfl,rfl,rfl,rfl,rfl,rfl,rfl,rfl,rfl,rfl,rfl,rfl,rfl,by rw[decide_eq_false fun o=>by have:=o.k7;omega];rfl,rfl⟩
   ·exact extra_ok (s:=s) (l:=l) (f:=f) h1.isSl h2.isSl h4.isSl h1.lenS h2.lenS h4.lenS ⟨rfl,rfl,rfl,rfl,rfl,rfl,rfl,rfl,rfl,rfl,rfl,rfl,rfl,rfl,exB_eq (by omega) (by omega),rfl⟩
  rintro q _ _ _ bo _ _ _ _ _ _ _ _ _ _ _ _ ⟨rfl,rfl,rfl,rfl,rfl,rfl,rfl,rfl,rfl,rfl,rfl,rfl,rfl,rfl,rfl,rfl⟩
  by_cases ho:P5 s l f
  case neg=>
   refine Ap (fun _=>?_) fun h=>by rw[decide_eq_false ho]at h;cases h
   have h6:Gf s l f=6:=by unfold Gf;rw[if_neg ho]
   have:=err st1 e1 hb1 (by rw[h6];decide)
   rw[h6]at this;exact this
  refine Ap (fun h=>by rw[decide_eq_true ho]at h;cases h) fun _=>?_
  have hdec:s.kind≠2->Dk s.neg s.dg s.ex:=fun hk2=>by
   obtain⟨q1,q2,q3⟩:=ho.nu hk2
   rw[q2];exact RK.2 ⟨q1,q3⟩
  refine⟨fun q dp p kd bo ng dg ex tk td tn tz tx u1 u2 u3 st'=>dp=d/\p= .box b 0/\kd=s.kind/\tx=s.text/\ub=u1/\ul=u2/\uf=u3/\q= !(decide (Dk s.neg s.dg s.ex)&&decide (s.kind=3->DW s.tk s.td s.tn s.tz))/\st1=st',?_,?_⟩
  ·refine Aa (fun g3=>Nh (by omega) ?_) fun g3=>Aa (fun g4=>Lb ?_) fun g4=>?_
   ·by_cases hq:Dk s.neg s.dg s.ex
    ·refine Ap (fun h=>by rw[decide_eq_true hq]at h;cases h) fun _=>Aa (fun g4=>by omega) fun g4=>?_
     exact⟨rfl,rfl,rfl,rfl,rfl,rfl,rfl,by rw[decide_eq_true hq,decide_eq_true fun h=>absurd h g4];rfl,rfl⟩
    ·refine Ap (fun h=>?_) fun h=>by rw[decide_eq_false hq]at h;cases h
     exact⟨rfl,rfl,rfl,rfl,rfl,rfl,rfl,by rw[decide_eq_false hq];rfl,rfl⟩
   ·exact⟨rfl,rfl,rfl,rfl,rfl,rfl,rfl,by rw[decide_eq_true (hdec g3),decide_eq_decide.2 (show(s.kind=3->DW s.tk s.td s.tn s.tz)↔_ from⟨fun h=>h g4,fun h _=>h⟩)];rfl,rfl⟩
   ·exact⟨rfl,rfl,rfl,rfl,rfl,rfl,rfl,by rw[decide_eq_true (hdec g3),decide_eq_true fun h=>absurd h g4];rfl,rfl⟩
  rintro q _ _ _ bo2 ng2 dg2 ex2 tk2 td2 tn2 tz2 _ _ _ _ _ ⟨rfl,rfl,rfl,rfl,rfl,rfl,rfl,rfl,rfl⟩
  by_cases hq:Dk s.neg s.dg s.ex
  case neg=>
   refine Ap (fun _=>?_) fun h=>by rw[decide_eq_false hq]at h;cases h
   have h6:Gf s l f=2:=by unfold Gf;rw[if_pos ho,if_neg hq]
   have:=err st1 e1 hb1 (by rw[h6];decide)
   rw[h6]at this;exact this
  by_cases hq2:s.kind=3->DW s.tk s.td s.tn s.tz
  case neg=>
   refine Ap (fun _=>?_) fun h=>by rw[decide_eq_true hq,decide_eq_false hq2]at h;cases h
   have h6:Gf s l f=2:=by unfold Gf;rw[if_pos ho,if_pos hq,if_neg hq2]
   have:=err st1 e1 hb1 (by rw[h6];decide)
   rw[h6]at this;exact this
  refine Ap (fun h=>by rw[decide_eq_true hq,decide_eq_true hq2]at h;cases h) fun _=>?_
  --sizes
  have sizes:U8 s.text->∀(X:Prop),(Gf s l f=Fj [] f->X)->BIf (decide (65536<(s.text.length:Int))) (K 10 st1) (need (isSl ub) (BIf (decide (65536<(lenS ub:Int))) (K 10 st1) X)):=fun hu X hX=>by
   have h6:Gf s l f=if 65536<s.text.length then 10 else if 65536<s.bytes.length then 10 else Fj [] f:=by unfold Gf;rw[if_pos ho,if_pos hq,if_pos hq2,if_pos hu]
   refine Aa (fun g5=>?_) fun g5=>Ab h1.isSl (Aa (fun g6=>?_) fun g6=>?_)
   ·rw[if_pos (by omega)]at h6
    have:=err st1 e1 hb1 (by rw[h6];decide)
    rw[h6]at this;exact this
   ·rw[h1.lenS]at g6
    rw[if_neg (by omega),if_pos (by omega)]at h6
    have:=err st1 e1 hb1 (by rw[h6];decide)
    rw[h6]at this;exact this
   ·rw[h1.lenS]at g6
    rw[if_neg (by omega),if_neg (by omega)]at h6
    exact hX h6
  refine Aa (fun g3=>L7 (by omega) (Ap (fun g4=>?_) fun g4=>?_)) fun g3=>?_
  ·have hu:¬U8 s.text:=by unfold U8;simpa using g4
   have h6:Gf s l f=5:=by unfold Gf;rw[if_pos ho,if_pos hq,if_pos hq2,if_neg hu]
   have:=err st1 e1 hb1 (by rw[h6];decide)
   rw[h6]at this;exact this
  ·exact sizes (by unfold U8;simpa using g4) _ fun h6=>⟨rfl,rfl,rfl,rfl,hg1,hg2,h6,e1,hb1⟩
  ·exact sizes (by rw[ho.tx g3];exact VB) _ fun h6=>⟨rfl,rfl,rfl,rfl,hg1,hg2,h6,e1,hb1⟩
 ·rintro _ _ kd bo ng dg ex tk td tn tz tx u1 _ _ st2 ⟨rfl,rfl,rfl,rfl,hg1,hg2,h6,e2,hb2⟩
  have hke2:=hke.stx e2 hb0
  refine keys_ok hke2 h4 h5 (by omega) fun st3 e3=>?_
  have e23:=e2.trans (StX.of e3)
  have hb3:st3.box b= .cells [.int .i64 ((n+1:Nat):Int)]:=(e3.box b (by have:=e2.nb;omega)).trans hb2
  refine Aa (fun g=>?_) fun g=>Ab h2.isSl ?_
  ·have ho:Gf s l f≠0:=by rw[h6];omega
   have hc:=Vh hg1 hg2 ho
   have:=hk st3 (n+1) e23 hb3 (by rw[hc];intro h;exact absurd h ho)
   rw[hc,h6]at this;exact this
  have hone:Gf s l f=0:=by rw[h6];omega
  have hC:=XY hg1 hg2 hone
  refine⟨fun i dp p u m kd bo ng dg ex tk td tn tz tx u1 u2 u3 st'=>dp=d/\p= .box b 0/\ul=u/\m=(l.length:Int)/\uf=u3/\∃k c:Nat,i=k/\k<=l.length/\c<=65536/\StX (fun i=>i=b) st st'/\st'.box b= .cells [.int .i64 ((c:Nat):Int)]/\Dj (d+1) (n+1) l=Dj (d+1) c (l.drop k),
   fun i _ _ _ _ _ _ _ _ _ _ _ _ _ _ _ _ _ _=>(l.length-i).toNat,⟨rfl,rfl,rfl,by rw[h2.lenS],rfl,0,n+1,rfl,Nat.zero_le _,by omega,e23,hb3,rfl⟩,?_⟩
  rintro _ _ _ _ _ kd bo ng dg ex tk td tn tz tx u1 u2 _ st4 ⟨rfl,rfl,rfl,rfl,rfl,k,c,rfl,hkl,hc,e4,hb4,hE⟩
  have hke4:=hke.stx e4 hb0
  refine Aa (fun g3=>?_) fun g3=>?_
  ·refine QG hke4 h2 h3 rfl (by omega) fun s' l' f' ub1 ul1 uf1 gw hw on=>Ab on ?_
   have hwsz:=IV gw
   rw[PG gw,PU]at hE
   rw[Ai _ (by omega) (by omega)]
   refine ih _ (by omega) (by omega) (d:=d+1) hw hke4 hb0 (by have:=e4.nb;omega) hb4 hc (by omega) (by omega) fun st5 m e5 hb5 hm=>?_
   have e45:=e4.trans e5
   refine Aa (fun g4=>?_) fun g4=>?_
   ·have hne:(DD (d+1) c (.mk s' l' f')).2≠0:=by omega
    rw[Mb hne]at hE
    have hc2:DD d n (.mk s l f)=DD (d+1) c (.mk s' l' f'):=by rw[hC,hE,Mb hne]
    have:=hk st5 m e45 hb5 (by rw[hc2];intro h;exact absurd h hne)
    rw[hc2]at this;exact this
   ·have hz:(DD (d+1) c (.mk s' l' f')).2=0:=by omega
    rw[CU hz]at hE
    obtain⟨hm1,hm2⟩:=hm hz
    rw[Ai _ (by omega) (by omega)]
    exact⟨⟨rfl,rfl,rfl,rfl,rfl,k+1,m,by omega,by omega,hm2,e45,hb5,by rw[hE,hm1]⟩,by dsimp only;omega⟩
  ·have hkk:k=l.length:=by omega
   subst hkk
   rw[List.drop_length]at hE
   have hE2:Dj (d+1) (n+1) l=(c,0):=by rw[hE,Dj]
   rw[hE2,CU rfl]at hC
   refine Ab h4.isSl ?_
   refine⟨fun i dp p u m st'=>dp=d/\p= .box b 0/\uf=u/\m=(f.length:Int)/\∃k c2:Nat,i=k/\k<=f.length/\c2<=65536/\StX (fun i=>i=b) st st'/\st'.box b= .cells [.int .i64 ((c2:Nat):Int)]/\CG (d+1) c f=CG (d+1) c2 (f.drop k),
    fun i _ _ _ _ _=>(f.length-i).toNat,⟨rfl,rfl,rfl,by rw[h4.lenS],0,c,rfl,Nat.zero_le _,hc,e4,hb4,rfl⟩,?_⟩
   rintro _ _ _ _ _ st5 ⟨rfl,rfl,rfl,rfl,k,c2,rfl,hkf,hc2,e5,hb5,hF⟩
   have hke5:=hke.stx e5 hb0
   refine Aa (fun g4=>?_) fun g4=>?_
   ·refine U0 hke5 h4 h5 rfl (by omega) fun key s' l' f' ub1 ul1 uf1 gw hw on=>Ab on ?_
    have hwsz:=Jv gw
    have hwk:(Fd.mk key (.mk s' l' f')).sz=key.length+(Vl.mk s' l' f').sz:=by unfold Fd.sz;rfl
    rw[PG gw,WO]at hF
    rw[Ai _ (by omega) (by omega)]
    refine ih (.mk s' l' f') (by omega) (by omega) (d:=d+1) hw hke5 hb0 (by have:=e5.nb;omega) hb5 hc2 (by omega) (by omega) fun st6 m e6 hb6 hm=>?_
    have e56:=e5.trans e6
    refine Aa (fun g5=>?_) fun g5=>?_
    ·have hne:(DD (d+1) c2 (.mk s' l' f')).2≠0:=by omega
     rw[Mb hne]at hF
     have hc3:DD d n (.mk s l f)=DD (d+1) c2 (.mk s' l' f'):=by rw[hC];exact hF
     have:=hk st6 m e56 hb6 (by rw[hc3];intro h;exact absurd h hne)
     rw[hc3]at this;exact this
    ·have hz:(DD (d+1) c2 (.mk s' l' f')).2=0:=by omega
     rw[CU hz]at hF
     obtain⟨hm1,hm2⟩:=hm hz
     rw[Ai _ (by omega) (by omega)]
     exact⟨⟨rfl,rfl,rfl,rfl,k+1,m,by omega,by omega,hm2,e56,hb6,by rw[hF,hm1]⟩,by dsimp only;omega⟩
   ·have hkk:k=f.length:=by omega
    subst hkk
    rw[List.drop_length]at hF
    have hF2:DD d n (.mk s l f)=(c2,0):=by rw[hC];show CG (d+1) c f=_;rw[hF,CG]
    have:=hk st5 c2 e5 hb5 (by rw[hF2];exact fun _=>⟨rfl,hc2⟩)
    rw[hF2]at this;exact this
section
theorem P8 {v:Vl} (hN:v.sz<=2000000) {st0 st:St} {cs:List TV} {K:Int->St->Prop} (h:VlR st0 v cs) (hke:BG st0 st) (hk:∀st',Am st st'->K (CC v:Nat) st'):
  CallT PR Du [.agg cs] [.one (.int .i64)] st K:=by
 have h0:=h
 cases v with
 | mk s l f=>
 unfold VlR at h0
 obtain⟨ub,ul,uf,xl,xf,rfl,_⟩:=h0
 have he:Am st (st.push (.cells [.int .i64 0]) (some 3)):=(Am.refl st).push _ _
 refine Od _ _ _ _ _ _ _ _ _ _ _ _ _ st K ⟨[.int .i64 0],by simp[St.push],by simp,?_⟩
 obtain⟨st1,hst1⟩:∃st1,st1=(st.push (.cells [.int .i64 0]) (some 3)).put st.nb (.cells (setAll [.int .i64 0] 0 [.int .i64 0])):=⟨_,rfl⟩
 rw[<-hst1]
 have e1:Am st st1:=by rw[hst1];exact StX.ext he (StX.put (S:=fun i=>i=st.nb) rfl _) (fun i hi=>by rw[hi];exact Nat.le_refl _)
 have hb1:st1.box st.nb= .cells [.int .i64 ((0:Nat):Int)]:=by rw[hst1];simp[St.put,setAll]
 exact check_ok 2000000 _ hN (by omega) (d:=1) h (hke.trans e1.keeps) hke.1 (by rw[hst1];simp[St.put,St.push]) hb1 (by omega) rfl (by omega) fun st2 m e2 hb2 _=>hk st2 (StX.ext e1 e2 (fun i hi=>by rw[hi];exact Nat.le_refl _))
mutual
theorem Tc:∀(v:Vl) (d n:Nat),n<=65536->(DD d n v).2=0->(DD d n v).1<=65536
 | .mk s l f,d,n,hn,h=>by
  unfold DD at h⊢
  split at h
  ·cases h
  ·rename_i g1
   rw[if_neg g1]
   split at h
   ·cases h
   ·rename_i g2
    rw[if_neg g2]
    split at h
    ·rename_i h1;exact absurd h h1
    ·rename_i g3
     rw[if_neg g3]
     obtain⟨h2,h3⟩:=CH h
     rw[CU h2]
     exact Vk f _ _ (Vg l _ _ (by omega) h2) h3
theorem Vg:∀(l:List Vl) (d n:Nat),n<=65536->(Dj d n l).2=0->(Dj d n l).1<=65536
 | [],d,n,hn,_=>by unfold Dj;exact hn
 | v::r,d,n,hn,h=>by
  unfold Dj at h⊢
  obtain⟨h2,h3⟩:=CH h
  rw[CU h2]
  exact Vg r _ _ (Tc v _ _ hn h2) h3
theorem chkD_le:∀(x:Fd) (d n:Nat),n<=65536->(NI d n x).2=0->(NI d n x).1<=65536
 | .mk k v,d,n,hn,h=>by unfold NI at h⊢;exact Tc v _ _ hn h
theorem Vk:∀(l:List Fd) (d n:Nat),n<=65536->(CG d n l).2=0->(CG d n l).1<=65536
 | [],d,n,hn,_=>by unfold CG;exact hn
 | x::r,d,n,hn,h=>by
  unfold CG at h⊢
  obtain⟨h2,h3⟩:=CH h
  rw[CU h2]
  exact Vk r _ _ (chkD_le x _ _ hn h2) h3
end
theorem VsR.snoc {st:St} {v:Vl} {cv:List TV}:∀{l:List Vl} {xs:List TV},VsR st l xs->VlR st v cv->VsR st (l++[v]) (xs++cv)
 | [],xs,h,hv=>by
  unfold VsR at h
  subst h
  show VsR st [v] _
  unfold VsR
  exact⟨cv,[],by simp,hv,by unfold VsR;rfl⟩
 | w::r,xs,h,hv=>by
  unfold VsR at h
  obtain⟨a,b,rfl,h1,h2⟩:=h
  show VsR st (w::(r++[v])) _
  unfold VsR
  exact⟨a,b++cv,by simp,h1,VsR.snoc h2 hv⟩
end
theorem VlR.cells {st:St} {s:Sc} {l:List Vl} {f:List Fd} {cs:List TV} (h:VlR st (.mk s l f) cs):∃ub ul uf xl xf,cs=Bo s ub ul uf/\SlR st 1 ub s.bytes.length (AC s.bytes)/\SlR st 13 ul l.length xl/\VsR st l xl/\SlR st 14 uf f.length xf/\FsR st f xf:=by
 unfold VlR at h
 obtain⟨ub,ul,uf,xl,xf,rfl,h⟩:=h
 exact⟨ub,ul,uf,xl,xf,rfl,h⟩
theorem szs (s:Sc) (l:List Vl) (f:List Fd):(Vl.mk s l f).sz=1+s.bytes.length+s.text.length+s.dg.length+A3 l+BC f:=by unfold Vl.sz;rfl
theorem szd (k:B8) (v:Vl):(Fd.mk k v).sz=k.length+v.sz:=by unfold Fd.sz;rfl
theorem keyLd {st0 st:St} {uf:TV} {xf:List TV} {l:List Fd} (hke:BG st0 st) (h2:SlR st0 14 uf l.length xf) (h3:FsR st0 l xf) {k:Nat} {d:Fd} (hd:l[k]? =some d):Ad st [] (.t (Ao (ixT 14 uf k) 0)) 0=some (.str d.key):=by
 obtain⟨hk,_⟩:=List.getElem?_eq_some_iff.1 hd
 obtain⟨cw,hw,hcw,hcl⟩:=h3.get hd
 have hx:xf[k*14+0]? =some (.str d.key):=by
  cases d with
  | mk key w=>
   unfold FdR at hw
   obtain⟨cs,rfl,_⟩:=hw
   have:=congrArg (fun z=>z[0]?) hcw
   simpa [Fd.key]using this
 exact(h2.keep hke).ldf h3.len hk (by omega) hx
section
mutual
theorem PW:∀(v:Vl) (d n:Nat),(DD d n v).2=0->(DD d n v).1=n+v.cnt
 | .mk s l f,d,n,h=>by
  unfold DD at h⊢
  unfold Vl.cnt
  split at h
  ·cases h
  ·rename_i g1
   rw[if_neg g1]
   split at h
   ·cases h
   ·rename_i g2
    rw[if_neg g2]
    split at h
    ·rename_i h1;exact absurd h h1
    ·rename_i g3
     rw[if_neg g3]
     obtain⟨h2,h3⟩:=CH h
     rw[CU h2,RS f _ _ h3,RR l _ _ h2];omega
theorem RR:∀(l:List Vl) (d n:Nat),(Dj d n l).2=0->(Dj d n l).1=n+AX l
 | [],d,n,_=>by unfold Dj AX;rfl
 | v::r,d,n,h=>by
  unfold Dj at h⊢
  unfold AX
  obtain⟨h2,h3⟩:=CH h
  rw[CU h2,RR r _ _ h3,PW v _ _ h2];omega
theorem chkD_cnt:∀(x:Fd) (d n:Nat),(NI d n x).2=0->(NI d n x).1=n+x.cnt
 | .mk k v,d,n,h=>by unfold NI at h⊢;unfold Fd.cnt;exact PW v _ _ h
theorem RS:∀(l:List Fd) (d n:Nat),(CG d n l).2=0->(CG d n l).1=n+Bg l
 | [],d,n,_=>by unfold CG Bg;rfl
 | x::r,d,n,h=>by
  unfold CG at h⊢
  unfold Bg
  obtain⟨h2,h3⟩:=CH h
  rw[CU h2,RS r _ _ h3,chkD_cnt x _ _ h2];omega
end
theorem RT {v:Vl} (h:CC v=0):v.cnt<=65536:=by
 have h1:=PW v 1 0 h
 have h2:=Tc v 1 0 (by omega) h
 omega
theorem Fp {v:Vl} (h:CC v=0):AS v:=Ta v 1 0 h
theorem Rz {f g:List Fd} (p:f.Perm g):BC f=BC g:=by
 induction p with
 | nil=>rfl
 | cons x _ ih=>unfold BC;rw[ih]
 | swap x y l=>unfold BC;simp only[BC];omega
 | trans _ _ h1 h2=>rw[h1,h2]
mutual
theorem Lg:∀v:Vl,(DQ v).sz=v.sz
 | .mk s l f=>by
  unfold DQ
  rw[szs,szs,QZ l,Rz (En _),Q1 f]
theorem QZ:∀l:List Vl,A3 (Je l)=A3 l
 | []=>by unfold Je;rfl
 | v::r=>by unfold Je A3;rw[Lg v,QZ r]
theorem ZM:∀d:Fd,(Jg d).sz=d.sz
 | .mk k v=>by unfold Jg;rw[szd,szd,Lg v]
theorem Q1:∀f:List Fd,BC (Jf f)=BC f
 | []=>by unfold Jf;rfl
 | d::r=>by unfold Jf BC;rw[ZM d,Q1 r]
end
end
def AE (s:B8):B8:=s.takeWhile fun c=>decide (AF c)
def FO (n:Nat) (l:B8):Nat:=l.foldl (fun n c=>10*n+(c.toNat-48)) n
def Cu (l:B8):Nat:=FO 0 l
def Bt (l:B8):B8:=l.dropWhile (·==48)
def dcN (neg:Bool) (s:B8) (ex:Int):Bool×B8×Int×Int:=
 if s=[]then(false,[],0,0)else if 400<ex+A4 s∨ex+A4 s< -400∨120<s.length-A4 s then(false,[],0,2)else(neg,s.take (s.length-A4 s),ex+A4 s,0)
def LM:Bool×B8×Int×Int:=(false,[],0,3)
def dcX (neg:Bool) (all:B8) (ex:Int) (less:Bool) (r:B8):Bool×B8×Int×Int:=
 if r=[]∨(AE r).length≠r.length then LM else dcN neg (Bt all) (if less then ex-Cu r else ex+Cu r)
def dcE (neg:Bool) (all:B8) (ex:Int) (r:B8):Bool×B8×Int×Int:=
 if r=[]then dcN neg (Bt all) ex else if r.getD 0 0=101∨r.getD 0 0=69 then
  (if (r.drop 1).getD 0 0=45 then dcX neg all ex true (r.drop 2)else if (r.drop 1).getD 0 0=43 then dcX neg all ex false (r.drop 2)else dcX neg all ex false (r.drop 1))
 else LM
def dcF (neg:Bool) (a:B8) (r:B8):Bool×B8×Int×Int:=
 if r.getD 0 0=46 then(if AE (r.drop 1)=[]then LM else dcE neg (a++AE (r.drop 1)) (-(AE (r.drop 1)).length) (r.drop (1+(AE (r.drop 1)).length)))
 else dcE neg a 0 r
def dcQ (neg:Bool) (s:B8):Bool×B8×Int×Int:=
 if AE s=[]∨(1<(AE s).length/\s.getD 0 0=48)then LM else dcF neg (AE s) (s.drop (AE s).length)
def dcP (s:B8):Bool×B8×Int×Int:=if s.getD 0 0=45 then dcQ true (s.drop 1)else dcQ false s
theorem HI {a r:B8} (ha:∀c,c∈a->AF c) (hr:¬AF (r.getD 0 0)):AE (a++r)=a:=by
 induction a with
 | nil=>
  cases r with
  | nil=>rfl
  | cons c r=>exact List.takeWhile_cons_of_neg (by simpa using hr)
 | cons c a ih=>
  unfold AE at ih⊢
  rw[List.cons_append,List.takeWhile_cons_of_pos (by simpa using ha c List.mem_cons_self),ih fun x hx=>ha x (List.mem_cons_of_mem _ hx)]
theorem Y3 {a:B8} (ha:∀c,c∈a->AF c):AE a=a:=by
 have:=HI (r:=[]) ha (by unfold AF;simp)
 rwa [List.append_nil]at this
theorem HH (s:B8):∀c,c∈AE s->AF c:=by
 induction s with
 | nil=>intro c h;cases h
 | cons a s ih=>
  intro c h
  unfold AE at h ih
  rw[List.takeWhile_cons]at h
  split at h
  ·rename_i hd
   rcases List.mem_cons.1 h with rfl | h
   ·exact of_decide_eq_true hd
   ·exact ih c h
  ·cases h
theorem JY (s:B8):(AE s).length<=s.length:=(List.takeWhile_sublist _).length_le
theorem RJ (s:B8):s=AE s++s.drop (AE s).length:=by
 induction s with
 | nil=>rfl
 | cons a s ih=>
  unfold AE at ih⊢
  rw[List.takeWhile_cons]
  split
  ·rw[List.length_cons,List.drop_succ_cons,List.cons_append,<-ih]
  ·rfl
theorem KN (s:B8):s.take (AE s).length=AE s:=by
 have h:=RJ s
 have:s.take (AE s).length=(AE s++s.drop (AE s).length).take (AE s).length:=by rw[<-h]
 rw[this,List.take_left]
theorem GA (l:B8) (c:UInt8):A4 (l++[c])=if c=48 then A4 l+1 else 0:=by
 unfold A4
 rw[List.reverse_append,List.reverse_singleton,List.singleton_append,List.takeWhile_cons]
 by_cases h:c=48
 ·rw[if_pos h,if_pos (by simp[h])];rfl
 ·rw[if_neg h,if_neg (by simp[h])];rfl
theorem Vz (l:B8) (k:Nat):A4 (l++List.replicate k 48)=A4 l+k:=by
 induction k with
 | zero=>simp
 | succ k ih=>rw[List.replicate_succ',<-List.append_assoc,GA,if_pos rfl,ih];omega
theorem N1 (l:B8):A4 l<=l.length:=by
 unfold A4
 have:=(List.takeWhile_sublist (l:=l.reverse) (fun x:UInt8=>x==48)).length_le
 rwa [List.length_reverse]at this
theorem Jd {c:UInt8} {l:B8} (h:c≠48):Bt (c::l)=c::l:=by
 unfold Bt;rw[List.dropWhile_cons,if_neg (by simpa using h)]
theorem Hu {l:B8} (h:l.getD 0 0≠48):Bt l=l:=by
 cases l with
 | nil=>rfl
 | cons c l=>exact Jd (by simpa using h)
theorem Kw (k:Nat) (l:B8):Bt (List.replicate k 48++l)=Bt l:=by
 induction k with
 | zero=>rfl
 | succ k ih=>rw[List.replicate_succ,List.cons_append];unfold Bt at ih⊢;rw[List.dropWhile_cons,if_pos (by simp),ih]
theorem K7 (n:Nat) (a b:B8):FO n (a++b)=FO (FO n a) b:=by
 unfold FO;rw[List.foldl_append]
theorem Yf:∀n:Nat,Cu (KE n)=n:=by
 intro n
 induction n using Nat.strongRecOn with
 | _ n ih=>
  by_cases h:n=0
  ·subst h;rw[HA];rfl
  ·rw[HB (by omega)]
   unfold Cu at ih⊢
   rw[K7,ih (n/10) (by omega)]
   unfold FO
   rw[List.foldl_cons,List.foldl_nil,Ef _ (by omega)];omega
theorem Zv (n:Nat):Cu (whN n)=n:=by
 unfold whN;split
 ·rename_i h;subst h;rfl
 ·exact Yf n
theorem LR (n:Nat):∀c,c∈whN n->AF c:=by
 unfold whN;split
 ·intro c h;rw[List.mem_singleton.1 h];decide
 ·exact natD_dg n
theorem natD_ne {n:Nat} (h:0<n):KE n≠ []:=by rw[HB h];simp
theorem Zr (n:Nat):whN n≠ []:=by
 unfold whN;split
 ·simp
 ·exact natD_ne (by omega)
theorem Zs (n:Nat):AF ((whN n).getD 0 0):=by
 have h:=Zr n
 have h2:=LR n
 generalize whN n=l at h h2
 cases l with
 | nil=>exact absurd rfl h
 | cons c l=>exact h2 c List.mem_cons_self
theorem S3 {neg:Bool} {dg:B8} {ex ex':Int} (k:Nat) (h:Dk neg dg ex) (hne:dg≠ []) (he:ex'+k=ex):dcN neg (dg++List.replicate k 48) ex'=(neg,dg,ex,0):=by
 obtain⟨h1,h2,h3,h4,h5,h6⟩:=h.2 hne
 unfold dcN
 have hz:A4 (dg++List.replicate k 48)=k:=by rw[Vz,h4];omega
 rw[if_neg (by simp[hne]),hz,if_neg (by rw[List.length_append,List.length_replicate];omega),List.length_append,List.length_replicate,Nat.add_sub_cancel,List.take_left,he]
theorem dcX_of {neg:Bool} {all:B8} {ex:Int} {less:Bool} (n:Nat):dcX neg all ex less (whN n)=dcN neg (Bt all) (if less then ex-n else ex+n):=by
 unfold dcX
 rw[if_neg,Zv]
 intro h
 rcases h with h | h
 ·exact Zr n h
 ·exact h (by rw[Y3 (LR n)])
theorem XS {neg:Bool} {all:B8} {ex p:Int}:dcE neg all ex (MH p)=dcN neg (Bt all) (ex+(p-1)):=by
 unfold MH dcE
 rw[if_neg (by simp),if_pos (by simp)]
 split
 ·rw[if_pos (by simp)]
  show dcX neg all ex true (whN _)=_
  rw[dcX_of,if_pos rfl]
  congr 1;omega
 ·have hh:=Zs (p-1).toNat
  have hd:((101:UInt8)::whN (p-1).toNat).drop 1=whN (p-1).toNat:=rfl
  rw[hd,if_neg (fun e=>by rw[e]at hh;revert hh;decide),if_neg (fun e=>by rw[e]at hh;revert hh;decide),dcX_of,if_neg (by simp)]
  congr 1;omega
theorem S4 {neg:Bool} {all:B8} {ex:Int}:dcE neg all ex []=dcN neg (Bt all) ex:=if_pos rfl
theorem PO {neg:Bool} {a f r:B8} (hf:∀c,c∈f->AF c) (hne:f≠ []) (hr:¬AF (r.getD 0 0)):dcF neg a (46::(f++r))=dcE neg (a++f) (-f.length) r:=by
 unfold dcF
 rw[if_pos (show(46::(f++r)).getD 0 0=46 from rfl),List.drop_succ_cons,List.drop_zero,HI hf hr,if_neg hne,Nat.add_comm,List.drop_succ_cons,List.drop_left]
theorem dcF_no {neg:Bool} {a r:B8} (h:r.getD 0 0≠46):dcF neg a r=dcE neg a 0 r:=if_neg h
theorem S0 {neg:Bool} {a r:B8} (ha:∀c,c∈a->AF c) (hne:a≠ []) (h0:a.length=1∨a.getD 0 0≠48) (hr:¬AF (r.getD 0 0)):dcQ neg (a++r)=dcF neg a r:=by
 unfold dcQ
 rw[HI ha hr,if_neg,List.drop_left]
 rintro(h | ⟨h1,h2⟩)
 ·exact hne h
 ·have:(a++r).getD 0 0=a.getD 0 0:=by cases a with | nil=>exact absurd rfl hne | cons c a=>rfl
  rw[this]at h2
  rcases h0 with h0 | h0
  ·omega
  ·exact h0 h2
theorem nd46:¬AF 46:=by decide
theorem nd101:¬AF 101:=by decide
theorem nd0:¬AF 0:=by decide
theorem dcP_text {neg:Bool} {dg:B8} {ex:Int} (h:Dk neg dg ex):dcP (dcT neg dg ex)=(neg,dg,ex,0):=by
 by_cases hne:dg=[]
 ·subst hne
  obtain⟨rfl,rfl⟩:=h.1 rfl
  unfold dcT
  rw[if_pos rfl];decide
 ·obtain⟨h1,h2,h3,h4,h5,h6⟩:=h.2 hne
  have hpos:0<dg.length:=List.length_pos_iff.2 hne
  have key:∀body:B8,AF (body.getD 0 0)->dcP ((if neg then [45]else [])++body)=dcQ neg body:=by
   intro body hb
   cases neg with
   | true=>
    show dcP (45::body)=_
    unfold dcP
    rw[if_pos (show(45::body).getD 0 0=45 from rfl)];rfl
   | false=>
    show dcP body=_
    unfold dcP
    rw[if_neg (fun e=>by rw[e]at hb;revert hb;decide)]
  have hd0:AF (dg.getD 0 0):=by
   cases dg with
   | nil=>exact absurd rfl hne
   | cons c r=>exact h2 c List.mem_cons_self
  unfold dcT
  rw[if_neg hne,key]
  ·split
   ·rename_i g
    have:=S0 (neg:=neg) (a:=dg++List.replicate ex.toNat 48) (r:=[]) (fun c hc=>by
     rcases List.mem_append.1 hc with hc | hc
     ·exact h2 c hc
     ·rw[List.eq_of_mem_replicate hc];decide) (by simp[hne]) (.inr (by cases dg with | nil=>exact absurd rfl hne | cons c r=>exact h3)) (by simpa using nd0)
    rw[List.append_nil]at this
    rw[this,dcF_no (by decide),S4,Hu (by cases dg with | nil=>exact absurd rfl hne | cons c r=>exact h3)]
    exact S3 _ h hne (by omega)
   ·split
    ·rename_i g0 g
     have htk:(dg.take (dg.length+ex).toNat).length=(dg.length+ex).toNat:=by rw[List.length_take];omega
     have hdr:(dg.drop (dg.length+ex).toNat).length=dg.length-(dg.length+ex).toNat:=List.length_drop
     rw[S0 (fun c hc=>h2 c (List.mem_of_mem_take hc)) (fun e=>by rw[e]at htk;simp at htk;omega) (.inr ?_) (by simpa using nd46)]
     ·have:=PO (neg:=neg) (a:=dg.take (dg.length+ex).toNat) (f:=dg.drop (dg.length+ex).toNat) (r:=[]) (fun c hc=>h2 c (List.mem_of_mem_drop hc)) (fun e=>by rw[e]at hdr;simp at hdr;omega) (by simpa using nd0)
      rw[List.append_nil]at this
      rw[this,S4,List.take_append_drop,Hu h3]
      have h9:=S3 0 (ex':=ex) h hne (by simp)
      rw[List.replicate_zero,List.append_nil]at h9
      rw[show(-((dg.drop (dg.length+ex).toNat).length:Int))=ex by rw[hdr];omega]
      exact h9
     ·obtain⟨m,hm⟩:∃m,(dg.length+ex).toNat=m+1:=⟨(dg.length+ex).toNat-1,by omega⟩
      rw[hm]
      cases dg with
      | nil=>exact absurd rfl hne
      | cons c r=>exact h3
    ·split
     ·rename_i g0 g1 g
      show dcQ neg ([48]++46::(List.replicate (-(dg.length+ex)).toNat 48++dg))=_
      rw[S0 (fun c hc=>by rw[List.mem_singleton.1 hc];decide) (by simp) (.inl rfl) (by simpa using nd46)]
      have:=PO (neg:=neg) (a:=[48]) (f:=List.replicate (-(dg.length+ex)).toNat 48++dg) (r:=[]) (fun c hc=>by
       rcases List.mem_append.1 hc with hc | hc
       ·rw[List.eq_of_mem_replicate hc];decide
       ·exact h2 c hc) (by simp[hne]) (by simpa using nd0)
      rw[List.append_nil]at this
      rw[this,S4]
      have h8:Bt ([48]++(List.replicate (-(dg.length+ex)).toNat 48++dg))=dg:=by
       rw[<-List.append_assoc,show [48]++List.replicate (-(dg.length+ex)).toNat (48:UInt8)=List.replicate ((-(dg.length+ex)).toNat+1) 48 from rfl,Kw,Hu h3]
      have h9:=S3 0 (ex':=ex) h hne (by simp)
      rw[List.replicate_zero,List.append_nil]at h9
      rw[h8,show(-((List.replicate (-(dg.length+ex)).toNat (48:UInt8)++dg).length:Int))=ex by rw[List.length_append,List.length_replicate];omega]
      exact h9
     ·obtain⟨c,r,rfl⟩:∃c r,dg=c::r:=by
       cases dg with
       | nil=>exact absurd rfl hne
       | cons c r=>exact⟨c,r,rfl⟩
      have h9:=S3 0 (ex':=ex) h hne (by simp)
      rw[List.replicate_zero,List.append_nil]at h9
      have e101:(MH (((c::r).length:Nat)+ex)).getD 0 0=101:=rfl
      show dcQ neg ([c]++((if 1<(c::r).length then 46::r else [])++MH (((c::r).length:Nat)+ex)))=_
      have hst:¬AF (((if 1<(c::r).length then 46::r else [])++MH (((c::r).length:Nat)+ex)).getD 0 0):=by
       split
       ·exact nd46
       ·exact nd101
      rw[S0 (fun x hx=>by rw[List.mem_singleton.1 hx];exact hd0) (by simp) (.inl rfl) hst]
      cases r with
      | nil=>
       rw[if_neg (by simp),List.nil_append,dcF_no (by rw[e101];decide),XS,Hu h3,show(0:Int)+((([c]:B8).length:Nat)+ex-1)=ex by simp only[List.length_cons,List.length_nil];omega]
       exact h9
      | cons d r=>
       rw[if_pos (by simp),List.cons_append,PO (fun x hx=>h2 x (List.mem_cons_of_mem _ hx)) (by simp) (by rw[e101];exact nd101),XS]
       rw[show [c]++d::r=c::d::r from rfl,Hu h3,show(-((d::r).length:Int))+(((c::d::r).length:Nat)+ex-1)=ex by simp only[List.length_cons];omega]
       exact h9
  ·have app:∀t,AF ((dg++t).getD 0 0):=fun t=>by
    cases dg with
    | nil=>exact absurd rfl hne
    | cons c r=>exact hd0
   split
   ·exact app _
   ·split
    ·rename_i g
     obtain⟨m,hm⟩:∃m,(dg.length+ex).toNat=m+1:=⟨(dg.length+ex).toNat-1,by omega⟩
     rw[hm]
     cases dg with
     | nil=>exact absurd rfl hne
     | cons c r=>exact hd0
    ·split
     ·exact(by decide:AF 48)
     ·cases dg with
      | nil=>exact absurd rfl hne
      | cons c r=>exact hd0
def b0 (s:B8) (k:Nat):UInt8:=s.getD k 0
def dv (s:B8) (k:Nat):Nat:=(b0 s k).toNat-48
def d2 (s:B8) (k:Nat):Nat:=dv s k*10+dv s (k+1)
def dd (s:B8) (k:Nat):Prop:=AF (b0 s k)/\AF (b0 s (k+1))
instance (s:B8) (k:Nat):Decidable (dd s k):=inferInstanceAs (Decidable (_/\_))
def LF (s:B8):Prop:=dd s 0/\b0 s 2=58/\dd s 3/\b0 s 5=58/\dd s 6
instance (s:B8):Decidable (LF s):=inferInstanceAs (Decidable (_/\_/\_/\_/\_))
def Eu (s:B8):Prop:=dd s 0/\dd s 2/\b0 s 4=45/\dd s 5/\b0 s 7=45/\dd s 8
instance (s:B8):Decidable (Eu s):=inferInstanceAs (Decidable (_/\_/\_/\_/\_/\_))
def Pw (f:B8):Nat:=Cu (f++List.replicate (9-f.length) 48)
def HL (s:B8):Option (Nat×Nat×Nat×Nat×B8):=
 if LF s then
  (if b0 s 8=46 then(if AE (s.drop 9)=[]∨9<(AE (s.drop 9)).length then none else some (d2 s 0,d2 s 3,d2 s 6,Pw (AE (s.drop 9)),s.drop (9+(AE (s.drop 9)).length)))
  else some (d2 s 0,d2 s 3,d2 s 6,0,s.drop 8))
 else none
def O9 (s:B8):Option (Bool×Nat×Nat):=
 if s=[90]∨s=[122]then some (false,0,0)else if s.length=6/\(b0 s 0=43∨b0 s 0=45)/\dd s 1/\b0 s 3=58/\dd s 4 then some (decide (b0 s 0=45),d2 s 1,d2 s 4)else none
def okD (y m d:Nat):Prop:=1<=y/\y<=9999/\1<=m/\m<=12/\1<=d/\d<=KF y m
instance (y m d:Nat):Decidable (okD y m d):=inferInstanceAs (Decidable (_/\_/\_/\_/\_/\_))
def It (y m d:Nat):Nat:=yrS y+ET y m+(d-1)
abbrev TmR:=Int×Int×Int×Int×Int
def Hr:TmR:=(0,0,0,0,3)
def Hq:TmR:=(0,0,0,0,2)
def okC (h m s:Nat):Prop:=h<=23/\m<=59/\s<=59
instance (h m s:Nat):Decidable (okC h m s):=inferInstanceAs (Decidable (_/\_/\_))
def Ep (h m s f:Nat):Nat:=((h*60+m)*60+s)*1000000000+f
def tmO (y mo d h m s f:Nat) (r:B8):TmR:=
 if r=[]then(if okD y mo d/\okC h m s then(3,(It y mo d:Nat),(Ep h m s f:Nat),0,0)else Hq)
 else match O9 r with
  | none=>Hr
  | some (ls,oh,om)=>if okD y mo d/\okC h m s/\oh<=23/\om<=59 then(4,(It y mo d:Nat),(Ep h m s f:Nat),if ls then-((oh*60+om:Nat):Int)else((oh*60+om:Nat):Int),0)else Hq
def tmD (y mo d:Nat) (r:B8):TmR:=
 if r=[]then(if okD y mo d then(1,(It y mo d:Nat),0,0,0)else Hq)
 else if b0 r 0=84∨b0 r 0=116∨b0 r 0=32 then
  match HL (r.drop 1)with
  | none=>Hr
  | some (h,m,s,f,r')=>tmO y mo d h m s f r'
 else Hr
def tmP (s:B8):TmR:=
 if Eu s then tmD (d2 s 0*100+d2 s 2) (d2 s 5) (d2 s 8) (s.drop 10)
 else match HL s with
  | none=>Hr
  | some (h,m,sc,f,r)=>if r=[]then(if okC h m sc then(2,0,(Ep h m sc f:Nat),0,0)else Hq)else Hr
theorem dg_of (k:Nat) (h:k<10):AF (48+k).toUInt8:=by unfold AF;rw[Ef _ h];omega
theorem Ls (n:Nat):Bw 2 n=[(48+n/10%10).toUInt8,(48+n%10).toUInt8]:=by
 simp[Bw]
theorem YJ (n:Nat):Bw 4 n=[(48+n/10/10/10%10).toUInt8,(48+n/10/10%10).toUInt8,(48+n/10%10).toUInt8,(48+n%10).toUInt8]:=by
 simp[Bw]
theorem HY (n:Nat) (h:n<100):((48+n/10%10).toUInt8.toNat-48)*10+((48+n%10).toUInt8.toNat-48)=n:=by
 rw[Ef _ (by omega),Ef _ (by omega)];omega
theorem K8:∀(l:B8) (a:Nat),FO a l=a*10^l.length+FO 0 l
 | [],a=>by simp[FO]
 | c::l,a=>by
  have h1:=K8 l (10*a+(c.toNat-48))
  have h2:=K8 l (10*0+(c.toNat-48))
  show FO (10*a+(c.toNat-48)) l=_+FO (10*0+(c.toNat-48)) l
  rw[h1,h2,List.length_cons,Nat.pow_succ,Nat.add_mul,Nat.add_mul]
  have:10*a*10^l.length=a*(10^l.length*10):=by rw[Nat.mul_comm 10 a,Nat.mul_assoc,Nat.mul_comm 10]
  omega
theorem QQ:∀(w n:Nat),n<10^w->Cu (Bw w n)=n
 | 0,n,h=>by rw[show n=0 by simpa using h];rfl
 | w+1,n,h=>by
  have:=QQ w (n/10) (by rw[Nat.div_lt_iff_lt_mul (by omega)];rw[Nat.pow_succ]at h;exact h)
  unfold Cu at this⊢
  rw[Bw,K7,this]
  unfold FO
  rw[List.foldl_cons,List.foldl_nil,Ef _ (by omega)];omega
theorem cut0_rep:∀(l:B8),∃k,l=Iv l++List.replicate k 48:=by
 intro l
 have:∀n (l:B8),l.length=n->∃k,l=Iv l++List.replicate k 48:=by
  intro n
  induction n with
  | zero=>intro l h;rw[List.eq_nil_of_length_eq_zero h];exact⟨0,rfl⟩
  | succ n ih=>
   intro l h
   have hne:l≠ []:=fun e=>by rw[e]at h;simp at h
   have hl:=List.dropLast_concat_getLast hne
   generalize l.dropLast=a at hl
   generalize l.getLast hne=c at hl
   rw[<-hl,RN]
   rw[<-hl,List.length_append]at h
   by_cases h0:c=48
   ·obtain⟨k,hk⟩:=ih a (by simpa using h)
    rw[if_pos h0]
    refine⟨k+1,?_⟩
    rw[List.replicate_succ',<-List.append_assoc,<-hk,h0]
   ·rw[if_neg h0];exact⟨0,by simp⟩
 exact this _ l rfl
theorem RC {n:Nat} (h:n<1000000000):Pw (Iv (Bw 9 n))=n:=by
 obtain⟨k,hk⟩:=cut0_rep (Bw 9 n)
 have hl:=congrArg List.length hk
 rw[Bv,List.length_append,List.length_replicate]at hl
 unfold Pw
 rw[show 9-(Iv (Bw 9 n)).length=k by omega,<-hk]
 exact QQ 9 n h
theorem XW {n:Nat} (h:n<1000000000) (h0:n≠0):Iv (Bw 9 n)≠ []:=by
 intro e
 have:=RC h
 rw[e]at this
 exact h0 (this.symm.trans (by decide))
theorem Iu (n:Nat):∀c,c∈Iv (Bw 9 n)->AF c:=fun c hc=>BM 9 n c (cut0_mem hc)
theorem Y8 {n:Nat} (h:n<=86399999999999) {r:B8} (hr:¬AF (b0 r 0)) (hr2:b0 r 0≠46):
  HL (JB n++r)=some (n/1000000000/3600,n/1000000000/60%60,n/1000000000%60,n%1000000000,r):=by
 have h1:=HY (n/1000000000/3600) (by omega)
 have h2:=HY (n/1000000000/60%60) (by omega)
 have h3:=HY (n/1000000000%60) (by omega)
 have dg1:=fun k=>dg_of (k%10) (by omega)
 unfold JB
 generalize hf:(if n%1000000000=0 then([]:B8)else 46::Iv (Bw 9 (n%1000000000)))=f
 generalize n/1000000000/3600=hh at*
 generalize n/1000000000/60%60=mm at*
 generalize n/1000000000%60=ss at*
 simp only[Ls,List.cons_append,List.nil_append]
 unfold HL
 rw[if_pos]
 ·have e8:∀(a b c d e f' g i:UInt8) (l:B8),b0 (a::b::c::d::e::f'::g::i::l) 8=b0 l 0:=fun _ _ _ _ _ _ _ _ _=>rfl
  rw[e8]
  have v1:∀(a b c d e f' g i:UInt8) (l:B8),d2 (a::b::c::d::e::f'::g::i::l) 0=(a.toNat-48)*10+(b.toNat-48):=fun _ _ _ _ _ _ _ _ _=>rfl
  have v2:∀(a b c d e f' g i:UInt8) (l:B8),d2 (a::b::c::d::e::f'::g::i::l) 3=(d.toNat-48)*10+(e.toNat-48):=fun _ _ _ _ _ _ _ _ _=>rfl
  have v3:∀(a b c d e f' g i:UInt8) (l:B8),d2 (a::b::c::d::e::f'::g::i::l) 6=(g.toNat-48)*10+(i.toNat-48):=fun _ _ _ _ _ _ _ _ _=>rfl
  rw[v1,v2,v3,h1,h2,h3]
  subst hf
  by_cases h0:n%1000000000=0
  ·rw[if_pos h0,List.nil_append,if_neg hr2,h0];rfl
  ·rw[if_neg h0]
   have hdr:=HI (r:=r) (Iu (n%1000000000)) hr
   have hd9:∀(a b c d e f' g i x:UInt8) (l:B8),(a::b::c::d::e::f'::g::i::x::l).drop 9=l:=fun _ _ _ _ _ _ _ _ _ _=>rfl
   rw[if_pos (show b0 (46::Iv (Bw 9 (n%1000000000))++r) 0=46 from rfl),List.cons_append,<-List.drop_drop,hd9,hdr,if_neg,RC (by omega),List.drop_left]
   rintro(e | e)
   ·exact XW (by omega) h0 e
   ·have:=U9 (Bw 9 (n%1000000000))
    rw[Bv]at this;omega
 ·exact⟨⟨dg1 _,dg1 _⟩,rfl,⟨dg1 _,dg1 _⟩,rfl,⟨dg1 _,dg1 _⟩⟩
theorem Mx (n:Nat):Ep (n/1000000000/3600) (n/1000000000/60%60) (n/1000000000%60) (n%1000000000)=n:=by unfold Ep;omega
theorem O8 {n:Nat} (h:n<=86399999999999):okC (n/1000000000/3600) (n/1000000000/60%60) (n/1000000000%60):=by unfold okC;omega
theorem YM {z:Int} (h1: -1439<=z) (h2:z<=1439):O9 (Ic z)=some (decide (z<0),z.natAbs/60,z.natAbs%60):=by
 have t1:=HY (z.natAbs/60) (by omega)
 have t2:=HY (z.natAbs%60) (by omega)
 have dg1:=fun k=>dg_of (k%10) (by omega)
 unfold Ic
 by_cases h0:z=0
 ·subst h0;decide
 ·rw[if_neg h0]
  generalize z.natAbs/60=hh at*
  generalize z.natAbs%60=mm at*
  simp only[Ls,List.cons_append,List.nil_append]
  unfold O9
  rw[if_neg (by simp),if_pos]
  ·have v1:∀(a b c d e f:UInt8),d2 [a,b,c,d,e,f] 1=(b.toNat-48)*10+(c.toNat-48):=fun _ _ _ _ _ _=>rfl
   have v2:∀(a b c d e f:UInt8),d2 [a,b,c,d,e,f] 4=(e.toNat-48)*10+(f.toNat-48):=fun _ _ _ _ _ _=>rfl
   rw[v1,v2,t1,t2]
   by_cases hz:z<0
   ·rw[if_pos hz,decide_eq_true hz];rfl
   ·rw[if_neg hz,decide_eq_false hz];rfl
  ·refine⟨rfl,?_,⟨dg1 _,dg1 _⟩,rfl,⟨dg1 _,dg1 _⟩⟩
   by_cases hz:z<0
   ·rw[if_pos hz];exact .inr rfl
   ·rw[if_neg hz];exact .inl rfl
theorem Lw (y m:Nat):KF y m<=31:=by
 have ite:∀{p:Prop} [Decidable p] {a b:Nat},a<=31->b<=31->(if p then a else b)<=31:=fun h1 h2=>by split<;>assumption
 unfold KF
 exact ite (ite (by omega) (by omega)) (ite (by omega) (by omega))
theorem XV {n y m d:Nat} (h:Gu n y m d):J5 n=Bw 4 y++45::(Bw 2 m++45::Bw 2 d):=by unfold J5;rw[Y6 h]
theorem OA {n y m d:Nat} (h:Gu n y m d) (r:B8):tmP (J5 n++r)=tmD y m d r:=by
 obtain⟨a1,a2,a3,a4,a5,a6,a7⟩:=h
 have hd:d<=31:=Nat.le_trans a6 (Lw y m)
 rw[XV ⟨a1,a2,a3,a4,a5,a6,a7⟩]
 have t1:=HY m (by omega)
 have t2:=HY d (by omega)
 have dg1:=fun k=>dg_of (k%10) (by omega)
 have t3:((((48+y/10/10/10%10).toUInt8.toNat-48)*10+((48+y/10/10%10).toUInt8.toNat-48))*100+(((48+y/10%10).toUInt8.toNat-48)*10+((48+y%10).toUInt8.toNat-48)))=y:=by
  rw[Ef _ (by omega),Ef _ (by omega),Ef _ (by omega),Ef _ (by omega)];omega
 simp only[Ls,YJ,List.cons_append,List.nil_append]
 unfold tmP
 rw[if_pos]
 ·have v0:∀(a b c d e f g i j k:UInt8) (l:B8),d2 (a::b::c::d::e::f::g::i::j::k::l) 0=(a.toNat-48)*10+(b.toNat-48):=fun _ _ _ _ _ _ _ _ _ _ _=>rfl
  have v2:∀(a b c d e f g i j k:UInt8) (l:B8),d2 (a::b::c::d::e::f::g::i::j::k::l) 2=(c.toNat-48)*10+(d.toNat-48):=fun _ _ _ _ _ _ _ _ _ _ _=>rfl
  have v5:∀(a b c d e f g i j k:UInt8) (l:B8),d2 (a::b::c::d::e::f::g::i::j::k::l) 5=(f.toNat-48)*10+(g.toNat-48):=fun _ _ _ _ _ _ _ _ _ _ _=>rfl
  have v8:∀(a b c d e f g i j k:UInt8) (l:B8),d2 (a::b::c::d::e::f::g::i::j::k::l) 8=(j.toNat-48)*10+(k.toNat-48):=fun _ _ _ _ _ _ _ _ _ _ _=>rfl
  rw[v0,v2,v5,v8,t1,t2,t3];rfl
 ·exact⟨⟨dg1 _,dg1 _⟩,⟨dg1 _,dg1 _⟩,rfl,⟨dg1 _,dg1 _⟩,rfl,⟨dg1 _,dg1 _⟩⟩
theorem Qy (n:Nat) (r:B8):¬Eu (JB n++r):=by
 unfold JB
 simp only[Ls,List.cons_append,List.nil_append]
 rintro⟨_,⟨h,_⟩,_⟩
 exact absurd h (by show ¬AF 58;decide)
def X4 (n:Nat):Prop:=∃y m d,Gu n y m d
theorem has_yr:∀(k n:Nat),n<yrS (k+1)->∃y,1<=y/\y<=k/\yrS y<=n/\n<yrS (y+1)
 | 0,n,h=>absurd h (by show ¬n<0;omega)
 | k+1,n,h=>by
  by_cases g:yrS (k+1)<=n
  ·exact⟨k+1,by omega,Nat.le_refl _,g,h⟩
  ·obtain⟨y,h1,h2,h3⟩:=has_yr k n (by omega)
   exact⟨y,h1,by omega,h3⟩
theorem XD (y:Nat):∀(k r:Nat),r<ET y (k+1)->∃m,1<=m/\m<=k/\ET y m<=r/\r<ET y (m+1)
 | 0,r,h=>absurd h (by show ¬r<0;omega)
 | k+1,r,h=>by
  by_cases g:ET y (k+1)<=r
  ·exact⟨k+1,by omega,Nat.le_refl _,g,h⟩
  ·obtain⟨m,h1,h2,h3⟩:=XD y k r (by omega)
   exact⟨m,h1,by omega,h3⟩
theorem has_date {n:Nat} (h:n<=3652058):X4 n:=by
 obtain⟨y,h1,h2,h3,h4⟩:=has_yr 9999 n (by show n<3652059;omega)
 rw[IT h1]at h4
 obtain⟨m,m1,m2,m3,m4⟩:=XD y 12 (n-yrS y) (by rw[Er y (by omega)];omega)
 rw[Er y m1]at m4
 exact⟨y,m,n-yrS y-ET y m+1,h1,h2,m1,m2,by omega,by omega,by omega⟩
theorem Z6 {z:Int}:(if decide (z<0)=true then-((z.natAbs/60*60+z.natAbs%60:Nat):Int)else((z.natAbs/60*60+z.natAbs%60:Nat):Int))=z:=by
 by_cases h:z<0
 ·rw[if_pos (by simpa using h)];omega
 ·rw[if_neg (by simpa using h)];omega
theorem ZC {k td tn tz:Int} (h:DW k td tn tz) (hd:k≠2->X4 td.toNat):tmP (Ja k td tn tz)=(k,td,tn,tz,0):=by
 obtain⟨h1,h2,h3,h4,h5,h6,h7,h8,h9,h10,h11⟩:=h
 have etn:((tn.toNat:Nat):Int)=tn:=by omega
 have etd:((td.toNat:Nat):Int)=td:=by omega
 have clk:=fun r hr hr2=>Y8 (n:=tn.toNat) (r:=r) (by omega) hr hr2
 unfold Ja
 by_cases k1:k=1
 ·obtain⟨y,m,d,hD⟩:=hd (by omega)
  have:=OA hD []
  rw[List.append_nil]at this
  rw[if_pos k1,this]
  obtain⟨a1,a2,a3,a4,a5,a6,a7⟩:=hD
  unfold tmD
  rw[if_pos rfl,if_pos ⟨a1,a2,a3,a4,a5,a6⟩,show It y m d=td.toNat from a7.symm,etd,h10 k1,h11 (by omega),k1]
 ·rw[if_neg k1]
  by_cases k2:k=2
  ·have hc:=clk [] (by simpa [b0]using nd0) (by simp[b0])
   have hn:=Qy tn.toNat []
   rw[List.append_nil]at hc hn
   rw[if_pos k2]
   unfold tmP
   rw[if_neg hn,hc]
   dsimp only
   rw[if_pos rfl,if_pos (O8 (by omega)),Mx,etn,h9 k2,h11 (by omega),k2]
  ·rw[if_neg k2]
   obtain⟨y,m,d,hD⟩:=hd k2
   have hD0:=hD
   obtain⟨a1,a2,a3,a4,a5,a6,a7⟩:=hD
   have a7':It y m d=td.toNat:=a7.symm
   by_cases k3:k=3
   ·have hc:=clk [] (by simpa [b0]using nd0) (by simp[b0])
    rw[List.append_nil]at hc
    rw[if_pos k3,OA hD0]
    unfold tmD
    rw[if_neg (by simp),if_pos (.inl rfl),List.drop_succ_cons,List.drop_zero,hc]
    dsimp only
    unfold tmO
    rw[if_pos rfl,if_pos ⟨⟨a1,a2,a3,a4,a5,a6⟩,O8 (by omega)⟩,Mx,etn,a7',etd,h11 (by omega),k3]
   ·have o1:AF (b0 (Ic tz) 0)->False:=by
     unfold Ic;split
     ·exact(by decide:¬AF 90)
     ·split
      ·exact(by decide:¬AF 45)
      ·exact(by decide:¬AF 43)
    have o2:b0 (Ic tz) 0≠46:=by
     unfold Ic;split
     ·exact(by decide:(90:UInt8)≠46)
     ·split
      ·exact(by decide:(45:UInt8)≠46)
      ·exact(by decide:(43:UInt8)≠46)
    have o3:Ic tz≠ []:=by unfold Ic;split<;>simp
    have hc:=clk (Ic tz) o1 o2
    rw[if_neg k3,OA hD0]
    unfold tmD
    rw[if_neg (by simp),if_pos (.inl rfl),List.drop_succ_cons,List.drop_zero,hc]
    dsimp only
    unfold tmO
    rw[if_neg o3,YM h7 h8]
    dsimp only
    rw[if_pos ⟨⟨a1,a2,a3,a4,a5,a6⟩,O8 (by omega),by omega,by omega⟩,Mx,etn,a7',etd,Z6,show k=4 by omega]
theorem JJ:∀(l:B8),(∀c,c∈l->AF c)->Cu l<10^l.length
 | [],_=>by decide
 | c::l,h=>by
  have ih:=JJ l fun x hx=>h x (.tail _ hx)
  have hc:=(h c (.head _)).2
  unfold Cu at ih⊢
  rw[show FO 0 (c::l)=FO (c.toNat-48) l by simp[FO],K8,List.length_cons,Nat.pow_succ]
  have:(c.toNat-48)*10^l.length<=9*10^l.length:=Nat.mul_le_mul_right _ (by omega)
  omega
theorem valN_ge {c:UInt8} {l:B8} (hc:AF c) (h0:c≠48):10^l.length<=Cu (c::l):=by
 unfold Cu
 rw[show FO 0 (c::l)=FO (c.toNat-48) l by simp[FO],K8]
 have h1:=hc.1
 have h2:c.toNat≠48:=fun e=>h0 (UInt8.toNat_inj.1 (by simpa using e))
 have:1*10^l.length<=(c.toNat-48)*10^l.length:=Nat.mul_le_mul_right _ (by omega)
 omega
theorem HV:∀l:B8,Cu (Bt l)=Cu l
 | []=>rfl
 | c::l=>by
  by_cases h:c=48
  ·subst h
   have:=Kw 1 l
   rw[show List.replicate 1 (48:UInt8)++l=48::l from rfl]at this
   rw[this,HV l]
   unfold Cu
   rw[show FO 0 (48::l)=FO 0 l by simp[FO]]
  ·rw[Jd h]
theorem Kv (l:B8):∀c,c∈Bt l->c∈l:=fun c h=>(List.dropWhile_sublist (l:=l) (fun x:UInt8=>x==48)).subset h
theorem H5 (l:B8):(Bt l).length<=l.length:=(List.dropWhile_sublist (l:=l) (fun x:UInt8=>x==48)).length_le
theorem Jc (l:B8):(Bt l).getD 0 0≠48:=by
 induction l with
 | nil=>decide
 | cons c l ih=>
  by_cases h:c=48
  ·subst h
   have:=Kw 1 l
   rw[show List.replicate 1 (48:UInt8)++l=48::l from rfl]at this
   rw[this];exact ih
  ·rw[Jd h];exact h
theorem Zw {l:B8} {k:Nat} (h:∀c,c∈l->AF c) (hk:k<(Bt l).length):10^k<=Cu l:=by
 rw[<-HV l]
 have h0:=Jc l
 have hs:=Kv l
 generalize Bt l=m at*
 cases m with
 | nil=>exact absurd hk (Nat.not_lt_zero _)
 | cons c m=>
  have:=valN_ge (l:=m) (h c (hs c (.head _))) h0
  rw[List.length_cons]at hk
  exact Nat.le_trans (Nat.pow_le_pow_right (by decide) (by omega)) this
theorem Ye {l:B8} {k:Nat} (h:∀c,c∈l->AF c) (hk:(Bt l).length<=k):Cu l<10^k:=by
 rw[<-HV l]
 exact Nat.lt_of_lt_of_le (JJ _ fun c hc=>h c (Kv l c hc)) (Nat.pow_le_pow_right (by decide) hk)
theorem dcN_far {neg:Bool} {s:B8} {ex n m:Int} (hl:s.length<=100000000) (h1: -100000000<=ex) (h2:ex<=100000000) (hn:1000000000<=n) (hm:1000000000<=m) (less:Bool):
  dcN neg s (if less then ex-n else ex+n)=dcN neg s (if less then ex-m else ex+m):=by
 unfold dcN
 have hz:=N1 s
 by_cases h:s=[]
 ·rw[if_pos h,if_pos h]
 ·rw[if_neg h,if_neg h]
  cases less with
  | true=>
   simp only[if_true]
   rw[if_pos (by omega),if_pos (by omega)]
  | false=>
   simp only[Bool.false_eq_true,if_false]
   rw[if_pos (by omega),if_pos (by omega)]
theorem XP (neg:Bool) (s:B8) (ex:Int):(dcN neg s ex).2.1.length<=s.length:=by
 unfold dcN
 split
 ·simp
 split
 ·simp
 ·show(s.take _).length<=_
  rw[List.length_take];omega
theorem SY (neg:Bool) (all:B8) (ex:Int) (less:Bool) (r:B8):(dcX neg all ex less r).2.1.length<=all.length:=by
 unfold dcX
 split
 ·simp[LM]
 ·exact Nat.le_trans (XP _ _ _) (H5 all)
theorem XR (neg:Bool) (all:B8) (ex:Int) (r:B8):(dcE neg all ex r).2.1.length<=all.length:=by
 unfold dcE
 split
 ·exact Nat.le_trans (XP _ _ _) (H5 all)
 split
 ·split
  ·exact SY _ _ _ _ _
  split
  ·exact SY _ _ _ _ _
  ·exact SY _ _ _ _ _
 ·simp[LM]
theorem dcF_len (neg:Bool) (a r:B8):(dcF neg a r).2.1.length<=a.length+r.length:=by
 unfold dcF
 split
 ·split
  ·simp[LM]
  ·refine Nat.le_trans (XR _ _ _ _) ?_
   rw[List.length_append]
   have:=JY (r.drop 1)
   rw[List.length_drop]at this
   omega
 ·exact Nat.le_trans (XR _ _ _ _) (Nat.le_add_right _ _)
theorem XN (neg:Bool) (s:B8):(dcQ neg s).2.1.length<=s.length:=by
 unfold dcQ
 split
 ·simp[LM]
 ·refine Nat.le_trans (dcF_len _ _ _) ?_
  have:=JY s
  rw[List.length_drop];omega
theorem dcP_len (s:B8):(dcP s).2.1.length<=s.length:=by
 unfold dcP
 split
 ·refine Nat.le_trans (XN _ _) ?_
  rw[List.length_drop];omega
 ·exact XN _ _
theorem MU {l:B8} {c:UInt8} (hc:c.toNat<128) {st:St} {K:B8->St->Prop} (hk:K (l.dropWhile (·==c)) st):CallT PR DT [.str l,.str [c]] [.one .str] st K:=by
 refine CI (fun _ _=>by kernel_rfl) fun g w vargs s hr=>?_
 obtain⟨v,u,rfl,hv,hu⟩:=Lq hr
 rw[Bf hv,Bf hu]
 refine Calls.mono (Tryz.strings_TrimLeft_one ⟨l.toArray⟩ c hc w) ?_
 rintro e w' ⟨rfl,rfl⟩
 exact⟨_,rfl,.str _,st,g,hk,s,Rel.str _,Ext.refl _ _⟩
theorem SN {s p:B8} {st:St} {K:Bool->St->Prop} (hk:K (decide (s.take p.length=p)) st):CallT PR A6 [.str s,.str p] [.one (.bool)] st K:=by
 refine IW s p st K (GZ s p st _ (Aa (fun h=>⟨⟨by omega,h⟩,?_⟩) fun h=>?_))
 ·exact hk
 ·have:¬s.take p.length=p:=fun h0=>by
   have:=congrArg List.length h0
   rw[List.length_take]at this
   omega
  rw[decide_eq_false this]at hk
  exact hk
theorem u8i {c k:UInt8}:((c.toNat:Int)=(k.toNat:Int))↔c=k:=⟨fun h=>UInt8.toNat_inj.1 (by omega),fun h=>by rw[h]⟩
theorem take1 {s:B8} {c:UInt8} (hc:c≠0):s.take [c].length=[c]↔s.getD 0 0=c:=by
 cases s with
 | nil=>exact⟨fun h=>absurd h (by simp),fun h=>absurd (show(0:UInt8)=c from h).symm hc⟩
 | cons a s=>show [a]=[c]↔a=c;simp
theorem JU {s:B8} {c:UInt8} (hc:c≠0) {st:St} {K:Bool->St->Prop} (hk:K (decide (s.getD 0 0=c)) st):CallT PR A6 [.str s,.str [c]] [.one (.bool)] st K:=
 SN (by rw[decide_eq_decide.2 (take1 hc)];exact hk)
theorem PJ:∀(s:B8) (k:Nat),k<=s.length->(∀j,j<k->AF (s.getD j 0))->(k=s.length∨¬AF (s.getD k 0))->(AE s).length=k
 | [],k,h,_,_=>by
  have:k=0:=by simpa using h
  subst this;rfl
 | a::s,0,_,_,h=>by
  have h2:¬AF a:=by
   rcases h with h | h
   ·simp at h
   ·exact h
  unfold AE
  rw[List.takeWhile_cons_of_neg (by simpa using h2)];rfl
 | a::s,k+1,h1,h2,h3=>by
  have ha:AF a:=h2 0 (by omega)
  have ih:=PJ s k (by simpa using h1) (fun j hj=>h2 (j+1) (by omega)) (by
   rcases h3 with h3 | h3
   ·exact .inl (by simpa using h3)
   ·exact .inr h3)
  unfold AE at ih⊢
  rw[List.takeWhile_cons_of_pos (by simpa using ha),List.length_cons,ih]
theorem VX {s:B8} (hl:s.length<=1000000000) {st:St} {K:Int->St->Prop} (hk:K ((AE s).length:Nat) st):CallT PR Dy [.str s] [.one (.int .i64)] st K:=by
 refine Om s st K ⟨fun n s' st'=>s=s'/\st=st'/\∃k:Nat,n=k/\k<=s.length/\∀j,j<k->AF (s.getD j 0),fun n _ _=>(s.length-n).toNat,⟨rfl,rfl,0,rfl,Nat.zero_le _,fun j h=>absurd h (Nat.not_lt_zero _)⟩,?_⟩
 rintro _ _ _ ⟨rfl,rfl,k,rfl,hk1,hd⟩
 rw[Int.toNat_natCast]
 have fin:(k=s.length∨¬AF (s.getD k 0))->K ((k:Nat):Int) st:=fun h=>by rw[PJ s k hk1 hd h]at hk;exact hk
 refine Aa (fun g=>⟨⟨by omega,g⟩,Aa (fun g1=>⟨⟨by omega,g⟩,Aa (fun g2=>?_) fun g2=>fin (.inr fun h=>g2 (by have:=h.2;omega))⟩) fun g1=>fin (.inr fun h=>g1 (by have:=h.1;omega))⟩) fun g=>fin (.inl (by omega))
 rw[Ai _ (by omega) (by omega)]
 refine⟨⟨rfl,rfl,k+1,by omega,by omega,fun j hj=>?_⟩,by dsimp only;omega⟩
 by_cases hjk:j=k
 ·subst hjk;exact⟨by omega,by omega⟩
 ·exact hd j (by omega)
theorem L6 {l:B8} {k:Nat} (h:k<l.length):Cu (l.take (k+1))=10*Cu (l.take k)+((List.getD l k 0).toNat-48):=by
 rw[List.take_succ_eq_append_getElem h]
 unfold Cu
 rw[K7]
 have:l[k]=List.getD l k 0:=by simp[List.getD,h]
 rw[<-this];rfl
theorem Sh {l:B8} (hd:∀c,c∈l->AF c) (h:l.length<=18) (k:Nat) (hk:k<l.length):Cu (l.take k)<100000000000000000:=by
 have h1:=JJ (l.take k) fun c hc=>hd c (List.mem_of_mem_take hc)
 rw[List.length_take,Nat.min_eq_left (by omega)]at h1
 have:(10:Nat)^k<=10^17:=Nat.pow_le_pow_right (by decide) (by omega)
 omega
theorem ZB {l:B8} (hl:l.length<=18) (hd:∀c,c∈l->AF c) (h0:l.getD 0 0≠48) {st:St} {K:Int->Int->St->Prop} (hk:K (Cu l:Nat) 0 st):CallT PR FA [.str l] [.one (.int .i64),.one (.int .i64)] st K:=by
 refine NA l st K (RM (by omega) ?_)
 have hno:decide (P6 l)=true:=decide_eq_true ⟨by omega,hd,fun _=>h0⟩
 rw[hno]
 refine Ap (fun h=>by cases h) fun _=>?_
 refine⟨fun n i l' m st'=>l=l'/\st=st'/\(l.length:Int)=m/\∃k:Nat,i=k/\k<=l.length/\n=(Cu (l.take k):Nat),fun _ i _ _ _=>(l.length-i).toNat,⟨rfl,rfl,rfl,0,rfl,Nat.zero_le _,rfl⟩,?_⟩
 rintro _ _ _ _ _ ⟨rfl,rfl,rfl,k,rfl,hkl,rfl⟩
 rw[Int.toNat_natCast]
 refine Aa (fun g=>⟨⟨by omega,g⟩,?_⟩) fun g=>?_
 ·have hk':k<l.length:=by omega
  have hv:=Sh hd hl k hk'
  have hs:=L6 hk'
  have hc:=hd _ (LD hk')
  obtain⟨c1,c2⟩:=hc
  rw[N3 _ (by omega) (by omega),Ai (((List.getD l k 0).toNat:Int)-48) (by omega) (by omega),Ai (9223372036854775807-_) (by omega) (by omega),Int.tdiv_eq_ediv_of_nonneg (by omega),Ai _ (by omega) (by omega)]
  refine Aa (fun g2=>by omega) fun g2=>?_
  rw[Ai (((Cu (l.take k):Nat):Int)*10) (by omega) (by omega),Ai _ (by omega) (by omega),Ai _ (by omega) (by omega)]
  exact⟨⟨rfl,rfl,rfl,k+1,by omega,by omega,by rw[hs];omega⟩,by dsimp only;omega⟩
 ·have:k=l.length:=by omega
  subst this
  rw[List.take_length];exact hk
theorem moved_ok {ex:Int} {less:Bool} {l:B8} (h1: -100000000<=ex) (h2:ex<=100000000) (hd:∀c,c∈l->AF c) (h0:l.getD 0 0≠48) {st:St} {K:Int->St->Prop}
  (hk:K (if less then ex-((if l.length<=12 then Cu l else 1099511627776:Nat):Int)else ex+((if l.length<=12 then Cu l else 1099511627776:Nat):Int)) st):CallT PR EY [.int .i64 ex,.bool less,.str l] [.one (.int .i64)] st K:=by
 refine LZ ex less l st K (Aa (fun g=>?_) fun g=>?_)
 ·have g':l.length<=12:=by omega
  rw[if_pos g']at hk
  have hv:=JJ l hd
  have:(10:Nat)^l.length<=10^12:=Nat.pow_le_pow_right (by decide) g'
  refine ZB (by omega) hd h0 (Ap (fun e=>?_) fun e=>?_)
  ·rw[Ai _ (by omega) (by omega)];rw[if_pos e]at hk;exact hk
  ·rw[Ai _ (by omega) (by omega)];rw[e]at hk;exact hk
 ·rw[if_neg (show ¬l.length<=12 by omega)]at hk
  refine Ap (fun e=>?_) fun e=>?_
  ·rw[Ai _ (by omega) (by omega)];rw[if_pos e]at hk;exact hk
  ·rw[Ai _ (by omega) (by omega)];rw[e]at hk;exact hk
abbrev KD (K:Bool->B8->Int->Int->St->Prop) (r:Bool×B8×Int×Int) (st:St):Prop:=K r.1 r.2.1 r.2.2.1 r.2.2.2 st
theorem norm_ok {neg:Bool} {s:B8} {ex:Int} (hl:s.length<=2000000) (h1: -3000000000000<=ex) (h2:ex<=3000000000000) {st:St} {K:Bool->B8->Int->Int->St->Prop} (hk:KD K (dcN neg s ex) st):
  CallT PR FD [.bool neg,.str s,.int .i64 ex] [.agg [.bool,.str,.int .i64],.one (.int .i64)] st K:=by
 unfold KD dcN at hk
 refine ND neg s ex st K (Aa (fun g=>by rw[if_pos g]at hk;exact hk) fun g=>La (by decide) (by omega) ?_)
 rw[if_neg g]at hk
 have ht:=I9 s
 have e1:i64.wrap ((s.length:Int)-((Lib.trimRightB s 48).length:Int))=(A4 s:Nat):=by rw[Ai _ (by omega) (by omega)];omega
 rw[e1]
 have e2:i64.wrap ((s.length:Int)-(A4 s:Nat))=((s.length-A4 s:Nat):Int):=by rw[Ai _ (by omega) (by omega)];omega
 rw[e2,Int.toNat_natCast,Ai (400-_) (by omega) (by omega),Ai (-400-_) (by omega) (by omega),Ai (ex+_) (by omega) (by omega)]
 have hlen:(s.take (s.length-A4 s)).length=s.length-A4 s:=by rw[List.length_take];omega
 rw[hlen]
 refine⟨⟨by omega,by omega⟩,Aa (fun g1=>?_) fun g1=>Aa (fun g2=>?_) fun g2=>Aa (fun g3=>?_) fun g3=>?_⟩
 ·rw[if_pos (by omega)]at hk;exact hk
 ·rw[if_pos (by omega)]at hk;exact hk
 ·rw[if_pos (by omega)]at hk;exact hk
 ·rw[if_neg (by omega)]at hk;exact hk
theorem SL {neg:Bool} {s:B8} {ex:Int} (hl:s.length<=2000000) (hd:∀c,c∈s->AF c) (h1: -3000000000000<=ex) (h2:ex<=3000000000000) {st:St} {K:Bool->B8->Int->Int->St->Prop} (hk:KD K (dcN neg (Bt s) ex) st):
  CallT PR CY [.bool neg,.str s,.int .i64 ex] [.agg [.bool,.str,.int .i64],.one (.int .i64)] st K:=by
 refine NE neg s ex st K ⟨fun i neg' s' ex' n _ _ _ st'=>neg=neg'/\s=s'/\ex=ex'/\(s.length:Int)=n/\st=st'/\0<=i,fun i _ _ _ _ _ _ _ _=>(s.length-i).toNat,⟨rfl,rfl,rfl,rfl,rfl,by omega⟩,?_⟩
 rintro i _ _ _ _ _ _ _ _ ⟨rfl,rfl,rfl,rfl,rfl,hi⟩
 refine Aa (fun g=>?_) fun g=>?_
 ·have hc:=hd _ (LD (show i.toNat<s.length by omega))
  obtain⟨c1,c2⟩:=hc
  refine⟨⟨hi,g⟩,Aa (fun g1=>by omega) fun _=>⟨⟨hi,g⟩,Aa (fun g1=>by omega) fun _=>?_⟩⟩
  rw[Ai _ (by omega) (by omega)]
  exact⟨⟨rfl,rfl,rfl,rfl,rfl,by omega⟩,by dsimp only;omega⟩
 ·refine MU (by decide) (norm_ok (Nat.le_trans (H5 s) hl) h1 h2 hk)
theorem dP_ok {s:B8} (hl:s.length<=1000000) {st:St} {K:Bool->B8->Int->Int->St->Prop} (hk:KD K (dcP s) st):CallT PR Cz [.str s] [.agg [.bool,.str,.int .i64],.one (.int .i64)] st K:=by
 refine L3 s st K (JU (by decide) ?_)
 refine⟨fun s1 neg _ _ _ st'=>st=st'/\dcP s=dcQ neg s1/\s1.length<=s.length,Aa (fun g=>?_) fun g=>?_,?_⟩
 ·refine⟨⟨by omega,?_⟩,rfl,?_,?_⟩
  ·cases s with
   | nil=>exact absurd g (by decide)
   | cons a s=>rw[List.length_cons];omega
  ·unfold dcP;rw[if_pos g,decide_eq_true g];rfl
  ·rw[List.length_drop];omega
 ·refine⟨rfl,?_,Nat.le_refl _⟩
  unfold dcP;rw[if_neg g,decide_eq_false g]
 rintro s1 neg _ _ _ _ ⟨rfl,h1,hl1⟩
 rw[h1]at hk
 refine VX (by omega) ?_
 have hrl:=JY s1
 refine⟨fun s2 neg2 n _ _ _ st'=>s1=s2/\neg=neg2/\n=((AE s1).length:Nat)/\st=st'/\dcQ neg s1=dcF neg (AE s1) (s1.drop (AE s1).length),Aa (fun g=>?_) fun g=>Aa (fun g2=>?_) fun g2=>?_,?_⟩
 ·have:AE s1=[]:=List.length_eq_zero_iff.1 (by omega)
  unfold KD dcQ at hk
  rw[if_pos (.inl this)]at hk;exact hk
 ·refine⟨⟨by omega,by omega⟩,Aa (fun g3=>?_) fun g3=>⟨rfl,rfl,rfl,rfl,?_⟩⟩
  ·have:s1.getD 0 0=48:=u8i.1 g3
   unfold KD dcQ at hk
   rw[if_pos (.inr ⟨by omega,this⟩)]at hk;exact hk
  ·unfold dcQ
   rw[if_neg]
   rintro(h | ⟨_,h⟩)
   ·exact g (by rw[h];rfl)
   ·exact g3 (by show((s1.getD 0 0).toNat:Int)=48;rw[h];rfl)
 ·refine⟨rfl,rfl,rfl,rfl,?_⟩
  unfold dcQ
  rw[if_neg]
  rintro(h | ⟨h,_⟩)
  ·exact g (by rw[h];rfl)
  ·omega
 rintro _ _ _ _ _ _ _ ⟨rfl,rfl,rfl,rfl,h2⟩
 rw[h2]at hk
 rw[Int.toNat_natCast,KN]
 refine⟨⟨by omega,by omega⟩,⟨by omega,by omega⟩,?_⟩
 have hdg:=HH s1
 generalize hr:s1.drop (AE s1).length=r at*
 generalize ha:AE s1=a at*
 have hrl2:a.length+r.length<=1000000:=by
  have:r.length=s1.length-a.length:=by rw[<-hr,List.length_drop]
  omega
 clear hr ha h1 h2
 refine⟨fun s3 all ex neg3 _ _ _ st'=>neg=neg3/\st=st'/\dcF neg a r=dcE neg all ex s3/\ -1000000<=ex/\ex<=0/\all.length<=1000000/\s3.length<=1000000/\∀c,c∈all->AF c,JU (by decide) (Aa (fun g=>?_) fun g=>?_),?_⟩
 ·have hr1:1<=r.length:=by
   cases r with
   | nil=>exact absurd g (by decide)
   | cons c r=>rw[List.length_cons];omega
  refine⟨⟨by omega,by omega⟩,VX (by show(r.drop 1).length<=_;rw[List.length_drop];omega) ?_⟩
  rw[show Int.toNat (1:Int)=1 from rfl]
  have hd1:=JY (r.drop 1)
  have hd2:=HH (r.drop 1)
  have hd3:=KN (r.drop 1)
  rw[List.length_drop]at hd1
  generalize hf:AE (r.drop 1)=f at*
  refine Aa (fun g2=>?_) fun g2=>?_
  ·have:f=[]:=List.length_eq_zero_iff.1 (by omega)
   unfold KD dcF at hk
   rw[if_pos g,hf,if_pos this]at hk;exact hk
  ·rw[Ai (((f.length:Nat):Int)+1) (by omega) (by omega),Ai (0-_) (by omega) (by omega),show((((f.length:Nat):Int)+1).toNat)=1+f.length by omega]
   have hdt:(r.take (1+f.length)).drop 1=f:=by rw[List.drop_take,Nat.add_sub_cancel_left];exact hd3
   refine⟨⟨by omega,by omega,by omega⟩,?_⟩
   show(a.length+((r.take (1+f.length)).drop 1).length<=_)/\_
   rw[hdt]
   refine⟨by omega,⟨by omega,by omega⟩,rfl,rfl,?_,by omega,by omega,by rw[List.length_append];omega,by rw[List.length_drop];omega,fun c hc=>?_⟩
   ·unfold dcF
    rw[if_pos g,hf,if_neg (fun e=>g2 (by rw[e];rfl))]
    rw[show(0:Int)-(f.length:Nat)= -(f.length:Nat) by omega]
   ·rcases List.mem_append.1 hc with hc | hc
    ·exact hdg c hc
    ·exact hd2 c hc
 ·refine⟨rfl,rfl,?_,by omega,by omega,by omega,by omega,hdg⟩
  unfold dcF;rw[if_neg g]
 rintro s3 all ex _ _ _ _ _ ⟨rfl,rfl,h3,x1,x2,x3,x4,x5⟩
 rw[h3]at hk
 clear h3 hdg hrl2
 refine Aa (fun g=>?_) fun g=>?_
 ·have hpos:1<=s3.length:=List.length_pos_iff.2 g
  refine⟨fun s4 neg4 all4 ex4 _ _ _ st'=>s3=s4/\neg=neg4/\all=all4/\ex=ex4/\st=st'/\(s3.getD 0 0=101∨s3.getD 0 0=69),?_,?_⟩
  ·have n101:((s3.getD 0 0).toNat:Int)≠101↔s3.getD 0 0≠101:=not_congr (u8i (k:=101))
   have n69:((s3.getD 0 0).toNat:Int)≠69↔s3.getD 0 0≠69:=not_congr (u8i (k:=69))
   refine⟨⟨by omega,by omega⟩,Aa (fun g1=>⟨⟨by omega,by omega⟩,Aa (fun g2=>?_) fun g2=>⟨rfl,rfl,rfl,rfl,rfl,.inr (Decidable.not_not.1 fun h=>g2 (n69.2 h))⟩⟩) fun g1=>⟨rfl,rfl,rfl,rfl,rfl,.inl (Decidable.not_not.1 fun h=>g1 (n101.2 h))⟩⟩
   unfold KD dcE at hk
   rw[if_neg g,if_neg (by rintro(h | h);exact n101.1 g1 h;exact n69.1 g2 h)]at hk
   exact hk
  rintro _ _ _ _ _ _ _ _ ⟨rfl,rfl,rfl,rfl,rfl,he⟩
  unfold KD dcE at hk
  rw[if_neg g,if_pos he]at hk
  refine⟨⟨by omega,by omega⟩,JU (by decide) ?_⟩
  show ∃_,_
  refine⟨fun s5 neg5 all5 ex5 less _ _ _ st'=>neg=neg5/\all=all5/\ex=ex5/\st=st'/\s5.length<=1000000/\KD K (dcX neg all ex less s5) st,Aa (fun g1=>?_) fun g1=>JU (by decide) (Aa (fun g2=>?_) fun g2=>?_),?_⟩
  ·have g1':(s3.drop 1).getD 0 0=45:=g1
   rw[if_pos g1']at hk
   refine⟨⟨by omega,?_⟩,rfl,rfl,rfl,rfl,?_,?_⟩
   ·have:1<=(s3.drop 1).length:=by
     cases hc:s3.drop 1 with
     | nil=>rw[hc]at g1';exact absurd g1' (by decide)
     | cons c r=>rw[List.length_cons];omega
    exact Int.ofNat_le.2 this
   ·show((s3.drop 1).drop 1).length<=_;rw[List.length_drop,List.length_drop];omega
   ·rw[decide_eq_true g1]
    show KD K (dcX neg all ex true ((s3.drop 1).drop 1)) st
    rw[List.drop_drop];exact hk
  ·have g1':¬(s3.drop 1).getD 0 0=45:=g1
   have g2':(s3.drop 1).getD 0 0=43:=g2
   rw[if_neg g1',if_pos g2']at hk
   refine⟨⟨by omega,?_⟩,rfl,rfl,rfl,rfl,?_,?_⟩
   ·have:1<=(s3.drop 1).length:=by
     cases hc:s3.drop 1 with
     | nil=>rw[hc]at g2';exact absurd g2' (by decide)
     | cons c r=>rw[List.length_cons];omega
    exact Int.ofNat_le.2 this
   ·show((s3.drop 1).drop 1).length<=_;rw[List.length_drop,List.length_drop];omega
   ·rw[decide_eq_false g1]
    show KD K (dcX neg all ex false ((s3.drop 1).drop 1)) st
    rw[List.drop_drop];exact hk
  ·have g1':¬(s3.drop 1).getD 0 0=45:=g1
   have g2':¬(s3.drop 1).getD 0 0=43:=g2
   rw[if_neg g1',if_neg g2']at hk
   refine⟨rfl,rfl,rfl,rfl,?_,?_⟩
   ·show(s3.drop 1).length<=_;rw[List.length_drop];omega
   ·rw[decide_eq_false g1];exact hk
  rintro s5 _ _ _ less _ _ _ _ ⟨rfl,rfl,rfl,rfl,hl5,hk5⟩
  unfold KD dcX at hk5
  refine Aa (fun g1=>by rw[if_pos (.inl g1)]at hk5;exact hk5) fun g1=>VX (by omega) (Aa (fun g2=>?_) fun g2=>?_)
  ·rw[if_pos (.inr (by omega))]at hk5;exact hk5
  ·have hall:AE s5=s5:=by
    have:=RJ s5
    have h0:s5.drop (AE s5).length=[]:=List.drop_of_length_le (by omega)
    rw[h0,List.append_nil]at this
    exact this.symm
   have hd5:∀c,c∈s5->AF c:=by rw[<-hall];exact HH s5
   rw[if_neg (by rintro(h | h);exact g1 h;exact h (by rw[hall]))]at hk5
   refine MU (by decide) (moved_ok (by omega) (by omega) (fun c hc=>hd5 c (Kv s5 c hc)) (Jc s5) ?_)
   show CallT PR CY [.bool neg,.str all,.int .i64 (if less=true then ex-((if (Bt s5).length<=12 then Cu (Bt s5)else 1099511627776:Nat):Int)else ex+((if (Bt s5).length<=12 then Cu (Bt s5)else 1099511627776:Nat):Int))] _ _ _
   rw[HV]
   have sm:=H5 all
   by_cases h12:(Bt s5).length<=12
   ·have hn:=Ye hd5 h12
    rw[if_pos h12]
    refine SL (by omega) x5 ?_ ?_ hk5
    ·split<;>omega
    ·split<;>omega
   ·have hf:=Zw (k:=12) hd5 (by omega)
    rw[if_neg h12]
    refine SL (by omega) x5 ?_ ?_ ?_
    ·split<;>omega
    ·split<;>omega
    ·have:=dcN_far (neg:=neg) (s:=Bt all) (ex:=ex) (n:=((1099511627776:Nat):Int)) (m:=(Cu s5:Nat)) (by omega) (by omega) (by omega) (by omega) (by omega) less
     unfold KD
     rw[this];exact hk5
 ·have g0:s3=[]:=Decidable.not_not.1 g
  unfold KD dcE at hk
  rw[if_pos g0]at hk
  exact SL (by omega) x5 (by omega) (by omega) hk
theorem H3 {α:Type} {l m:List α} {k:Nat} {x y:α} (h:l.take k=m.take k) (hx:l[k]? =some x) (hy:m[k]? =some y) (e:x=y):l.take (k+1)=m.take (k+1):=by
 rw[Md hx,Md hy,h,e]
theorem sc_eq {s t:Sc} (h1:s.kind=t.kind) (h2:s.b=t.b) (h3:s.neg=t.neg) (h4:s.dg=t.dg) (h5:s.ex=t.ex) (h6:s.tk=t.tk) (h7:s.td=t.td) (h8:s.tn=t.tn) (h9:s.tz=t.tz) (h10:s.text=t.text) (h11:s.bytes=t.bytes):s=t:=by
 cases s;cases t;simp_all
section
theorem LS:∀l m:List Vl,AX (l++m)=AX l+AX m
 | [],m=>by simp[AX]
 | v::r,m=>by simp only[List.cons_append,AX,LS r m];omega
theorem N5 {l:List Vl} {k:Nat} {w:Vl} (h:l[k]? =some w):AX (l.take (k+1))=AX (l.take k)+w.cnt:=by
 rw[Md h,LS];simp[AX]
theorem Qa (l:List Vl) (k:Nat):AX (l.take k)<=AX l:=by
 have:=LS (l.take k) (l.drop k)
 rw[List.take_append_drop]at this;omega
theorem X8 (l:List Vl):l.length<=AX l:=by
 induction l with
 | nil=>exact Nat.zero_le _
 | cons v r ih=>unfold AX;have:=v.cnt_pos;simp only[List.length_cons];omega
mutual
theorem S7:∀v:Vl,v.cnt<=v.sz
 | .mk s l f=>by
  have:=NV l
  have:=NW f
  unfold Vl.cnt;rw[szs];omega
theorem NV:∀l:List Vl,AX l<=A3 l
 | []=>by unfold AX;exact Nat.zero_le _
 | v::r=>by
  unfold AX A3
  have:=S7 v
  have:=NV r
  omega
theorem cntd_sz:∀d:Fd,d.cnt<=d.sz
 | .mk k v=>by unfold Fd.cnt Fd.sz;have:=S7 v;omega
theorem NW:∀l:List Fd,Bg l<=BC l
 | []=>by unfold Bg;exact Nat.zero_le _
 | d::r=>by
  unfold Bg BC
  have:=cntd_sz d
  have:=NW r
  omega
end
end
theorem SlR.ldb {st:St} {u:TV} {l:B8} {k:Nat} (h:SlR st 1 u l.length (AC l)) (hk:k<l.length):Ad st [] (.t (ixT 1 u k)) 0=some (JE l[k]):=by
 have:=h.ldc (by rw[D4];omega) hk
 rw[List.drop_eq_getElem_cons (by rw[D4];omega)]at this
 simp only[Ah,List.take_succ_cons,List.take_zero]at this
 cases hq:Ad st [] (.t (ixT 1 u k)) 0 with
 | none=>rw[hq]at this;cases this
 | some y=>
  rw[hq]at this
  simp only[Option.map_some,Option.some.injEq,List.cons.injEq,and_true]at this
  rw[this];simp[AC]
def zs (n:Nat):B8:=List.replicate n 48
theorem OP:∀n,Lib.repeatL [48] n=zs n
 | 0=>rfl
 | n+1=>by
  show [48]++Lib.repeatL [48] n=_
  rw[OP n];rfl
theorem Vy (n:Nat):(zs n).length=n:=by simp[zs]
theorem Q5 {n:Nat} (hn:n<=2000000) {st:St} {K:B8->St->Prop} (hk:K (zs n) st):CallT PR EF [.str [48],.int .i64 (n:Int)] [.one .str] st K:=by
 refine CI (fun _ _=>by kernel_rfl) fun g w vargs s hr=>?_
 obtain⟨v,u,rfl,hv,hu⟩:=Lq hr
 rw[Bf hv,Un hu]
 refine Calls.mono (Tryz.strings_Repeat ⟨#[48]⟩ n w (by omega) (by simp[ByteArray.size];omega)) ?_
 rintro e w' ⟨rfl,hb⟩
 obtain⟨s',e'⟩:=s.world hb.size (s.below.trans (hb.mono s.fits)) hb.block
 refine⟨_,rfl,.str (zs n),st,g,hk,s',?_,e'⟩
 have:Lib.repeatL (ByteArray.mk #[48]).data.toList n=zs n:=OP n
 rw[this];exact Rel.str _
end Go.TVF
