/- What the laws below rest on: a framework for Go programs, and contracts of the functions that they reach. -/
import Derived.Test.YtpfhcnpnngjpnaaGreatDoorGeE
set_option maxRecDepth 20000
set_option linter.unusedVariables false
set_option linter.unusedSimpArgs false
namespace Go.TVF
open Go.IntKind(i64 u8)
open Go Go.Proofs
theorem BB.stx {b:Nat} {a c d:St} (h:BB a c) (k:StX (fun i=>i=b) c d) (hb:a.nb<=b):BB a d:=
 ⟨Nat.le_trans h.1 k.nb,fun i hi=>(k.box i (Nat.lt_of_lt_of_le hi h.1) (by omega)).trans (h.2 i hi)⟩
theorem Xd {d n:Nat} {s:Sc} {l:List Vl} {f:List Fd} (h1:¬48<d) (h2:¬65536<=n) (h3:D3 s l f=0):CW d n (.mk s l f)=FU (CH (d+1) (n+1) l) fun m=>D1 (d+1) m f:=by
 unfold CW;rw[if_neg h1,if_neg h2,if_neg (fun h=>h h3)]
theorem Qg {d n:Nat} {s:Sc} {l:List Vl} {f:List Fd} (h1:¬48<d) (h2:¬65536<=n) (h3:D3 s l f≠0):CW d n (.mk s l f)=(n,D3 s l f):=by
 unfold CW;rw[if_neg h1,if_neg h2,if_pos h3]
theorem LU (d n:Nat) (v:Vl) (r:List Vl):CH d n (v::r)=FU (CW d n v) fun m=>CH d m r:=by rw[CH]
theorem Qj (d n:Nat) (k:B8) (v:Vl) (r:List Fd):D1 d n (.mk k v::r)=FU (CW d n v) fun m=>D1 d m r:=by rw[D1,Wd]
theorem U4:U8 []:=by unfold U8;rw[L3];rfl
theorem Z4:∀(N:Nat) (v:Vl),v.sz<=N->N<=2000000->∀{st0 st:St} {cs:List TV} {b d n:Nat} {D:Int} {K:Int->St->Prop},VlR st0 v cs->BB st0 st->st0.nb<=b->b<st.nb->st.box b= .cells [.int .i64 (n:Nat)]->n<=65536->D=(d:Int)->d<=100->
  (∀st' (m:Nat),StX (fun i=>i=b) st st'->st'.box b= .cells [.int .i64 (m:Nat)]->((CW d n v).2=0->m=(CW d n v).1/\m<=65536)->K ((CW d n v).2:Nat) st')->CallT PR DF [.agg cs,.int .i64 D,.box b 0] [.one (.int .i64)] st K:=by
 intro N
 induction N with
 | zero=>intro v h;have:=v.sz_pos;omega
 | succ N ih=>
 intro v hN hN2 st0 st cs b d n D K h hke hb0 hb hbx hn hD hd hk
 subst hD
 cases v with
 | mk s l f=>
 have hsz:(Vl.mk s l f).sz=1+s.bytes.length+s.text.length+s.dg.length+BC l+BV f:=by unfold Vl.sz;rfl
 have hll:=Cz l
 have hfl:=CD f
 unfold VlR at h
 obtain⟨ub,ul,uf,xl,xf,rfl,h1,h2,h3,h4,h5⟩:=h
 refine OV _ _ _ _ _ _ _ _ _ _ _ _ _ (d:Int) b st K ?_
 refine Ac (x:= .int .i64 (n:Nat)) (by simp[Ad,hbx]) (AB ?_)
 rw[Af _ (by omega) (by omega)]
 refine⟨_,hbx,by simp,?_⟩
 obtain⟨st1,hst1⟩:∃st1,st1=st.put b (.cells (setAll [.int .i64 (n:Nat)] 0 [.int .i64 ((n:Int)+1)])):=⟨_,rfl⟩
 rw[<-hst1]
 have e1:StX (fun i=>i=b) st st1:=by rw[hst1];exact StX.put (S:=fun i=>i=b) rfl _
 have hb1:st1.box b= .cells [.int .i64 ((n+1:Nat):Int)]:=by rw[hst1];simp[St.put,setAll]
 have hke1:=hke.stx e1 hb0
 refine⟨fun dp p kd bo ng dg ex tk td tn tz tx u1 u2 u3 st'=>dp=d/\p= .box b 0/\ul=u2/\uf=u3/\¬48<d/\¬65536<=n/\D3 s l f=Ef [] f/\StX (fun i=>i=b) st st'/\st'.box b= .cells [.int .i64 ((n+1:Nat):Int)],?_,?_⟩
 ·--the value but for the values in it
  refine Aa (fun g=>?_) fun g=>?_
  ·have hc:CW d n (.mk s l f)=(n,9):=by unfold CW;rw[if_pos (by omega)]
   have:=hk st1 (n+1) e1 hb1 (by rw[hc];intro h;cases h)
   rw[hc]at this;exact this
  refine Ac (x:= .int .i64 ((n+1:Nat):Int)) (by simp[Ad,hb1]) (AB (Aa (fun g2=>?_) fun g2=>?_))
  ·have hc:CW d n (.mk s l f)=(n,10):=by unfold CW;rw[if_neg (by omega),if_pos (by omega)]
   have:=hk st1 (n+1) e1 hb1 (by rw[hc];intro h;cases h)
   rw[hc]at this;exact this
  have hg1:¬48<d:=by omega
  have hg2:¬65536<=n:=by omega
  --an error of the value itself
  have err:∀st',StX (fun i=>i=b) st st'->st'.box b= .cells [.int .i64 ((n+1:Nat):Int)]->D3 s l f≠0->K ((D3 s l f:Nat):Int) st':=fun st' e' hb' ho=>by
   have hc:=Qg hg1 hg2 ho
   have:=hk st' (n+1) e' hb' (by rw[hc];intro h;exact absurd h ho)
   rw[hc]at this;exact this
  refine⟨fun q dp p kd bo ng dg ex tk td tn tz tx u1 u2 u3 st'=>dp=d/\p= .box b 0/\kd=s.kind/\ng=s.neg/\dg=s.dg/\ex=s.ex/\tk=s.tk/\td=s.td/\tn=s.tn/\tz=s.tz/\tx=s.text/\ub=u1/\ul=u2/\uf=u3/\q= !decide (H8 s l f)/\st1=st',?_,?_⟩
  ·refine Aa (fun g3=>?_) fun g3=>Aa (fun g4=>?_) fun g4=>?_
   ·exact⟨rfl,rfl,rfl,rfl,rfl,rfl,rfl,rfl,rfl,rfl,rfl,rfl,rfl,rfl,by rw[decide_eq_false fun o=>by have:=o.k0;omega];rfl,rfl⟩
   ·exact⟨rfl,rfl,rfl,rfl,rfl,rfl,rfl,rfl,rfl,rfl,rfl,rfl,rfl,rfl,by rw[decide_eq_false fun o=>by have:=o.k7;omega];rfl,rfl⟩
   ·exact ZN (s:=s) (l:=l) (f:=f) h1.isSl h2.isSl h4.isSl h1.lenS h2.lenS h4.lenS ⟨rfl,rfl,rfl,rfl,rfl,rfl,rfl,rfl,rfl,rfl,rfl,rfl,rfl,rfl,exB_eq (by omega) (by omega),rfl⟩
  rintro q _ _ _ bo _ _ _ _ _ _ _ _ _ _ _ _ ⟨rfl,rfl,rfl,rfl,rfl,rfl,rfl,rfl,rfl,rfl,rfl,rfl,rfl,rfl,rfl,rfl⟩
  by_cases ho:H8 s l f
  case neg=>
   refine Aj (fun _=>?_) fun h=>by rw[decide_eq_false ho]at h;cases h
   have h6:D3 s l f=6:=by unfold D3;rw[if_neg ho]
   have:=err st1 e1 hb1 (by rw[h6];decide)
   rw[h6]at this;exact this
  refine Aj (fun h=>by rw[decide_eq_true ho]at h;cases h) fun _=>?_
  have hdec:s.kind≠2->D2 s.neg s.dg s.ex:=fun hk2=>by
   obtain⟨q1,q2,q3⟩:=ho.nu hk2
   rw[q2];exact KW.2 ⟨q1,q3⟩
  refine⟨fun q dp p kd bo ng dg ex tk td tn tz tx u1 u2 u3 st'=>dp=d/\p= .box b 0/\kd=s.kind/\tx=s.text/\ub=u1/\ul=u2/\uf=u3/\q= !(decide (D2 s.neg s.dg s.ex)&&decide (s.kind=3->CX s.tk s.td s.tn s.tz))/\st1=st',?_,?_⟩
  ·refine Aa (fun g3=>Oe (by omega) ?_) fun g3=>Aa (fun g4=>Mc ?_) fun g4=>?_
   ·by_cases hq:D2 s.neg s.dg s.ex
    ·refine Aj (fun h=>by rw[decide_eq_true hq]at h;cases h) fun _=>Aa (fun g4=>by omega) fun g4=>?_
     exact⟨rfl,rfl,rfl,rfl,rfl,rfl,rfl,by rw[decide_eq_true hq,decide_eq_true fun h=>absurd h g4];rfl,rfl⟩
    ·refine Aj (fun h=>?_) fun h=>by rw[decide_eq_false hq]at h;cases h
     exact⟨rfl,rfl,rfl,rfl,rfl,rfl,rfl,by rw[decide_eq_false hq];rfl,rfl⟩
   ·exact⟨rfl,rfl,rfl,rfl,rfl,rfl,rfl,by rw[decide_eq_true (hdec g3),decide_eq_decide.2 (show(s.kind=3->CX s.tk s.td s.tn s.tz)↔_ from⟨fun h=>h g4,fun h _=>h⟩)];rfl,rfl⟩
   ·exact⟨rfl,rfl,rfl,rfl,rfl,rfl,rfl,by rw[decide_eq_true (hdec g3),decide_eq_true fun h=>absurd h g4];rfl,rfl⟩
  rintro q _ _ _ bo2 ng2 dg2 ex2 tk2 td2 tn2 tz2 _ _ _ _ _ ⟨rfl,rfl,rfl,rfl,rfl,rfl,rfl,rfl,rfl⟩
  by_cases hq:D2 s.neg s.dg s.ex
  case neg=>
   refine Aj (fun _=>?_) fun h=>by rw[decide_eq_false hq]at h;cases h
   have h6:D3 s l f=2:=by unfold D3;rw[if_pos ho,if_neg hq]
   have:=err st1 e1 hb1 (by rw[h6];decide)
   rw[h6]at this;exact this
  by_cases hq2:s.kind=3->CX s.tk s.td s.tn s.tz
  case neg=>
   refine Aj (fun _=>?_) fun h=>by rw[decide_eq_true hq,decide_eq_false hq2]at h;cases h
   have h6:D3 s l f=2:=by unfold D3;rw[if_pos ho,if_pos hq,if_neg hq2]
   have:=err st1 e1 hb1 (by rw[h6];decide)
   rw[h6]at this;exact this
  refine Aj (fun h=>by rw[decide_eq_true hq,decide_eq_true hq2]at h;cases h) fun _=>?_
  --sizes
  have sizes:U8 s.text->∀(X:Prop),(D3 s l f=Ef [] f->X)->BIf (decide (65536<(s.text.length:Int))) (K 10 st1) (need (isSl ub) (BIf (decide (65536<(lenS ub:Int))) (K 10 st1) X)):=fun hu X hX=>by
   have h6:D3 s l f=if 65536<s.text.length then 10 else if 65536<s.bytes.length then 10 else Ef [] f:=by unfold D3;rw[if_pos ho,if_pos hq,if_pos hq2,if_pos hu]
   refine Aa (fun g5=>?_) fun g5=>Ab h1.isSl (Aa (fun g6=>?_) fun g6=>?_)
   ·rw[if_pos (by omega)]at h6
    have:=err st1 e1 hb1 (by rw[h6];decide)
    rw[h6]at this;exact this
   ·rw[h1.lenS]at g6
    rw[if_neg (by omega),if_pos (by omega)]at h6
    have:=err st1 e1 hb1 (by rw[h6];decide)
    rw[h6]at this;exact this
   ·rw[h1.lenS]at g6
    rw[if_neg (by omega),if_neg (by omega)]at h6
    exact hX h6
  refine Aa (fun g3=>MZ (by omega) (Aj (fun g4=>?_) fun g4=>?_)) fun g3=>?_
  ·have hu:¬U8 s.text:=by unfold U8;simpa using g4
   have h6:D3 s l f=5:=by unfold D3;rw[if_pos ho,if_pos hq,if_pos hq2,if_neg hu]
   have:=err st1 e1 hb1 (by rw[h6];decide)
   rw[h6]at this;exact this
  ·exact sizes (by unfold U8;simpa using g4) _ fun h6=>⟨rfl,rfl,rfl,rfl,hg1,hg2,h6,e1,hb1⟩
  ·exact sizes (by rw[ho.tx g3];exact U4) _ fun h6=>⟨rfl,rfl,rfl,rfl,hg1,hg2,h6,e1,hb1⟩
 ·rintro _ _ kd bo ng dg ex tk td tn tz tx u1 _ _ st2 ⟨rfl,rfl,rfl,rfl,hg1,hg2,h6,e2,hb2⟩
  have hke2:=hke.stx e2 hb0
  refine keys_ok hke2 h4 h5 (by omega) fun st3 e3=>?_
  have e23:=e2.trans (StX.of e3)
  have hb3:st3.box b= .cells [.int .i64 ((n+1:Nat):Int)]:=(e3.box b (by have:=e2.nb;omega)).trans hb2
  refine Aa (fun g=>?_) fun g=>Ab h2.isSl ?_
  ·have ho:D3 s l f≠0:=by rw[h6];omega
   have hc:=Qg hg1 hg2 ho
   have:=hk st3 (n+1) e23 hb3 (by rw[hc];intro h;exact absurd h ho)
   rw[hc,h6]at this;exact this
  have hone:D3 s l f=0:=by rw[h6];omega
  have hC:=Xd hg1 hg2 hone
  refine⟨fun i dp p u m kd bo ng dg ex tk td tn tz tx u1 u2 u3 st'=>dp=d/\p= .box b 0/\ul=u/\m=(l.length:Int)/\uf=u3/\∃k c:Nat,i=k/\k<=l.length/\c<=65536/\StX (fun i=>i=b) st st'/\st'.box b= .cells [.int .i64 ((c:Nat):Int)]/\CH (d+1) (n+1) l=CH (d+1) c (l.drop k),
   fun i _ _ _ _ _ _ _ _ _ _ _ _ _ _ _ _ _ _=>(l.length-i).toNat,⟨rfl,rfl,rfl,by rw[h2.lenS],rfl,0,n+1,rfl,Nat.zero_le _,by omega,e23,hb3,rfl⟩,?_⟩
  rintro _ _ _ _ _ kd bo ng dg ex tk td tn tz tx u1 u2 _ st4 ⟨rfl,rfl,rfl,rfl,rfl,k,c,rfl,hkl,hc,e4,hb4,hE⟩
  have hke4:=hke.stx e4 hb0
  refine Aa (fun g3=>?_) fun g3=>?_
  ·refine LR hke4 h2 h3 rfl (by omega) fun s' l' f' ub1 ul1 uf1 gw hw on=>Ab on ?_
   have hwsz:=HJ gw
   rw[GI gw,LU]at hE
   rw[Af _ (by omega) (by omega)]
   refine ih _ (by omega) (by omega) (d:=d+1) hw hke4 hb0 (by have:=e4.nb;omega) hb4 hc (by omega) (by omega) fun st5 m e5 hb5 hm=>?_
   have e45:=e4.trans e5
   refine Aa (fun g4=>?_) fun g4=>?_
   ·have hne:(CW (d+1) c (.mk s' l' f')).2≠0:=by omega
    rw[KK hne]at hE
    have hc2:CW d n (.mk s l f)=CW (d+1) c (.mk s' l' f'):=by rw[hC,hE,KK hne]
    have:=hk st5 m e45 hb5 (by rw[hc2];intro h;exact absurd h hne)
    rw[hc2]at this;exact this
   ·have hz:(CW (d+1) c (.mk s' l' f')).2=0:=by omega
    rw[Fy hz]at hE
    obtain⟨hm1,hm2⟩:=hm hz
    rw[Af _ (by omega) (by omega)]
    exact⟨⟨rfl,rfl,rfl,rfl,rfl,k+1,m,by omega,by omega,hm2,e45,hb5,by rw[hE,hm1]⟩,by dsimp only;omega⟩
  ·have hkk:k=l.length:=by omega
   subst hkk
   rw[List.drop_length]at hE
   have hE2:CH (d+1) (n+1) l=(c,0):=by rw[hE,CH]
   rw[hE2,Fy rfl]at hC
   refine Ab h4.isSl ?_
   refine⟨fun i dp p u m st'=>dp=d/\p= .box b 0/\uf=u/\m=(f.length:Int)/\∃k c2:Nat,i=k/\k<=f.length/\c2<=65536/\StX (fun i=>i=b) st st'/\st'.box b= .cells [.int .i64 ((c2:Nat):Int)]/\D1 (d+1) c f=D1 (d+1) c2 (f.drop k),
    fun i _ _ _ _ _=>(f.length-i).toNat,⟨rfl,rfl,rfl,by rw[h4.lenS],0,c,rfl,Nat.zero_le _,hc,e4,hb4,rfl⟩,?_⟩
   rintro _ _ _ _ _ st5 ⟨rfl,rfl,rfl,rfl,k,c2,rfl,hkf,hc2,e5,hb5,hF⟩
   have hke5:=hke.stx e5 hb0
   refine Aa (fun g4=>?_) fun g4=>?_
   ·refine Ya hke5 h4 h5 rfl (by omega) fun key s' l' f' ub1 ul1 uf1 gw hw on=>Ab on ?_
    have hwsz:=H4 gw
    have hwk:(Fd.mk key (.mk s' l' f')).sz=key.length+(Vl.mk s' l' f').sz:=by unfold Fd.sz;rfl
    rw[GI gw,Qj]at hF
    rw[Af _ (by omega) (by omega)]
    refine ih (.mk s' l' f') (by omega) (by omega) (d:=d+1) hw hke5 hb0 (by have:=e5.nb;omega) hb5 hc2 (by omega) (by omega) fun st6 m e6 hb6 hm=>?_
    have e56:=e5.trans e6
    refine Aa (fun g5=>?_) fun g5=>?_
    ·have hne:(CW (d+1) c2 (.mk s' l' f')).2≠0:=by omega
     rw[KK hne]at hF
     have hc3:CW d n (.mk s l f)=CW (d+1) c2 (.mk s' l' f'):=by rw[hC];exact hF
     have:=hk st6 m e56 hb6 (by rw[hc3];intro h;exact absurd h hne)
     rw[hc3]at this;exact this
    ·have hz:(CW (d+1) c2 (.mk s' l' f')).2=0:=by omega
     rw[Fy hz]at hF
     obtain⟨hm1,hm2⟩:=hm hz
     rw[Af _ (by omega) (by omega)]
     exact⟨⟨rfl,rfl,rfl,rfl,k+1,m,by omega,by omega,hm2,e56,hb6,by rw[hF,hm1]⟩,by dsimp only;omega⟩
   ·have hkk:k=f.length:=by omega
    subst hkk
    rw[List.drop_length]at hF
    have hF2:CW d n (.mk s l f)=(c2,0):=by rw[hC];show D1 (d+1) c f=_;rw[hF,D1]
    have:=hk st5 c2 e5 hb5 (by rw[hF2];exact fun _=>⟨rfl,hc2⟩)
    rw[hF2]at this;exact this
section
theorem U0 {v:Vl} (hN:v.sz<=2000000) {st0 st:St} {cs:List TV} {K:Int->St->Prop} (h:VlR st0 v cs) (hke:BB st0 st) (hk:∀st',Al st st'->K (B6 v:Nat) st'):
  CallT PR EK [.agg cs] [.one (.int .i64)] st K:=by
 have h0:=h
 cases v with
 | mk s l f=>
 unfold VlR at h0
 obtain⟨ub,ul,uf,xl,xf,rfl,_⟩:=h0
 have he:Al st (st.push (.cells [.int .i64 0]) (some 3)):=(Al.refl st).push _ _
 refine OW _ _ _ _ _ _ _ _ _ _ _ _ _ st K ⟨[.int .i64 0],by simp[St.push],by simp,?_⟩
 obtain⟨st1,hst1⟩:∃st1,st1=(st.push (.cells [.int .i64 0]) (some 3)).put st.nb (.cells (setAll [.int .i64 0] 0 [.int .i64 0])):=⟨_,rfl⟩
 rw[<-hst1]
 have e1:Al st st1:=by rw[hst1];exact StX.ext he (StX.put (S:=fun i=>i=st.nb) rfl _) (fun i hi=>by rw[hi];exact Nat.le_refl _)
 have hb1:st1.box st.nb= .cells [.int .i64 ((0:Nat):Int)]:=by rw[hst1];simp[St.put,setAll]
 exact Z4 2000000 _ hN (by omega) (d:=1) h (hke.trans e1.keeps) hke.1 (by rw[hst1];simp[St.put,St.push]) hb1 (by omega) rfl (by omega) fun st2 m e2 hb2 _=>hk st2 (StX.ext e1 e2 (fun i hi=>by rw[hi];exact Nat.le_refl _))
theorem one_ok {s:Sc} {l:List Vl} {f:List Fd} (hN:(Vl.mk s l f).sz<=2000000) {st0 st:St} {ub ul uf:TV} {K:Int->St->Prop} (h:VlR st0 (.mk s l f) (A0 s ub ul uf)) (hke:BB st0 st) (hk:∀st',Al st st'->K (D3 s l f:Nat) st'):
  CallT PR D6 [.agg (A0 s ub ul uf)] [.one (.int .i64)] st K:=by
 have hsz:(Vl.mk s l f).sz=1+s.bytes.length+s.text.length+s.dg.length+BC l+BV f:=by unfold Vl.sz;rfl
 unfold VlR at h
 obtain⟨ub',ul',uf',xl,xf,hcs,h1,h2,h3,h4,h5⟩:=h
 simp only[A0,List.cons.injEq,and_true,true_and]at hcs
 obtain⟨rfl,rfl,rfl⟩:=hcs
 refine K3 _ _ _ _ _ _ _ _ _ _ _ _ _ st K (own_ok h1.isSl h2.isSl h4.isSl h1.lenS h2.lenS h4.lenS ?_)
 have kk:∀(c:Nat) (st':St),D3 s l f=c->Al st st'->K (c:Int) st':=fun c st' hc e=>by rw[<-hc];exact hk st' e
 by_cases ho:H8 s l f
 case neg=>exact Aj (fun _=>kk 6 st (by unfold D3;rw[if_neg ho]) (Al.refl _)) fun h=>by rw[decide_eq_false ho]at h;cases h
 refine Aj (fun h=>by rw[decide_eq_true ho]at h;cases h) fun _=>rDec_ok (by omega) ?_
 by_cases hq:D2 s.neg s.dg s.ex
 case neg=>exact Aj (fun _=>kk 2 st (by unfold D3;rw[if_pos ho,if_neg hq]) (Al.refl _)) fun h=>by rw[decide_eq_false hq]at h;cases h
 refine Aj (fun h=>by rw[decide_eq_true hq]at h;cases h) fun _=>?_
 have rest:(s.kind=3->CX s.tk s.td s.tn s.tz)->CallT PR AZ [.str s.text] [.one (.bool)] st (fun (b4:Bool) (st4:St)=>BIf (!b4) (K 5 st4) (BIf (decide (65536<(s.text.length:Int))) (K 10 st4) (need (isSl ub) (BIf (decide (65536<(lenS ub:Int))) (K 10 st4) (
   CallT PR BG [uf] [.one (.int .i64)] st4 fun (n1:Int) (st5:St)=>K n1 st5))))):=by
  intro hq2
  refine Nk (by omega) fun st1 e1=>?_
  by_cases hu:U8 s.text
  case neg=>exact Aj (fun _=>kk 5 st1 (by unfold D3;rw[if_pos ho,if_pos hq,if_pos hq2,if_neg hu]) e1) fun h=>absurd (by unfold U8;simpa using h) hu
  have h6:D3 s l f=if 65536<s.text.length then 10 else if 65536<s.bytes.length then 10 else Ef [] f:=by unfold D3;rw[if_pos ho,if_pos hq,if_pos hq2,if_pos hu]
  refine Aj (fun h=>absurd hu (by unfold U8;simpa using h)) fun _=>Aa (fun g5=>?_) fun g5=>Ab h1.isSl (Aa (fun g6=>?_) fun g6=>?_)
  ·exact kk 10 st1 (by rw[h6,if_pos (by omega)]) e1
  ·rw[h1.lenS]at g6
   exact kk 10 st1 (by rw[h6,if_neg (by omega),if_pos (by omega)]) e1
  ·rw[h1.lenS]at g6
   exact Keys_ok (hke.trans e1.keeps) h4 h5 (by omega) fun st2 e2=>kk _ st2 (by rw[h6,if_neg (by omega),if_neg (by omega)]) (e1.trans e2)
 refine Aa (fun g3=>TU ?_) fun g3=>rest fun h=>absurd h g3
 by_cases hq2:CX s.tk s.td s.tn s.tz
 ·exact Aj (fun h=>by rw[decide_eq_true hq2]at h;cases h) fun _=>rest fun _=>hq2
 ·exact Aj (fun _=>kk 2 st (by unfold D3;rw[if_pos ho,if_pos hq,if_neg fun h=>hq2 (h g3)]) (Al.refl _)) fun h=>by rw[decide_eq_false hq2]at h;cases h
def E3 (s:Sc) (l:List Vl) (f:List Fd):List Vl:=if s.kind=7 then f.map Fd.val else l
theorem RS (d:Nat):∀(f:List Fd) (n:Nat),D1 d n f=CH d n (f.map Fd.val)
 | [],n=>by simp[D1,CH]
 | .mk k v::r,n=>by
  rw[Qj,List.map_cons,LU]
  have:(fun m=>D1 d m r)=fun m=>CH d m (r.map Fd.val):=funext fun m=>RS d r m
  rw[this];rfl
theorem YB (x:Nat×Nat):FU x (fun m=>(m,0))=x:=by
 unfold FU;split
 ·rename_i h;exact Prod.ext rfl h.symm
 ·rfl
theorem Yg {d n:Nat} {s:Sc} {l:List Vl} {f:List Fd} (ho:H8 s l f):(FU (CH (d+1) (n+1) l) fun m=>D1 (d+1) m f)=CH (d+1) (n+1) (E3 s l f):=by
 unfold E3
 by_cases h7:s.kind=7
 ·rw[if_pos h7,ho.ls (by omega),CH,Fy rfl,RS]
 ·rw[if_neg h7,ho.fs h7]
  simp only[D1]
  exact YB _
mutual
theorem SR:∀(v:Vl) (d n:Nat),n<=65536->(CW d n v).2=0->(CW d n v).1<=65536
 | .mk s l f,d,n,hn,h=>by
  unfold CW at h⊢
  split at h
  ·cases h
  ·rename_i g1
   rw[if_neg g1]
   split at h
   ·cases h
   ·rename_i g2
    rw[if_neg g2]
    split at h
    ·rename_i h1;exact absurd h h1
    ·rename_i g3
     rw[if_neg g3]
     obtain⟨h2,h3⟩:=E8 h
     rw[Fy h2]
     exact UM f _ _ (UK l _ _ (by omega) h2) h3
theorem UK:∀(l:List Vl) (d n:Nat),n<=65536->(CH d n l).2=0->(CH d n l).1<=65536
 | [],d,n,hn,_=>by unfold CH;exact hn
 | v::r,d,n,hn,h=>by
  unfold CH at h⊢
  obtain⟨h2,h3⟩:=E8 h
  rw[Fy h2]
  exact UK r _ _ (SR v _ _ hn h2) h3
theorem chkD_le:∀(x:Fd) (d n:Nat),n<=65536->(Wd d n x).2=0->(Wd d n x).1<=65536
 | .mk k v,d,n,hn,h=>by unfold Wd at h⊢;exact SR v _ _ hn h
theorem UM:∀(l:List Fd) (d n:Nat),n<=65536->(D1 d n l).2=0->(D1 d n l).1<=65536
 | [],d,n,hn,_=>by unfold D1;exact hn
 | x::r,d,n,hn,h=>by
  unfold D1 at h⊢
  obtain⟨h2,h3⟩:=E8 h
  rw[Fy h2]
  exact UM r _ _ (chkD_le x _ _ hn h2) h3
end
theorem VsR.snoc {st:St} {v:Vl} {cv:List TV}:∀{l:List Vl} {xs:List TV},VsR st l xs->VlR st v cv->VsR st (l++[v]) (xs++cv)
 | [],xs,h,hv=>by
  unfold VsR at h
  subst h
  show VsR st [v] _
  unfold VsR
  exact⟨cv,[],by simp,hv,by unfold VsR;rfl⟩
 | w::r,xs,h,hv=>by
  unfold VsR at h
  obtain⟨a,b,rfl,h1,h2⟩:=h
  show VsR st (w::(r++[v])) _
  unfold VsR
  exact⟨a,b++cv,by simp,h1,VsR.snoc h2 hv⟩
theorem kids_ok {s:Sc} {l:List Vl} {f:List Fd} (hN:(Vl.mk s l f).sz<=2000000) {st0 st:St} {ub ul uf:TV} {K:TV->St->Prop} (h:VlR st0 (.mk s l f) (A0 s ub ul uf)) (hke:BB st0 st)
  (hk:∀u xl st',Al st st'->SlR st' 13 u (E3 s l f).length xl->VsR st' (E3 s l f) xl->K u st'):CallT PR DJ [.agg (A0 s ub ul uf)] [.one .tv] st K:=by
 have hsz:(Vl.mk s l f).sz=1+s.bytes.length+s.text.length+s.dg.length+BC l+BV f:=by unfold Vl.sz;rfl
 have hfl:=CD f
 unfold VlR at h
 obtain⟨ub',ul',uf',xl,xf,hcs,h1,h2,h3,h4,h5⟩:=h
 simp only[A0,List.cons.injEq,and_true,true_and]at hcs
 obtain⟨rfl,rfl,rfl⟩:=hcs
 refine JY _ _ _ _ _ _ _ _ _ _ _ _ _ st K (Aa (fun g=>?_) fun g=>?_)
 ·have e:E3 s l f=l:=by unfold E3;rw[if_neg g]
  rw[e]at hk
  exact hk ul xl st (Al.refl _) (h2.keep hke) (VsR.keep hke h3)
 ·have e:E3 s l f=f.map Fd.val:=by unfold E3;rw[if_pos (by omega)]
  rw[e,List.length_map]at hk
  refine⟨fun o i kd bo ng dg ex tk td tn tz tx u1 u2 u3 st'=>uf=u3/\∃(k:Nat) (xs:List TV),i=k/\k<=f.length/\Al st st'/\Own st.nt 13 st' o k xs/\VsR st ((f.take k).map Fd.val) xs,fun _ i _ _ _ _ _ _ _ _ _ _ _ _ _ _=>(f.length-i).toNat,
   ⟨rfl,0,[],rfl,Nat.zero_le _,Al.refl _,Own.nil _ _ _,by simp only[List.take_zero,List.map_nil];unfold VsR;rfl⟩,?_⟩
  rintro o _ kd bo ng dg ex tk td tn tz tx u1 u2 _ st1 ⟨rfl,k,xs,rfl,hkf,e1,ho,hv⟩
  refine Ab h4.isSl (Aa (fun g2=>?_) fun g2=>?_)
  ·rw[h4.lenS]at g2
   refine WF (hke.trans e1.keeps) h4 h5 rfl (by omega) fun key s' l' f' ub1 ul1 uf1 gw hw on=>Ab on ?_
   refine CJ e1 rfl ho (by omega) (fun h=>by cases h) fun v2 st2 e2 _ ho2=>?_
   rw[Af _ (by omega) (by omega)]
   refine⟨⟨rfl,k+1,_,by omega,by omega,e2,ho2,?_⟩,by dsimp only;omega⟩
   rw[Na gw,List.map_append]
   exact VsR.snoc hv (VlR.keep hke hw)
  ·rw[h4.lenS]at g2
   have hkk:k=f.length:=by omega
   subst hkk
   rw[List.take_length]at hv
   exact hk o xs st1 e1 (.of_rd ho.rd) (VsR.keep e1.keeps hv)
theorem kids_sz {s:Sc} {l:List Vl} {f:List Fd} {k:Nat} {w:Vl} (h:(E3 s l f)[k]? =some w):w.sz+1<=(Vl.mk s l f).sz:=by
 have hsz:(Vl.mk s l f).sz=1+s.bytes.length+s.text.length+s.dg.length+BC l+BV f:=by unfold Vl.sz;rfl
 unfold E3 at h
 split at h
 ·rw[List.getElem?_map]at h
  obtain⟨d,hd,rfl⟩:=Option.map_eq_some_iff.1 h
  have:=H4 hd
  cases d;unfold Fd.sz at this;simp only[Fd.val];omega
 ·have:=HJ h;omega
theorem Zr {s:Sc} {l:List Vl} {f:List Fd}:(E3 s l f).length<=(Vl.mk s l f).sz:=by
 have hsz:(Vl.mk s l f).sz=1+s.bytes.length+s.text.length+s.dg.length+BC l+BV f:=by unfold Vl.sz;rfl
 have:=Cz l
 have:=CD f
 unfold E3;split
 ·rw[List.length_map];omega
 ·omega
theorem look_ok:∀(N:Nat) (v:Vl),v.sz<=N->N<=2000000->∀{st0 st:St} {cs:List TV} {d n:Nat} {D:Int} {K:Int->Int->St->Prop},VlR st0 v cs->BB st0 st->n<=65536->D=(d:Int)->d<=100->
  (∀st',Al st st'->K ((CW d n v).1:Nat) ((CW d n v).2:Nat) st')->CallT PR Cs [.agg cs,.int .i64 D,.int .i64 (n:Nat)] [.one (.int .i64),.one (.int .i64)] st K:=by
 intro N
 induction N with
 | zero=>intro v h;have:=v.sz_pos;omega
 | succ N ih=>
 intro v hN hN2 st0 st cs d n D K h hke hn hD hd hk
 subst hD
 cases v with
 | mk s l f=>
 have hcs:∃ub ul uf,cs=A0 s ub ul uf:=by
  have h0:=h
  unfold VlR at h0
  obtain⟨ub,ul,uf,xl,xf,rfl,_⟩:=h0
  exact⟨ub,ul,uf,rfl⟩
 obtain⟨ub,ul,uf,rfl⟩:=hcs
 have kk:∀(x:Nat×Nat) (st':St),CW d n (.mk s l f)=x->Al st st'->K (x.1:Nat) (x.2:Nat) st':=fun x st' hx e=>by rw[<-hx];exact hk st' e
 refine JX _ _ _ _ _ _ _ _ _ _ _ _ _ (d:Int) (n:Int) st K (Aa (fun g=>?_) fun g=>Aa (fun g2=>?_) fun g2=>?_)
 ·exact kk (n,9) st (by unfold CW;rw[if_pos (by omega)]) (Al.refl _)
 ·exact kk (n,10) st (by unfold CW;rw[if_neg (by omega),if_pos (by omega)]) (Al.refl _)
 have hg1:¬48<d:=by omega
 have hg2:¬65536<=n:=by omega
 refine one_ok (l:=l) (f:=f) (by omega) h hke fun st1 e1=>Aa (fun g3=>?_) fun g3=>?_
 ·exact kk (n,D3 s l f) st1 (Qg hg1 hg2 (by omega)) e1
 have hone:D3 s l f=0:=by omega
 have ho:H8 s l f:=(Nu.1 hone).own
 have hC:CW d n (.mk s l f)=CH (d+1) (n+1) (E3 s l f):=by rw[Xd hg1 hg2 hone,Yg ho]
 refine kids_ok (l:=l) (f:=f) (by omega) h (hke.trans e1.keeps) fun u xl st2 e2 hu hv=>?_
 have e12:=e1.trans e2
 have hlen:=Zr (s:=s) (l:=l) (f:=f)
 rw[Af ((n:Int)+1) (by omega) (by omega)]
 refine⟨fun c i dp u' st'=>u=u'/\dp=(d:Int)/\∃k m:Nat,i=k/\k<=(E3 s l f).length/\c=(m:Int)/\m<=65536/\Al st2 st'/\CH (d+1) (n+1) (E3 s l f)=CH (d+1) m ((E3 s l f).drop k),fun _ i _ _ _=>((E3 s l f).length-i).toNat,
  ⟨rfl,rfl,0,n+1,rfl,Nat.zero_le _,by omega,by omega,Al.refl _,rfl⟩,?_⟩
 rintro _ _ _ _ st3 ⟨rfl,rfl,k,m,rfl,hkl,rfl,hm,e3,hE⟩
 refine Ab hu.isSl (Aa (fun g4=>?_) fun g4=>?_)
 ·rw[hu.lenS]at g4
  refine LR e3.keeps hu hv rfl (by omega) fun s' l' f' ub1 ul1 uf1 gw hw on=>?_
  have hwsz:=kids_sz gw
  rw[GI gw,LU]at hE
  rw[Af _ (by omega) (by omega)]
  refine ih _ (by omega) (by omega) (d:=d+1) hw e3.keeps hm (by omega) (by omega) fun st4 e4=>?_
  refine Aa (fun g5=>?_) fun g5=>?_
  ·have hne:(CW (d+1) m (.mk s' l' f')).2≠0:=by omega
   rw[KK hne]at hE
   exact kk _ st4 (by rw[hC,hE]) (e12.trans (e3.trans e4))
  ·have hz:(CW (d+1) m (.mk s' l' f')).2=0:=by omega
   rw[Fy hz]at hE
   rw[Af _ (by omega) (by omega)]
   exact⟨⟨rfl,rfl,k+1,_,by omega,by omega,rfl,SR _ _ _ hm hz,e3.trans e4,hE⟩,by dsimp only;omega⟩
 ·rw[hu.lenS]at g4
  have hkk:k=(E3 s l f).length:=by omega
  subst hkk
  rw[List.drop_length,CH]at hE
  exact kk (m,0) st3 (by rw[hC,hE]) (e12.trans e3)
theorem Rg {v:Vl} (hN:v.sz<=2000000) {st0 st:St} {cs:List TV} {K:Int->St->Prop} (h:VlR st0 v cs) (hke:BB st0 st) (hk:∀st',Al st st'->K (B6 v:Nat) st'):
  CallT PR Cd [.agg cs] [.one (.int .i64)] st K:=by
 have h0:=h
 cases v with
 | mk s l f=>
 unfold VlR at h0
 obtain⟨ub,ul,uf,xl,xf,rfl,_⟩:=h0
 exact Jo _ _ _ _ _ _ _ _ _ _ _ _ _ st K (look_ok 2000000 _ hN (by omega) (d:=1) (n:=0) h hke (by omega) rfl (by omega) hk)
end
theorem VlR.cells {st:St} {s:Sc} {l:List Vl} {f:List Fd} {cs:List TV} (h:VlR st (.mk s l f) cs):∃ub ul uf xl xf,cs=A0 s ub ul uf/\SlR st 1 ub s.bytes.length (AA s.bytes)/\SlR st 13 ul l.length xl/\VsR st l xl/\SlR st 14 uf f.length xf/\FsR st f xf:=by
 unfold VlR at h
 obtain⟨ub,ul,uf,xl,xf,rfl,h⟩:=h
 exact⟨ub,ul,uf,xl,xf,rfl,h⟩
theorem szs (s:Sc) (l:List Vl) (f:List Fd):(Vl.mk s l f).sz=1+s.bytes.length+s.text.length+s.dg.length+BC l+BV f:=by unfold Vl.sz;rfl
theorem szd (k:B8) (v:Vl):(Fd.mk k v).sz=k.length+v.sz:=by unfold Fd.sz;rfl
theorem keyLd {st0 st:St} {uf:TV} {xf:List TV} {l:List Fd} (hke:BB st0 st) (h2:SlR st0 14 uf l.length xf) (h3:FsR st0 l xf) {k:Nat} {d:Fd} (hd:l[k]? =some d):Ad st [] (.t (Ao (ixT 14 uf k) 0)) 0=some (.str d.key):=by
 obtain⟨hk,_⟩:=List.getElem?_eq_some_iff.1 hd
 obtain⟨cw,hw,hcw,hcl⟩:=h3.get hd
 have hx:xf[k*14+0]? =some (.str d.key):=by
  cases d with
  | mk key w=>
   unfold FdR at hw
   obtain⟨cs,rfl,_⟩:=hw
   have:=congrArg (fun z=>z[0]?) hcw
   simpa [Fd.key]using this
 exact(h2.keep hke).ldf h3.len hk (by omega) hx
theorem FF {v:Vl} (h:B6 v=0):Br v:=SQ v 1 0 h
theorem X2 {f g:List Fd} (p:f.Perm g):BV f=BV g:=by
 induction p with
 | nil=>rfl
 | cons x _ ih=>unfold BV;rw[ih]
 | swap x y l=>unfold BV;simp only[BV];omega
 | trans _ _ h1 h2=>rw[h1,h2]
def Au (s:B8):B8:=s.takeWhile fun c=>decide (AK c)
def Gs (n:Nat) (l:B8):Nat:=l.foldl (fun n c=>10*n+(c.toNat-48)) n
def BJ (l:B8):Nat:=Gs 0 l
def A6 (l:B8):B8:=l.dropWhile (·==48)
def dcN (neg:Bool) (s:B8) (ex:Int):Bool×B8×Int×Int:=
 if s=[]then(false,[],0,0)else if 400<ex+BR s∨ex+BR s< -400∨120<s.length-BR s then(false,[],0,2)else(neg,s.take (s.length-BR s),ex+BR s,0)
def RM:Bool×B8×Int×Int:=(false,[],0,3)
def dcX (neg:Bool) (all:B8) (ex:Int) (less:Bool) (r:B8):Bool×B8×Int×Int:=
 if r=[]∨(Au r).length≠r.length then RM else dcN neg (A6 all) (if less then ex-BJ r else ex+BJ r)
def dcE (neg:Bool) (all:B8) (ex:Int) (r:B8):Bool×B8×Int×Int:=
 if r=[]then dcN neg (A6 all) ex else if r.getD 0 0=101∨r.getD 0 0=69 then
  (if (r.drop 1).getD 0 0=45 then dcX neg all ex true (r.drop 2)else if (r.drop 1).getD 0 0=43 then dcX neg all ex false (r.drop 2)else dcX neg all ex false (r.drop 1))
 else RM
def dcF (neg:Bool) (a:B8) (r:B8):Bool×B8×Int×Int:=
 if r.getD 0 0=46 then(if Au (r.drop 1)=[]then RM else dcE neg (a++Au (r.drop 1)) (-(Au (r.drop 1)).length) (r.drop (1+(Au (r.drop 1)).length)))
 else dcE neg a 0 r
def dcQ (neg:Bool) (s:B8):Bool×B8×Int×Int:=
 if Au s=[]∨(1<(Au s).length/\s.getD 0 0=48)then RM else dcF neg (Au s) (s.drop (Au s).length)
def dcP (s:B8):Bool×B8×Int×Int:=if s.getD 0 0=45 then dcQ true (s.drop 1)else dcQ false s
theorem Yb {a r:B8} (ha:∀c,c∈a->AK c) (hr:¬AK (r.getD 0 0)):Au (a++r)=a:=by
 induction a with
 | nil=>
  cases r with
  | nil=>rfl
  | cons c r=>exact List.takeWhile_cons_of_neg (by simpa using hr)
 | cons c a ih=>
  unfold Au at ih⊢
  rw[List.cons_append,List.takeWhile_cons_of_pos (by simpa using ha c List.mem_cons_self),ih fun x hx=>ha x (List.mem_cons_of_mem _ hx)]
theorem GJ (s:B8):∀c,c∈Au s->AK c:=by
 induction s with
 | nil=>intro c h;cases h
 | cons a s ih=>
  intro c h
  unfold Au at h ih
  rw[List.takeWhile_cons]at h
  split at h
  ·rename_i hd
   rcases List.mem_cons.1 h with rfl | h
   ·exact of_decide_eq_true hd
   ·exact ih c h
  ·cases h
theorem DX (s:B8):(Au s).length<=s.length:=(List.takeWhile_sublist _).length_le
theorem NM (s:B8):s=Au s++s.drop (Au s).length:=by
 induction s with
 | nil=>rfl
 | cons a s ih=>
  unfold Au at ih⊢
  rw[List.takeWhile_cons]
  split
  ·rw[List.length_cons,List.drop_succ_cons,List.cons_append,<-ih]
  ·rfl
theorem Ep (s:B8):s.take (Au s).length=Au s:=by
 have h:=NM s
 have:s.take (Au s).length=(Au s++s.drop (Au s).length).take (Au s).length:=by rw[<-h]
 rw[this,List.take_left]
theorem OP (l:B8):BR l<=l.length:=by
 unfold BR
 have:=(List.takeWhile_sublist (l:=l.reverse) (fun x:UInt8=>x==48)).length_le
 rwa [List.length_reverse]at this
theorem J9 {c:UInt8} {l:B8} (h:c≠48):A6 (c::l)=c::l:=by
 unfold A6;rw[List.dropWhile_cons,if_neg (by simpa using h)]
theorem LC (k:Nat) (l:B8):A6 (List.replicate k 48++l)=A6 l:=by
 induction k with
 | zero=>rfl
 | succ k ih=>rw[List.replicate_succ,List.cons_append];unfold A6 at ih⊢;rw[List.dropWhile_cons,if_pos (by simp),ih]
theorem Pb (n:Nat) (a b:B8):Gs n (a++b)=Gs (Gs n a) b:=by
 unfold Gs;rw[List.foldl_append]
theorem Yx (n:Nat):∀c,c∈whN n->AK c:=by
 unfold whN;split
 ·intro c h;rw[List.mem_singleton.1 h];decide
 ·exact natD_dg n
def b0 (s:B8) (k:Nat):UInt8:=s.getD k 0
def dv (s:B8) (k:Nat):Nat:=(b0 s k).toNat-48
def d2 (s:B8) (k:Nat):Nat:=dv s k*10+dv s (k+1)
def dd (s:B8) (k:Nat):Prop:=AK (b0 s k)/\AK (b0 s (k+1))
instance (s:B8) (k:Nat):Decidable (dd s k):=inferInstanceAs (Decidable (_/\_))
def Ks (s:B8):Prop:=dd s 0/\b0 s 2=58/\dd s 3/\b0 s 5=58/\dd s 6
instance (s:B8):Decidable (Ks s):=inferInstanceAs (Decidable (_/\_/\_/\_/\_))
def Eg (s:B8):Prop:=dd s 0/\dd s 2/\b0 s 4=45/\dd s 5/\b0 s 7=45/\dd s 8
instance (s:B8):Decidable (Eg s):=inferInstanceAs (Decidable (_/\_/\_/\_/\_/\_))
def MB (f:B8):Nat:=BJ (f++List.replicate (9-f.length) 48)
def GM (s:B8):Option (Nat×Nat×Nat×Nat×B8):=
 if Ks s then
  (if b0 s 8=46 then(if Au (s.drop 9)=[]∨9<(Au (s.drop 9)).length then none else some (d2 s 0,d2 s 3,d2 s 6,MB (Au (s.drop 9)),s.drop (9+(Au (s.drop 9)).length)))
  else some (d2 s 0,d2 s 3,d2 s 6,0,s.drop 8))
 else none
def Oz (s:B8):Option (Bool×Nat×Nat):=
 if s=[90]∨s=[122]then some (false,0,0)else if s.length=6/\(b0 s 0=43∨b0 s 0=45)/\dd s 1/\b0 s 3=58/\dd s 4 then some (decide (b0 s 0=45),d2 s 1,d2 s 4)else none
def okD (y m d:Nat):Prop:=1<=y/\y<=9999/\1<=m/\m<=12/\1<=d/\d<=K8 y m
instance (y m d:Nat):Decidable (okD y m d):=inferInstanceAs (Decidable (_/\_/\_/\_/\_/\_))
def K9 (y m d:Nat):Nat:=yrS y+EH y m+(d-1)
abbrev TmR:=Int×Int×Int×Int×Int
def IZ:TmR:=(0,0,0,0,3)
def IY:TmR:=(0,0,0,0,2)
def okC (h m s:Nat):Prop:=h<=23/\m<=59/\s<=59
instance (h m s:Nat):Decidable (okC h m s):=inferInstanceAs (Decidable (_/\_/\_))
def FZ (h m s f:Nat):Nat:=((h*60+m)*60+s)*1000000000+f
def tmO (y mo d h m s f:Nat) (r:B8):TmR:=
 if r=[]then(if okD y mo d/\okC h m s then(3,(K9 y mo d:Nat),(FZ h m s f:Nat),0,0)else IY)
 else match Oz r with
  | none=>IZ
  | some (ls,oh,om)=>if okD y mo d/\okC h m s/\oh<=23/\om<=59 then(4,(K9 y mo d:Nat),(FZ h m s f:Nat),if ls then-((oh*60+om:Nat):Int)else((oh*60+om:Nat):Int),0)else IY
def tmD (y mo d:Nat) (r:B8):TmR:=
 if r=[]then(if okD y mo d then(1,(K9 y mo d:Nat),0,0,0)else IY)
 else if b0 r 0=84∨b0 r 0=116∨b0 r 0=32 then
  match GM (r.drop 1)with
  | none=>IZ
  | some (h,m,s,f,r')=>tmO y mo d h m s f r'
 else IZ
def tmP (s:B8):TmR:=
 if Eg s then tmD (d2 s 0*100+d2 s 2) (d2 s 5) (d2 s 8) (s.drop 10)
 else match GM s with
  | none=>IZ
  | some (h,m,sc,f,r)=>if r=[]then(if okC h m sc then(2,0,(FZ h m sc f:Nat),0,0)else IY)else IZ
theorem Ma:∀(l:B8) (a:Nat),Gs a l=a*10^l.length+Gs 0 l
 | [],a=>by simp[Gs]
 | c::l,a=>by
  have h1:=Ma l (10*a+(c.toNat-48))
  have h2:=Ma l (10*0+(c.toNat-48))
  show Gs (10*a+(c.toNat-48)) l=_+Gs (10*0+(c.toNat-48)) l
  rw[h1,h2,List.length_cons,Nat.pow_succ,Nat.add_mul,Nat.add_mul]
  have:10*a*10^l.length=a*(10^l.length*10):=by rw[Nat.mul_comm 10 a,Nat.mul_assoc,Nat.mul_comm 10]
  omega
theorem QZ:∀(w n:Nat),n<10^w->BJ (A7 w n)=n
 | 0,n,h=>by rw[show n=0 by simpa using h];rfl
 | w+1,n,h=>by
  have:=QZ w (n/10) (by rw[Nat.div_lt_iff_lt_mul (by omega)];rw[Nat.pow_succ]at h;exact h)
  unfold BJ at this⊢
  rw[A7,Pb,this]
  unfold Gs
  rw[List.foldl_cons,List.foldl_nil,OK _ (by omega)];omega
theorem ZZ:∀(l:B8),∃k,l=HD l++List.replicate k 48:=by
 intro l
 have:∀n (l:B8),l.length=n->∃k,l=HD l++List.replicate k 48:=by
  intro n
  induction n with
  | zero=>intro l h;rw[List.eq_nil_of_length_eq_zero h];exact⟨0,rfl⟩
  | succ n ih=>
   intro l h
   have hne:l≠ []:=fun e=>by rw[e]at h;simp at h
   have hl:=List.dropLast_concat_getLast hne
   generalize l.dropLast=a at hl
   generalize l.getLast hne=c at hl
   rw[<-hl,NO]
   rw[<-hl,List.length_append]at h
   by_cases h0:c=48
   ·obtain⟨k,hk⟩:=ih a (by simpa using h)
    rw[if_pos h0]
    refine⟨k+1,?_⟩
    rw[List.replicate_succ',<-List.append_assoc,<-hk,h0]
   ·rw[if_neg h0];exact⟨0,by simp⟩
 exact this _ l rfl
theorem X3 {n:Nat} (h:n<1000000000):MB (HD (A7 9 n))=n:=by
 obtain⟨k,hk⟩:=ZZ (A7 9 n)
 have hl:=congrArg List.length hk
 rw[AU,List.length_append,List.length_replicate]at hl
 unfold MB
 rw[show 9-(HD (A7 9 n)).length=k by omega,<-hk]
 exact QZ 9 n h
theorem Xc {n:Nat} (h:n<1000000000) (h0:n≠0):HD (A7 9 n)≠ []:=by
 intro e
 have:=X3 h
 rw[e]at this
 exact h0 (this.symm.trans (by decide))
theorem SN (n:Nat):∀c,c∈HD (A7 9 n)->AK c:=fun c hc=>Fm 9 n c (Z0 hc)
theorem Fn (y m:Nat):K8 y m<=31:=by
 have ite:∀{p:Prop} [Decidable p] {a b:Nat},a<=31->b<=31->(if p then a else b)<=31:=fun h1 h2=>by split<;>assumption
 unfold K8
 exact ite (ite (by omega) (by omega)) (ite (by omega) (by omega))
theorem Xa {n y m d:Nat} (h:HG n y m d):LS n=A7 4 y++45::(A7 2 m++45::A7 2 d):=by unfold LS;rw[Ye h]
theorem KJ:∀(l:B8),(∀c,c∈l->AK c)->BJ l<10^l.length
 | [],_=>by decide
 | c::l,h=>by
  have ih:=KJ l fun x hx=>h x (.tail _ hx)
  have hc:=(h c (.head _)).2
  unfold BJ at ih⊢
  rw[show Gs 0 (c::l)=Gs (c.toNat-48) l by simp[Gs],Ma,List.length_cons,Nat.pow_succ]
  have:(c.toNat-48)*10^l.length<=9*10^l.length:=Nat.mul_le_mul_right _ (by omega)
  omega
theorem valN_ge {c:UInt8} {l:B8} (hc:AK c) (h0:c≠48):10^l.length<=BJ (c::l):=by
 unfold BJ
 rw[show Gs 0 (c::l)=Gs (c.toNat-48) l by simp[Gs],Ma]
 have h1:=hc.1
 have h2:c.toNat≠48:=fun e=>h0 (UInt8.toNat_inj.1 (by simpa using e))
 have:1*10^l.length<=(c.toNat-48)*10^l.length:=Nat.mul_le_mul_right _ (by omega)
 omega
theorem Gr:∀l:B8,BJ (A6 l)=BJ l
 | []=>rfl
 | c::l=>by
  by_cases h:c=48
  ·subst h
   have:=LC 1 l
   rw[show List.replicate 1 (48:UInt8)++l=48::l from rfl]at this
   rw[this,Gr l]
   unfold BJ
   rw[show Gs 0 (48::l)=Gs 0 l by simp[Gs]]
  ·rw[J9 h]
theorem It (l:B8):∀c,c∈A6 l->c∈l:=fun c h=>(List.dropWhile_sublist (l:=l) (fun x:UInt8=>x==48)).subset h
theorem Iu (l:B8):(A6 l).length<=l.length:=(List.dropWhile_sublist (l:=l) (fun x:UInt8=>x==48)).length_le
theorem J8 (l:B8):(A6 l).getD 0 0≠48:=by
 induction l with
 | nil=>decide
 | cons c l ih=>
  by_cases h:c=48
  ·subst h
   have:=LC 1 l
   rw[show List.replicate 1 (48:UInt8)++l=48::l from rfl]at this
   rw[this];exact ih
  ·rw[J9 h];exact h
theorem Tm {l:B8} {k:Nat} (h:∀c,c∈l->AK c) (hk:k<(A6 l).length):10^k<=BJ l:=by
 rw[<-Gr l]
 have h0:=J8 l
 have hs:=It l
 generalize A6 l=m at*
 cases m with
 | nil=>exact absurd hk (Nat.not_lt_zero _)
 | cons c m=>
  have:=valN_ge (l:=m) (h c (hs c (.head _))) h0
  rw[List.length_cons]at hk
  exact Nat.le_trans (Nat.pow_le_pow_right (by decide) (by omega)) this
theorem Q0 {l:B8} {k:Nat} (h:∀c,c∈l->AK c) (hk:(A6 l).length<=k):BJ l<10^k:=by
 rw[<-Gr l]
 exact Nat.lt_of_lt_of_le (KJ _ fun c hc=>h c (It l c hc)) (Nat.pow_le_pow_right (by decide) hk)
theorem W7 {neg:Bool} {s:B8} {ex n m:Int} (hl:s.length<=100000000) (h1: -100000000<=ex) (h2:ex<=100000000) (hn:1000000000<=n) (hm:1000000000<=m) (less:Bool):
  dcN neg s (if less then ex-n else ex+n)=dcN neg s (if less then ex-m else ex+m):=by
 unfold dcN
 have hz:=OP s
 by_cases h:s=[]
 ·rw[if_pos h,if_pos h]
 ·rw[if_neg h,if_neg h]
  cases less with
  | true=>
   simp only[if_true]
   rw[if_pos (by omega),if_pos (by omega)]
  | false=>
   simp only[Bool.false_eq_true,if_false]
   rw[if_pos (by omega),if_pos (by omega)]
theorem NU {l:B8} {c:UInt8} (hc:c.toNat<128) {st:St} {K:B8->St->Prop} (hk:K (l.dropWhile (·==c)) st):CallT PR D4 [.str l,.str [c]] [.one .str] st K:=by
 refine DR (fun _ _=>by kernel_rfl) fun g w vargs s hr=>?_
 obtain⟨v,u,rfl,hv,hu⟩:=Pt hr
 rw[BE hv,BE hu]
 refine Calls.mono (Tryz.strings_TrimLeft_one ⟨l.toArray⟩ c hc w) ?_
 rintro e w' ⟨rfl,rfl⟩
 exact⟨_,rfl,.str _,st,g,hk,s,Rel.str _,Ext.refl _ _⟩
theorem SB {s p:B8} {st:St} {K:Bool->St->Prop} (hk:K (decide (s.take p.length=p)) st):CallT PR A5 [.str s,.str p] [.one (.bool)] st K:=by
 refine JM s p st K (Hg s p st _ (Aa (fun h=>⟨⟨by omega,h⟩,?_⟩) fun h=>?_))
 ·exact hk
 ·have:¬s.take p.length=p:=fun h0=>by
   have:=congrArg List.length h0
   rw[List.length_take]at this
   omega
  rw[decide_eq_false this]at hk
  exact hk
theorem u8i {c k:UInt8}:((c.toNat:Int)=(k.toNat:Int))↔c=k:=⟨fun h=>UInt8.toNat_inj.1 (by omega),fun h=>by rw[h]⟩
theorem take1 {s:B8} {c:UInt8} (hc:c≠0):s.take [c].length=[c]↔s.getD 0 0=c:=by
 cases s with
 | nil=>exact⟨fun h=>absurd h (by simp),fun h=>absurd (show(0:UInt8)=c from h).symm hc⟩
 | cons a s=>show [a]=[c]↔a=c;simp
theorem KR {s:B8} {c:UInt8} (hc:c≠0) {st:St} {K:Bool->St->Prop} (hk:K (decide (s.getD 0 0=c)) st):CallT PR A5 [.str s,.str [c]] [.one (.bool)] st K:=
 SB (by rw[decide_eq_decide.2 (take1 hc)];exact hk)
theorem H6:∀(s:B8) (k:Nat),k<=s.length->(∀j,j<k->AK (s.getD j 0))->(k=s.length∨¬AK (s.getD k 0))->(Au s).length=k
 | [],k,h,_,_=>by
  have:k=0:=by simpa using h
  subst this;rfl
 | a::s,0,_,_,h=>by
  have h2:¬AK a:=by
   rcases h with h | h
   ·simp at h
   ·exact h
  unfold Au
  rw[List.takeWhile_cons_of_neg (by simpa using h2)];rfl
 | a::s,k+1,h1,h2,h3=>by
  have ha:AK a:=h2 0 (by omega)
  have ih:=H6 s k (by simpa using h1) (fun j hj=>h2 (j+1) (by omega)) (by
   rcases h3 with h3 | h3
   ·exact .inl (by simpa using h3)
   ·exact .inr h3)
  unfold Au at ih⊢
  rw[List.takeWhile_cons_of_pos (by simpa using ha),List.length_cons,ih]
theorem Vi {s:B8} (hl:s.length<=1000000000) {st:St} {K:Int->St->Prop} (hk:K ((Au s).length:Nat) st):CallT PR DI [.str s] [.one (.int .i64)] st K:=by
 refine O5 s st K ⟨fun n s' st'=>s=s'/\st=st'/\∃k:Nat,n=k/\k<=s.length/\∀j,j<k->AK (s.getD j 0),fun n _ _=>(s.length-n).toNat,⟨rfl,rfl,0,rfl,Nat.zero_le _,fun j h=>absurd h (Nat.not_lt_zero _)⟩,?_⟩
 rintro _ _ _ ⟨rfl,rfl,k,rfl,hk1,hd⟩
 rw[Int.toNat_natCast]
 have fin:(k=s.length∨¬AK (s.getD k 0))->K ((k:Nat):Int) st:=fun h=>by rw[H6 s k hk1 hd h]at hk;exact hk
 refine Aa (fun g=>⟨⟨by omega,g⟩,Aa (fun g1=>⟨⟨by omega,g⟩,Aa (fun g2=>?_) fun g2=>fin (.inr fun h=>g2 (by have:=h.2;omega))⟩) fun g1=>fin (.inr fun h=>g1 (by have:=h.1;omega))⟩) fun g=>fin (.inl (by omega))
 rw[Af _ (by omega) (by omega)]
 refine⟨⟨rfl,rfl,k+1,by omega,by omega,fun j hj=>?_⟩,by dsimp only;omega⟩
 by_cases hjk:j=k
 ·subst hjk;exact⟨by omega,by omega⟩
 ·exact hd j (by omega)
theorem HQ {l:B8} {k:Nat} (h:k<l.length):BJ (l.take (k+1))=10*BJ (l.take k)+((List.getD l k 0).toNat-48):=by
 rw[List.take_succ_eq_append_getElem h]
 unfold BJ
 rw[Pb]
 have:l[k]=List.getD l k 0:=by simp[List.getD,h]
 rw[<-this];rfl
theorem Ip {l:B8} (hd:∀c,c∈l->AK c) (h:l.length<=18) (k:Nat) (hk:k<l.length):BJ (l.take k)<100000000000000000:=by
 have h1:=KJ (l.take k) fun c hc=>hd c (List.mem_of_mem_take hc)
 rw[List.length_take,Nat.min_eq_left (by omega)]at h1
 have:(10:Nat)^k<=10^17:=Nat.pow_le_pow_right (by decide) (by omega)
 omega
theorem YA {l:B8} (hl:l.length<=18) (hd:∀c,c∈l->AK c) (h0:l.getD 0 0≠48) {st:St} {K:Int->Int->St->Prop} (hk:K (BJ l:Nat) 0 st):CallT PR FM [.str l] [.one (.int .i64),.one (.int .i64)] st K:=by
 refine Ot l st K (RN (by omega) ?_)
 have hno:decide (KF l)=true:=decide_eq_true ⟨by omega,hd,fun _=>h0⟩
 rw[hno]
 refine Aj (fun h=>by cases h) fun _=>?_
 refine⟨fun n i l' m st'=>l=l'/\st=st'/\(l.length:Int)=m/\∃k:Nat,i=k/\k<=l.length/\n=(BJ (l.take k):Nat),fun _ i _ _ _=>(l.length-i).toNat,⟨rfl,rfl,rfl,0,rfl,Nat.zero_le _,rfl⟩,?_⟩
 rintro _ _ _ _ _ ⟨rfl,rfl,rfl,k,rfl,hkl,rfl⟩
 rw[Int.toNat_natCast]
 refine Aa (fun g=>⟨⟨by omega,g⟩,?_⟩) fun g=>?_
 ·have hk':k<l.length:=by omega
  have hv:=Ip hd hl k hk'
  have hs:=HQ hk'
  have hc:=hd _ (GB hk')
  obtain⟨c1,c2⟩:=hc
  rw[MN _ (by omega) (by omega),Af (((List.getD l k 0).toNat:Int)-48) (by omega) (by omega),Af (9223372036854775807-_) (by omega) (by omega),Int.tdiv_eq_ediv_of_nonneg (by omega),Af _ (by omega) (by omega)]
  refine Aa (fun g2=>by omega) fun g2=>?_
  rw[Af (((BJ (l.take k):Nat):Int)*10) (by omega) (by omega),Af _ (by omega) (by omega),Af _ (by omega) (by omega)]
  exact⟨⟨rfl,rfl,rfl,k+1,by omega,by omega,by rw[hs];omega⟩,by dsimp only;omega⟩
 ·have:k=l.length:=by omega
  subst this
  rw[List.take_length];exact hk
theorem Zg {ex:Int} {less:Bool} {l:B8} (h1: -100000000<=ex) (h2:ex<=100000000) (hd:∀c,c∈l->AK c) (h0:l.getD 0 0≠48) {st:St} {K:Int->St->Prop}
  (hk:K (if less then ex-((if l.length<=12 then BJ l else 1099511627776:Nat):Int)else ex+((if l.length<=12 then BJ l else 1099511627776:Nat):Int)) st):CallT PR Fh [.int .i64 ex,.bool less,.str l] [.one (.int .i64)] st K:=by
 refine MU ex less l st K (Aa (fun g=>?_) fun g=>?_)
 ·have g':l.length<=12:=by omega
  rw[if_pos g']at hk
  have hv:=KJ l hd
  have:(10:Nat)^l.length<=10^12:=Nat.pow_le_pow_right (by decide) g'
  refine YA (by omega) hd h0 (Aj (fun e=>?_) fun e=>?_)
  ·rw[Af _ (by omega) (by omega)];rw[if_pos e]at hk;exact hk
  ·rw[Af _ (by omega) (by omega)];rw[e]at hk;exact hk
 ·rw[if_neg (show ¬l.length<=12 by omega)]at hk
  refine Aj (fun e=>?_) fun e=>?_
  ·rw[Af _ (by omega) (by omega)];rw[if_pos e]at hk;exact hk
  ·rw[Af _ (by omega) (by omega)];rw[e]at hk;exact hk
abbrev KD (K:Bool->B8->Int->Int->St->Prop) (r:Bool×B8×Int×Int) (st:St):Prop:=K r.1 r.2.1 r.2.2.1 r.2.2.2 st
theorem norm_ok {neg:Bool} {s:B8} {ex:Int} (hl:s.length<=2000000) (h1: -3000000000000<=ex) (h2:ex<=3000000000000) {st:St} {K:Bool->B8->Int->Int->St->Prop} (hk:KD K (dcN neg s ex) st):
  CallT PR FP [.bool neg,.str s,.int .i64 ex] [.agg [.bool,.str,.int .i64],.one (.int .i64)] st K:=by
 unfold KD dcN at hk
 refine Ow neg s ex st K (Aa (fun g=>by rw[if_pos g]at hk;exact hk) fun g=>Mb (by decide) (by omega) ?_)
 rw[if_neg g]at hk
 have ht:=J5 s
 have e1:i64.wrap ((s.length:Int)-((Lib.trimRightB s 48).length:Int))=(BR s:Nat):=by rw[Af _ (by omega) (by omega)];omega
 rw[e1]
 have e2:i64.wrap ((s.length:Int)-(BR s:Nat))=((s.length-BR s:Nat):Int):=by rw[Af _ (by omega) (by omega)];omega
 rw[e2,Int.toNat_natCast,Af (400-_) (by omega) (by omega),Af (-400-_) (by omega) (by omega),Af (ex+_) (by omega) (by omega)]
 have hlen:(s.take (s.length-BR s)).length=s.length-BR s:=by rw[List.length_take];omega
 rw[hlen]
 refine⟨⟨by omega,by omega⟩,Aa (fun g1=>?_) fun g1=>Aa (fun g2=>?_) fun g2=>Aa (fun g3=>?_) fun g3=>?_⟩
 ·rw[if_pos (by omega)]at hk;exact hk
 ·rw[if_pos (by omega)]at hk;exact hk
 ·rw[if_pos (by omega)]at hk;exact hk
 ·rw[if_neg (by omega)]at hk;exact hk
theorem Sz {neg:Bool} {s:B8} {ex:Int} (hl:s.length<=2000000) (hd:∀c,c∈s->AK c) (h1: -3000000000000<=ex) (h2:ex<=3000000000000) {st:St} {K:Bool->B8->Int->Int->St->Prop} (hk:KD K (dcN neg (A6 s) ex) st):
  CallT PR Dd [.bool neg,.str s,.int .i64 ex] [.agg [.bool,.str,.int .i64],.one (.int .i64)] st K:=by
 refine Ox neg s ex st K ⟨fun i neg' s' ex' n _ _ _ st'=>neg=neg'/\s=s'/\ex=ex'/\(s.length:Int)=n/\st=st'/\0<=i,fun i _ _ _ _ _ _ _ _=>(s.length-i).toNat,⟨rfl,rfl,rfl,rfl,rfl,by omega⟩,?_⟩
 rintro i _ _ _ _ _ _ _ _ ⟨rfl,rfl,rfl,rfl,rfl,hi⟩
 refine Aa (fun g=>?_) fun g=>?_
 ·have hc:=hd _ (GB (show i.toNat<s.length by omega))
  obtain⟨c1,c2⟩:=hc
  refine⟨⟨hi,g⟩,Aa (fun g1=>by omega) fun _=>⟨⟨hi,g⟩,Aa (fun g1=>by omega) fun _=>?_⟩⟩
  rw[Af _ (by omega) (by omega)]
  exact⟨⟨rfl,rfl,rfl,rfl,rfl,by omega⟩,by dsimp only;omega⟩
 ·refine NU (by decide) (norm_ok (Nat.le_trans (Iu s) hl) h1 h2 hk)
theorem dP_ok {s:B8} (hl:s.length<=1000000) {st:St} {K:Bool->B8->Int->Int->St->Prop} (hk:KD K (dcP s) st):CallT PR CF [.str s] [.agg [.bool,.str,.int .i64],.one (.int .i64)] st K:=by
 refine MW s st K (KR (by decide) ?_)
 refine⟨fun s1 neg _ _ _ st'=>st=st'/\dcP s=dcQ neg s1/\s1.length<=s.length,Aa (fun g=>?_) fun g=>?_,?_⟩
 ·refine⟨⟨by omega,?_⟩,rfl,?_,?_⟩
  ·cases s with
   | nil=>exact absurd g (by decide)
   | cons a s=>rw[List.length_cons];omega
  ·unfold dcP;rw[if_pos g,decide_eq_true g];rfl
  ·rw[List.length_drop];omega
 ·refine⟨rfl,?_,Nat.le_refl _⟩
  unfold dcP;rw[if_neg g,decide_eq_false g]
 rintro s1 neg _ _ _ _ ⟨rfl,h1,hl1⟩
 rw[h1]at hk
 refine Vi (by omega) ?_
 have hrl:=DX s1
 refine⟨fun s2 neg2 n _ _ _ st'=>s1=s2/\neg=neg2/\n=((Au s1).length:Nat)/\st=st'/\dcQ neg s1=dcF neg (Au s1) (s1.drop (Au s1).length),Aa (fun g=>?_) fun g=>Aa (fun g2=>?_) fun g2=>?_,?_⟩
 ·have:Au s1=[]:=List.length_eq_zero_iff.1 (by omega)
  unfold KD dcQ at hk
  rw[if_pos (.inl this)]at hk;exact hk
 ·refine⟨⟨by omega,by omega⟩,Aa (fun g3=>?_) fun g3=>⟨rfl,rfl,rfl,rfl,?_⟩⟩
  ·have:s1.getD 0 0=48:=u8i.1 g3
   unfold KD dcQ at hk
   rw[if_pos (.inr ⟨by omega,this⟩)]at hk;exact hk
  ·unfold dcQ
   rw[if_neg]
   rintro(h | ⟨_,h⟩)
   ·exact g (by rw[h];rfl)
   ·exact g3 (by show((s1.getD 0 0).toNat:Int)=48;rw[h];rfl)
 ·refine⟨rfl,rfl,rfl,rfl,?_⟩
  unfold dcQ
  rw[if_neg]
  rintro(h | ⟨h,_⟩)
  ·exact g (by rw[h];rfl)
  ·omega
 rintro _ _ _ _ _ _ _ ⟨rfl,rfl,rfl,rfl,h2⟩
 rw[h2]at hk
 rw[Int.toNat_natCast,Ep]
 refine⟨⟨by omega,by omega⟩,⟨by omega,by omega⟩,?_⟩
 have hdg:=GJ s1
 generalize hr:s1.drop (Au s1).length=r at*
 generalize ha:Au s1=a at*
 have hrl2:a.length+r.length<=1000000:=by
  have:r.length=s1.length-a.length:=by rw[<-hr,List.length_drop]
  omega
 clear hr ha h1 h2
 refine⟨fun s3 all ex neg3 _ _ _ st'=>neg=neg3/\st=st'/\dcF neg a r=dcE neg all ex s3/\ -1000000<=ex/\ex<=0/\all.length<=1000000/\s3.length<=1000000/\∀c,c∈all->AK c,KR (by decide) (Aa (fun g=>?_) fun g=>?_),?_⟩
 ·have hr1:1<=r.length:=by
   cases r with
   | nil=>exact absurd g (by decide)
   | cons c r=>rw[List.length_cons];omega
  refine⟨⟨by omega,by omega⟩,Vi (by show(r.drop 1).length<=_;rw[List.length_drop];omega) ?_⟩
  rw[show Int.toNat (1:Int)=1 from rfl]
  have hd1:=DX (r.drop 1)
  have hd2:=GJ (r.drop 1)
  have hd3:=Ep (r.drop 1)
  rw[List.length_drop]at hd1
  generalize hf:Au (r.drop 1)=f at*
  refine Aa (fun g2=>?_) fun g2=>?_
  ·have:f=[]:=List.length_eq_zero_iff.1 (by omega)
   unfold KD dcF at hk
   rw[if_pos g,hf,if_pos this]at hk;exact hk
  ·rw[Af (((f.length:Nat):Int)+1) (by omega) (by omega),Af (0-_) (by omega) (by omega),show((((f.length:Nat):Int)+1).toNat)=1+f.length by omega]
   have hdt:(r.take (1+f.length)).drop 1=f:=by rw[List.drop_take,Nat.add_sub_cancel_left];exact hd3
   refine⟨⟨by omega,by omega,by omega⟩,?_⟩
   show(a.length+((r.take (1+f.length)).drop 1).length<=_)/\_
   rw[hdt]
   refine⟨by omega,⟨by omega,by omega⟩,rfl,rfl,?_,by omega,by omega,by rw[List.length_append];omega,by rw[List.length_drop];omega,fun c hc=>?_⟩
   ·unfold dcF
    rw[if_pos g,hf,if_neg (fun e=>g2 (by rw[e];rfl))]
    rw[show(0:Int)-(f.length:Nat)= -(f.length:Nat) by omega]
   ·rcases List.mem_append.1 hc with hc | hc
    ·exact hdg c hc
    ·exact hd2 c hc
 ·refine⟨rfl,rfl,?_,by omega,by omega,by omega,by omega,hdg⟩
  unfold dcF;rw[if_neg g]
 rintro s3 all ex _ _ _ _ _ ⟨rfl,rfl,h3,x1,x2,x3,x4,x5⟩
 rw[h3]at hk
 clear h3 hdg hrl2
 refine Aa (fun g=>?_) fun g=>?_
 ·have hpos:1<=s3.length:=List.length_pos_iff.2 g
  refine⟨fun s4 neg4 all4 ex4 _ _ _ st'=>s3=s4/\neg=neg4/\all=all4/\ex=ex4/\st=st'/\(s3.getD 0 0=101∨s3.getD 0 0=69),?_,?_⟩
  ·have n101:((s3.getD 0 0).toNat:Int)≠101↔s3.getD 0 0≠101:=not_congr (u8i (k:=101))
   have n69:((s3.getD 0 0).toNat:Int)≠69↔s3.getD 0 0≠69:=not_congr (u8i (k:=69))
   refine⟨⟨by omega,by omega⟩,Aa (fun g1=>⟨⟨by omega,by omega⟩,Aa (fun g2=>?_) fun g2=>⟨rfl,rfl,rfl,rfl,rfl,.inr (Decidable.not_not.1 fun h=>g2 (n69.2 h))⟩⟩) fun g1=>⟨rfl,rfl,rfl,rfl,rfl,.inl (Decidable.not_not.1 fun h=>g1 (n101.2 h))⟩⟩
   unfold KD dcE at hk
   rw[if_neg g,if_neg (by rintro(h | h);exact n101.1 g1 h;exact n69.1 g2 h)]at hk
   exact hk
  rintro _ _ _ _ _ _ _ _ ⟨rfl,rfl,rfl,rfl,rfl,he⟩
  unfold KD dcE at hk
  rw[if_neg g,if_pos he]at hk
  refine⟨⟨by omega,by omega⟩,KR (by decide) ?_⟩
  show ∃_,_
  refine⟨fun s5 neg5 all5 ex5 less _ _ _ st'=>neg=neg5/\all=all5/\ex=ex5/\st=st'/\s5.length<=1000000/\KD K (dcX neg all ex less s5) st,Aa (fun g1=>?_) fun g1=>KR (by decide) (Aa (fun g2=>?_) fun g2=>?_),?_⟩
  ·have g1':(s3.drop 1).getD 0 0=45:=g1
   rw[if_pos g1']at hk
   refine⟨⟨by omega,?_⟩,rfl,rfl,rfl,rfl,?_,?_⟩
   ·have:1<=(s3.drop 1).length:=by
     cases hc:s3.drop 1 with
     | nil=>rw[hc]at g1';exact absurd g1' (by decide)
     | cons c r=>rw[List.length_cons];omega
    exact Int.ofNat_le.2 this
   ·show((s3.drop 1).drop 1).length<=_;rw[List.length_drop,List.length_drop];omega
   ·rw[decide_eq_true g1]
    show KD K (dcX neg all ex true ((s3.drop 1).drop 1)) st
    rw[List.drop_drop];exact hk
  ·have g1':¬(s3.drop 1).getD 0 0=45:=g1
   have g2':(s3.drop 1).getD 0 0=43:=g2
   rw[if_neg g1',if_pos g2']at hk
   refine⟨⟨by omega,?_⟩,rfl,rfl,rfl,rfl,?_,?_⟩
   ·have:1<=(s3.drop 1).length:=by
     cases hc:s3.drop 1 with
     | nil=>rw[hc]at g2';exact absurd g2' (by decide)
     | cons c r=>rw[List.length_cons];omega
    exact Int.ofNat_le.2 this
   ·show((s3.drop 1).drop 1).length<=_;rw[List.length_drop,List.length_drop];omega
   ·rw[decide_eq_false g1]
    show KD K (dcX neg all ex false ((s3.drop 1).drop 1)) st
    rw[List.drop_drop];exact hk
  ·have g1':¬(s3.drop 1).getD 0 0=45:=g1
   have g2':¬(s3.drop 1).getD 0 0=43:=g2
   rw[if_neg g1',if_neg g2']at hk
   refine⟨rfl,rfl,rfl,rfl,?_,?_⟩
   ·show(s3.drop 1).length<=_;rw[List.length_drop];omega
   ·rw[decide_eq_false g1];exact hk
  rintro s5 _ _ _ less _ _ _ _ ⟨rfl,rfl,rfl,rfl,hl5,hk5⟩
  unfold KD dcX at hk5
  refine Aa (fun g1=>by rw[if_pos (.inl g1)]at hk5;exact hk5) fun g1=>Vi (by omega) (Aa (fun g2=>?_) fun g2=>?_)
  ·rw[if_pos (.inr (by omega))]at hk5;exact hk5
  ·have hall:Au s5=s5:=by
    have:=NM s5
    have h0:s5.drop (Au s5).length=[]:=List.drop_of_length_le (by omega)
    rw[h0,List.append_nil]at this
    exact this.symm
   have hd5:∀c,c∈s5->AK c:=by rw[<-hall];exact GJ s5
   rw[if_neg (by rintro(h | h);exact g1 h;exact h (by rw[hall]))]at hk5
   refine NU (by decide) (Zg (by omega) (by omega) (fun c hc=>hd5 c (It s5 c hc)) (J8 s5) ?_)
   show CallT PR Dd [.bool neg,.str all,.int .i64 (if less=true then ex-((if (A6 s5).length<=12 then BJ (A6 s5)else 1099511627776:Nat):Int)else ex+((if (A6 s5).length<=12 then BJ (A6 s5)else 1099511627776:Nat):Int))] _ _ _
   rw[Gr]
   have sm:=Iu all
   by_cases h12:(A6 s5).length<=12
   ·have hn:=Q0 hd5 h12
    rw[if_pos h12]
    refine Sz (by omega) x5 ?_ ?_ hk5
    ·split<;>omega
    ·split<;>omega
   ·have hf:=Tm (k:=12) hd5 (by omega)
    rw[if_neg h12]
    refine Sz (by omega) x5 ?_ ?_ ?_
    ·split<;>omega
    ·split<;>omega
    ·have:=W7 (neg:=neg) (s:=A6 all) (ex:=ex) (n:=((1099511627776:Nat):Int)) (m:=(BJ s5:Nat)) (by omega) (by omega) (by omega) (by omega) (by omega) less
     unfold KD
     rw[this];exact hk5
 ·have g0:s3=[]:=Decidable.not_not.1 g
  unfold KD dcE at hk
  rw[if_pos g0]at hk
  exact Sz (by omega) x5 (by omega) (by omega) hk
section
theorem MO:∀l m:List Vl,DA (l++m)=DA l+DA m
 | [],m=>by simp[DA]
 | v::r,m=>by simp only[List.cons_append,DA,MO r m];omega
theorem OQ {l:List Vl} {k:Nat} {w:Vl} (h:l[k]? =some w):DA (l.take (k+1))=DA (l.take k)+w.cnt:=by
 rw[Na h,MO];simp[DA]
theorem Qr (l:List Vl) (k:Nat):DA (l.take k)<=DA l:=by
 have:=MO (l.take k) (l.drop k)
 rw[List.take_append_drop]at this;omega
mutual
theorem SO:∀v:Vl,v.cnt<=v.sz
 | .mk s l f=>by
  have:=OM l
  have:=ON f
  unfold Vl.cnt;rw[szs];omega
theorem OM:∀l:List Vl,DA l<=BC l
 | []=>by unfold DA;exact Nat.zero_le _
 | v::r=>by
  unfold DA BC
  have:=SO v
  have:=OM r
  omega
theorem cntd_sz:∀d:Fd,d.cnt<=d.sz
 | .mk k v=>by unfold Fd.cnt Fd.sz;have:=SO v;omega
theorem ON:∀l:List Fd,EC l<=BV l
 | []=>by unfold EC;exact Nat.zero_le _
 | d::r=>by
  unfold EC BV
  have:=cntd_sz d
  have:=ON r
  omega
end
end
theorem SlR.ldb {st:St} {u:TV} {l:B8} {k:Nat} (h:SlR st 1 u l.length (AA l)) (hk:k<l.length):Ad st [] (.t (ixT 1 u k)) 0=some (FG l[k]):=by
 have:=h.ldc (by rw[Ee];omega) hk
 rw[List.drop_eq_getElem_cons (by rw[Ee];omega)]at this
 simp only[Ai,List.take_succ_cons,List.take_zero]at this
 cases hq:Ad st [] (.t (ixT 1 u k)) 0 with
 | none=>rw[hq]at this;cases this
 | some y=>
  rw[hq]at this
  simp only[Option.map_some,Option.some.injEq,List.cons.injEq,and_true]at this
  rw[this];simp[AA]
def zs (n:Nat):B8:=List.replicate n 48
theorem Pr:∀n,Lib.repeatL [48] n=zs n
 | 0=>rfl
 | n+1=>by
  show [48]++Lib.repeatL [48] n=_
  rw[Pr n];rfl
theorem Lu (n:Nat):(zs n).length=n:=by simp[zs]
theorem Rb {n:Nat} (hn:n<=2000000) {st:St} {K:B8->St->Prop} (hk:K (zs n) st):CallT PR EM [.str [48],.int .i64 (n:Int)] [.one .str] st K:=by
 refine DR (fun _ _=>by kernel_rfl) fun g w vargs s hr=>?_
 obtain⟨v,u,rfl,hv,hu⟩:=Pt hr
 rw[BE hv,TL hu]
 refine Calls.mono (Tryz.strings_Repeat ⟨#[48]⟩ n w (by omega) (by simp[ByteArray.size];omega)) ?_
 rintro e w' ⟨rfl,hb⟩
 obtain⟨s',e'⟩:=s.world hb.size (s.below.trans (hb.mono s.fits)) hb.block
 refine⟨_,rfl,.str (zs n),st,g,hk,s',?_,e'⟩
 have:Lib.repeatL (ByteArray.mk #[48]).data.toList n=zs n:=Pr n
 rw[this];exact Rel.str _
theorem SlR.of_box {st:St} {b n:Nat} {xs:List TV} (hb:b<st.nb) (h:st.box b= .cells xs) (hl:xs.length=n):SlR st 1 (.ms 1 b 0 n n) n xs:=
 .inr ⟨b,0,n,xs,rfl,hb,h,by omega,Nat.le_refl _,by simp[<-hl]⟩
theorem Z6 (n:Nat):AA (zs n)=List.replicate n (.int .u8 48):=by
 unfold zs AA
 rw[List.map_replicate];rfl
theorem PG {n:Nat} (hn:n<=2000000) {st:St} {K:B8->St->Prop} (hk:∀st',Al st st'->K (zs n) st'):CallT PR BN [.int .i64 (n:Int)] [.one .str] st K:=by
 have e0:Al st (st.push (.cells (FJ [.int .u8 0] (Int.toNat (n:Int)*1))) (some 5)):=(Al.refl st).push _ _
 refine HO _ st K ⟨⟨by omega,by omega,by omega⟩,?_⟩
 rw[Int.toNat_natCast]at e0⊢
 refine⟨fun i m u st'=>(n:Int)=m/\.ms 1 st.nb 0 n n=u/\∃(k:Nat) (xs:List TV),i=k/\k<=n/\Al st st'/\st.nb<st'.nb/\st'.box st.nb= .cells xs/\xs.length=n/\xs.take k=List.replicate k (.int .u8 48),fun i _ _ _=>(n-i).toNat,
  ⟨rfl,rfl,0,FJ [.int .u8 0] (n*1),rfl,Nat.zero_le _,e0,by simp[St.push],by simp[St.push],by simp[FJ],rfl⟩,?_⟩
 rintro _ _ _ st1 ⟨rfl,rfl,k,xs,rfl,hkn,e1,hb,hbx,hxl,htk⟩
 refine Aa (fun g=>?_) fun g=>?_
 ·rw[Int.toNat_natCast,Af _ (by omega) (by omega)]
  refine⟨⟨by omega,by simp only[lenZ,Nat.beq_refl];omega⟩,?_⟩
  refine⟨xs,hbx,by simp only[List.length_cons,List.length_nil];omega,?_⟩
  have hset:setAll xs (0+k*1) [.int .u8 48]=xs.set k (.int .u8 48):=by simp[setAll]
  refine⟨⟨rfl,rfl,k+1,setAll xs (0+k*1) [.int .u8 48],by omega,by omega,StX.ext e1 (StX.put (S:=fun i=>i=st.nb) rfl _) (fun i hi=>by rw[hi];exact Nat.le_refl _),hb,by simp[St.put],by rw[Hn];exact hxl,?_⟩,by dsimp only;omega⟩
  rw[hset,List.take_set,List.replicate_succ',<-htk]
  rw[List.take_succ_eq_append_getElem (by omega),List.set_append_right _ _ (by simp;omega)]
  simp[show k-min k xs.length=0 by omega]
 ·have hkn2:k=n:=by omega
  subst hkn2
  rw[List.take_of_length_le (by omega)]at htk
  have hsl:SlR st1 1 (.ms 1 st.nb 0 k k) (zs k).length (AA (zs k)):=by
   rw[Lu,Z6,<-htk]
   exact SlR.of_box hb hbx hxl
  exact Ac (x:=TV.str (zs k)) (by rw[hsl.toBytes];rfl) (Ak (hk st1 e1))
theorem Cy (st:St) (b:Nat) (o:LZ):(st.put b o).box b=o:=by simp[St.put]
theorem GO (st:St) (o:LZ) (t:Option Nat):(st.push o t).box st.nb=o:=by simp[St.push]
theorem I9.set {st:St} {u:TV} {n i:Nat} {xs:List TV} {bs:List Nat} {x:TV} {K:St->Prop} (h:I9 st 1 u n xs bs) (hi:i<n) (hK:∀st',I9 st' 1 u n (xs.set i x) bs->StX (·∈bs) st st'->K st'):stB st (ixT 1 u i) [x] K:=by
 rcases h with⟨h0,_⟩ | ⟨b,cap,tail,rfl,h1,h2,h3,h4,h5,rfl⟩
 ·omega
 ·simp only[ixT,Nat.zero_add,Nat.mul_one,stB]
  have hl:(xs++tail).length=cap:=by omega
  rw[List.length_append]at hl
  refine⟨_,h2,by rw[List.length_append,List.length_singleton];omega,hK _ (.inr ⟨b,cap,tail,rfl,h1,?_,by rw[List.length_append,List.length_set];omega,by rw[List.length_set];exact h4,h5,rfl⟩) (StX.put (S:=(·∈ [b])) (.head _) _)⟩
  rw[Cy]
  simp only[setAll]
  rw[List.set_append_left _ _ (by omega)]
def BxB (st0 st:St) (u:TV) (l:B8):Prop:=∃bs,I9 st 1 u l.length (AA l) bs/\Al st0 st/\∀x,x∈bs->st0.nb<=x
theorem BxB.nil {st0 st:St} (e:Al st0 st):BxB st0 st .nilSlice []:=⟨[],I9.nil _ _,e,fun x hx=>by cases hx⟩
theorem BxB.rd {st0 st:St} {u:TV} {l:B8} (h:BxB st0 st u l):SlR st 1 u l.length (AA l):=by
 obtain⟨bs,h1,_⟩:=h;exact h1.rd
theorem BxB.ext {st0 st:St} {u:TV} {l:B8} (h:BxB st0 st u l):Al st0 st:=by
 obtain⟨bs,_,h2,_⟩:=h;exact h2
theorem BxB.app {st0 st:St} {u:TV} {l:B8} {c:UInt8} {x:TV} {K:TV->St->Prop} (h:BxB st0 st u l) (hx:x=FG c) (hl:l.length<=100000000) (hK:∀u' st',BxB st0 st' u' (l++[c])->K u' st'):OB 5 1 1 u 1 [x] st K:=by
 obtain⟨bs,h1,h2,h3⟩:=h
 subst hx
 refine Ym h1 (by omega) rfl (by omega) fun u' st' bs' ho e hb=>hK u' st' ⟨bs',?_,?_,?_⟩
 ·rw[List.length_append,List.length_singleton,<-Fu];exact ho
 ·exact StX.ext h2 e h3
 ·rcases hb with⟨rfl,_⟩ | rfl
  ·exact h3
  ·intro y hy;rw[List.mem_singleton.1 hy];exact h2.nb
theorem Wm (l:B8) (i:Nat) (c:UInt8):(AA l).set i (FG c)=AA (l.set i c):=by
 unfold AA;rw[List.map_set]
theorem BxB.set {st0 st:St} {u:TV} {l:B8} {i:Nat} {c:UInt8} {x:TV} {K:St->Prop} (h:BxB st0 st u l) (hx:x=FG c) (hi:i<l.length) (hK:∀st',BxB st0 st' u (l.set i c)->K st'):stB st (ixT 1 u i) [x] K:=by
 obtain⟨bs,h1,h2,h3⟩:=h
 subst hx
 refine h1.set hi fun st' ho e=>hK st' ⟨bs,?_,StX.ext h2 e h3,h3⟩
 rw[List.length_set,<-Wm];exact ho
theorem zrep_u8 (n:Nat):FJ [.int .u8 (0:Int)] (n*1)=AA (List.replicate n 0):=by
 unfold FJ AA
 rw[Nat.mul_one,List.map_replicate]
 refine List.ext_getElem (by simp) fun i h1 h2=>?_
 simp[FG,Nat.mod_one]
theorem BxB.make {st0 st:St} (e:Al st0 st) (n:Nat):BxB st0 (st.push (.cells (FJ [.int .u8 (0:Int)] (n*1))) (some 5)) (.ms 1 st.nb 0 n n) (List.replicate n 0):=by
 refine⟨[st.nb],.inr ⟨st.nb,n,[],by rw[List.length_replicate],by simp[St.push],?_,?_,?_,?_,rfl⟩,e.push _ _,fun x hx=>by rw[List.mem_singleton.1 hx];exact e.nb⟩
 ·rw[zrep_u8,List.append_nil,GO]
 ·rw[List.append_nil,Ee,List.length_replicate,Nat.mul_one]
 ·rw[Ee];omega
 ·rw[List.length_replicate];exact Nat.le_refl _
theorem W3 {c:UInt8} {f:Int->Prop} (h:f (c.toNat:Int)):Ag (.int .u8) (FG c) f:=AB h
theorem BxB.ld {st0 st:St} {u:TV} {l:B8} {i:Nat} (h:BxB st0 st u l) (hi:i<l.length):Ad st [] (.t (ixT 1 u i)) 0=some (FG l[i]):=h.rd.ldb hi
theorem BxB.str {st0 st:St} {u:TV} {l:B8} {K:B8->Prop} (h:BxB st0 st u l) (hk:K l):Ah ((toBytes st u).map TV.str) fun x=>Ag .str x K:=
 Ac (x:= .str l) (by rw[h.rd.toBytes];rfl) (Ak hk)
theorem Vm {st0 st:St} {u:TV} {l:B8} (hl:l.length<=100000000) (h:BxB st0 st u l) {K:St->Prop} (hk:∀st',BxB st0 st' u l.reverse->K st'):CallT PR EO [u] [] st K:=by
 refine L4 u st K (Ab h.rd.isSl ?_)
 rw[h.rd.lenS,Af _ (by omega) (by omega)]
 refine⟨fun i k b st'=>u=b/\∃(n:Nat) (m:B8),i=n/\k=(l.length:Int)-1-n/\2*n<=l.length+1/\m.length=l.length/\BxB st0 st' u m/\∀j,j<l.length->m.getD j 0=if j<n∨l.length-n<=j then l.getD (l.length-1-j) 0 else l.getD j 0,fun i _ _ _=>(l.length-i).toNat,⟨rfl,0,l,rfl,by omega,by omega,rfl,h,fun j hj=>by rw[if_neg (by omega)]⟩,?_⟩
 rintro _ _ _ st1 ⟨rfl,n,m,rfl,rfl,hn,hm,hb,hall⟩
 refine Aa (fun g=>?_) fun g=>hk _ ?_
 ·have hk':Int.toNat ((l.length:Int)-1-n)=l.length-1-n:=by omega
  have hr:=hb.rd
  have hnl:n<m.length:=by omega
  have hkl:l.length-1-n<m.length:=by omega
  rw[hr.lenZ,hk',Int.toNat_natCast]
  refine⟨⟨by omega,by omega⟩,Ac (hb.ld hkl) (W3 ⟨⟨by omega,by omega⟩,Ac (hb.ld hnl) (W3 ⟨⟨by omega,by omega⟩,hb.set (c:=m[l.length-1-n]) rfl hnl fun st2 hb2=>⟨⟨by omega,by omega⟩,hb2.set (c:=m[n]) rfl (by rw[List.length_set];exact hkl) fun st3 hb3=>?_⟩⟩)⟩)⟩
  rw[Af _ (by omega) (by omega),Af _ (by omega) (by omega)]
  refine⟨⟨rfl,n+1,_,by omega,by omega,by omega,by rw[List.length_set,List.length_set];exact hm,hb3,fun j hj=>?_⟩,by dsimp only;omega⟩
  have h1:=hall n (by omega)
  have h2:=hall (l.length-1-n) (by omega)
  rw[if_neg (by omega)]at h1 h2
  have e1:m.getD n 0=m[n]:=by rw[List.getD_eq_getElem?_getD,List.getElem?_eq_getElem hnl];rfl
  have e2:m.getD (l.length-1-n) 0=m[l.length-1-n]:=by rw[List.getD_eq_getElem?_getD,List.getElem?_eq_getElem hkl];rfl
  have e3:((m.set n m[l.length-1-n]).set (l.length-1-n) m[n]).getD j 0=if j=l.length-1-n then m[n]else if j=n then m[l.length-1-n]else m.getD j 0:=by
   rw[List.getD_eq_getElem?_getD,List.getElem?_set,List.getElem?_set]
   by_cases c1:j=l.length-1-n
   ·rw[if_pos c1.symm,if_pos c1,if_pos (by rw[List.length_set];omega)];rfl
   ·rw[if_neg (fun e=>c1 e.symm),if_neg c1]
    by_cases c2:j=n
    ·rw[if_pos c2.symm,if_pos c2,if_pos (by omega)];rfl
    ·rw[if_neg (fun e=>c2 e.symm),if_neg c2,List.getD_eq_getElem?_getD]
  rw[e3]
  by_cases c1:j=l.length-1-n
  ·rw[if_pos c1,if_pos (by omega),<-e1,h1];congr 1;omega
  ·rw[if_neg c1]
   by_cases c2:j=n
   ·rw[if_pos c2,if_pos (by omega),<-e2,h2];congr 1;omega
   ·rw[if_neg c2,hall j hj]
    by_cases c3:j<n∨l.length-n<=j
    ·rw[if_pos c3,if_pos (by omega)]
    ·rw[if_neg c3,if_neg (by omega)]
 ·have:m=l.reverse:=by
   refine List.ext_getElem (by simpa using hm) fun j h1 h2=>?_
   have:=hall j (by omega)
   rw[List.getD_eq_getElem?_getD,List.getElem?_eq_getElem h1,Option.getD_some]at this
   rw[this,List.getElem_reverse]
   by_cases c:j<n∨l.length-n<=j
   ·rw[if_pos c,List.getD_eq_getElem?_getD,List.getElem?_eq_getElem (by omega),Option.getD_some]
   ·rw[if_neg c,List.getD_eq_getElem?_getD,List.getElem?_eq_getElem (by omega),Option.getD_some]
    congr 1;omega
  rw[<-this];exact hb
theorem W2 {n:Nat} (x:Int) (h:x=n):u8.wrap (i64.wrap (48+x.tmod 10))=(((48+n%10).toUInt8.toNat:Nat):Int):=by
 subst h
 rw[Int.tmod_eq_emod_of_nonneg (by omega),Af _ (by omega) (by omega),OK _ (by omega),MN _ (by omega) (by omega)];omega
theorem VX {n:Nat} (hn:n<=9000000000000000000) {st:St} {K:B8->St->Prop} (hk:∀st',Al st st'->K (JF n) st'):CallT PR EP [.int .i64 (n:Int)] [.one .str] st K:=by
 have hlen:(JF n).length<=19:=Kn 19 n (by omega)
 refine L5 _ st K ⟨fun k b st'=>∃(m:Nat) (l:B8),k=m/\m<=n/\BxB st st' b l/\JF n=JF m++l.reverse,fun k _ _=>k.toNat,⟨n,[],rfl,Nat.le_refl _,BxB.nil (Al.refl _),by simp⟩,?_⟩
 rintro _ b st1 ⟨m,l,rfl,hm,hb,he⟩
 have hll:l.length<=19:=by rw[he,List.length_append,List.length_reverse]at hlen;omega
 refine Aa (fun g=>?_) fun g=>?_
 ·refine hb.app (c:=(48+m%10).toUInt8) (by rw[W2 _ rfl];rfl) (by omega) fun u' st2 hb2=>?_
  have hd:i64.wrap ((m:Int).tdiv 10)=((m/10:Nat):Int):=by rw[Int.tdiv_eq_ediv_of_nonneg (by omega),Af _ (by omega) (by omega)];omega
  rw[hd]
  refine⟨⟨m/10,_,rfl,by omega,hb2,?_⟩,by dsimp only;omega⟩
  rw[he,KP (by omega),List.reverse_append,List.reverse_singleton,List.append_assoc]
 ·have h0:m=0:=by omega
  subst h0
  rw[HX,List.nil_append]at he
  refine Vm (by omega) hb fun st2 hb2=>hb2.str ?_
  rw[<-he];exact hk _ hb2.ext
theorem N1 {n:Nat} (hn:n<=9000000000000000000) {st:St} {K:B8->St->Prop} (hk:K (JF n) st):CallT PR BO [.int .i64 (n:Int)] [.one .str] st K:=by
 have hlen:(JF n).length<=19:=Kn 19 n (by omega)
 refine HP _ st K ⟨fun k s st'=>st=st'/\∃m:Nat,k=m/\m<=n/\JF n=JF m++s,fun k _ _=>k.toNat,⟨rfl,n,rfl,Nat.le_refl _,by simp⟩,?_⟩
 rintro _ s _ ⟨rfl,m,rfl,hm,he⟩
 have hll:s.length<=19:=by rw[he,List.length_append]at hlen;omega
 refine Aa (fun g=>?_) fun g=>?_
 ·refine Ac (x:= .str [(48+m%10).toUInt8]) ?_ (Ak ⟨by rw[List.length_singleton];omega,?_⟩)
  ·rw[W2 _ rfl]
   show(EX [FG _]).map _=_
   have:=BH [(48+m%10).toUInt8]
   simp only[AA,List.map_cons,List.map_nil]at this
   rw[this];rfl
  ·have hd:i64.wrap ((m:Int).tdiv 10)=((m/10:Nat):Int):=by rw[Int.tdiv_eq_ediv_of_nonneg (by omega),Af _ (by omega) (by omega)];omega
   rw[hd]
   refine⟨⟨rfl,m/10,rfl,by omega,?_⟩,by dsimp only;omega⟩
   rw[he,KP (by omega),List.append_assoc]
 ·have h0:m=0:=by omega
  subst h0
  rw[HX,List.nil_append]at he
  rw[<-he];exact hk
theorem Tf {n:Nat} (hn:n<=9000000000000000000) {st:St} {K:B8->St->Prop} (hk:∀st',Al st st'->K (whN n) st'):CallT PR DU [.int .i64 (n:Int)] [.one .str] st K:=by
 unfold whN at hk
 refine MT _ st K (Aa (fun g=>?_) fun g=>VX hn fun st' e=>?_)
 ·have:=hk st (Al.refl _)
  rw[if_pos (by omega)]at this;exact this
 ·have:=hk st' e
  rw[if_neg (by omega)]at this;exact this
theorem N0 {n:Int} (h1: -1000000000<=n) (h2:n<=1000000000) {st:St} {K:B8->St->Prop} (hk:K (if n<0 then 45::whN n.natAbs else whN n.natAbs) st):CallT PR BY [.int .i64 n] [.one .str] st K:=by
 refine Im n st K (Aa (fun g=>?_) fun g=>Aa (fun g2=>?_) fun g2=>?_)
 ·rw[Af _ (by omega) (by omega),show(0:Int)-n=(n.natAbs:Nat) by omega]
  have hlen:(JF n.natAbs).length<=10:=Kn 10 _ (by omega)
  refine N1 (by omega) ⟨by show 1+_<=_;omega,?_⟩
  rw[if_pos g]at hk
  unfold whN at hk
  rw[if_neg (by omega)]at hk;exact hk
 ·subst g2;exact hk
 ·rw[if_neg g]at hk
  unfold whN at hk
  rw[if_neg (by omega)]at hk
  obtain⟨m,rfl⟩:∃m:Nat,n=m:=⟨n.natAbs,by omega⟩
  rw[Int.natAbs_natCast]at hk
  exact N1 (by omega) hk
theorem SF (p:Int):X7 p=if p<1 then 101::45::whN (1-p).toNat else 101::whN (p-1).toNat:=by
 unfold X7;split<;>rfl
def Iv (neg:Bool):B8:=if neg then [45]else []
theorem Po (neg:Bool):(Iv neg).length<=1:=by cases neg<;>decide
theorem KI {n:Nat} (h:n<10^18):(whN n).length<=18:=by
 unfold whN;split
 ·decide
 ·exact Kn 18 n h
theorem ZY {neg:Bool} {dg:B8} {ex:Int} (h:D2 neg dg ex) {st:St} {K:B8->St->Prop} (hk:∀st',Al st st'->K (dcT neg dg ex) st'):CallT PR El [.agg [.bool neg,.str dg,.int .i64 ex]] [.one .str] st K:=by
 have e0:=Al.refl st
 unfold dcT at hk
 by_cases hne:dg=[]
 ·rw[if_pos hne]at hk
  refine IX neg dg ex st K ⟨fun _ _ _ _=>False,Aa (fun _=>hk st e0) fun g=>absurd hne g,fun _ _ _ _ h=>h.elim⟩
 rw[if_neg hne]at hk
 obtain⟨h1,h2,h3,h4,h5,h6⟩:=h.2 hne
 have hpos:=List.length_pos_iff.2 hne
 have hs:=Po neg
 have hw:i64.wrap ((dg.length:Int)+ex)=dg.length+ex:=Af _ (by omega) (by omega)
 refine IX neg dg ex st K ⟨fun b s n st'=>neg=b/\dg=s/\ex=n/\st=st',Aa (fun g=>absurd g hne) fun _=>Oe (by omega) ?_,?_⟩
 ·rw[decide_eq_true h]
  exact⟨rfl,rfl,rfl,rfl⟩
 rintro _ _ _ _ ⟨rfl,rfl,rfl,rfl⟩
 refine⟨fun s b s1 n st'=>Iv neg=s/\neg=b/\dg=s1/\ex=n/\st=st',Aj (fun hb=>⟨by rw[hb];rfl,rfl,rfl,rfl,rfl⟩) fun hb=>⟨by rw[hb];rfl,rfl,rfl,rfl,rfl⟩,?_⟩
 rintro _ _ _ _ _ ⟨rfl,rfl,rfl,rfl,rfl⟩
 rw[hw]
 have hk':=hk
 rw[show(if neg=true then [45]else [])=Iv neg from rfl]at hk
 refine⟨fun s n p b s2 n2 st'=>Iv neg=s/\(dg.length:Int)=n/\(dg.length:Int)+ex=p/\dg=s2/\st=st'/\¬(0<=ex/\dg.length+ex<=21)/\¬(ex<0/\1<=dg.length+ex/\dg.length+ex<=21)/\¬(-5<=dg.length+ex/\dg.length+ex<=0),?_,?_⟩
 ·refine⟨fun b s n p b4 s3 n3 st'=>b=decide (0<=ex/\dg.length+ex<=21)/\Iv neg=s/\(dg.length:Int)=n/\(dg.length:Int)+ex=p/\dg=s3/\ex=n3/\st=st',?_,?_⟩
  ·refine Aa (fun g=>⟨?_,rfl,rfl,rfl,rfl,rfl,rfl⟩) fun g=>⟨?_,rfl,rfl,rfl,rfl,rfl,rfl⟩
   ·exact decide_eq_decide.2 ⟨fun g2=>⟨g,g2⟩,fun g2=>g2.2⟩
   ·exact(decide_eq_false fun g2=>g g2.1).symm
  rintro _ _ _ _ _ _ _ _ ⟨rfl,rfl,rfl,rfl,rfl,rfl,rfl⟩
  refine Aa (fun g=>?_) fun g=>?_
  ·rw[if_pos g]at hk
   obtain⟨g1,g2⟩:=g
   obtain⟨m,rfl⟩:∃m:Nat,ex=m:=⟨ex.toNat,by omega⟩
   refine⟨by omega,Rb (by omega) ⟨by rw[List.length_append,Lu];omega,?_⟩⟩
   have:=hk st e0
   rw[Int.toNat_natCast,<-List.append_assoc]at this
   exact this
  rw[if_neg g]at hk
  refine⟨fun b s n p b5 s5 n4 st'=>b=decide (ex<0/\1<=dg.length+ex/\dg.length+ex<=21)/\Iv neg=s/\(dg.length:Int)=n/\(dg.length:Int)+ex=p/\dg=s5/\ex=n4/\st=st',?_,?_⟩
  ·refine Aa (fun g1=>Aa (fun g2=>⟨?_,rfl,rfl,rfl,rfl,rfl,rfl⟩) fun g2=>⟨?_,rfl,rfl,rfl,rfl,rfl,rfl⟩) fun g1=>⟨?_,rfl,rfl,rfl,rfl,rfl,rfl⟩
   ·exact decide_eq_decide.2 ⟨fun g3=>⟨g1,g2,g3⟩,fun g3=>g3.2.2⟩
   ·exact(decide_eq_false fun g3=>g2 g3.2.1).symm
   ·exact(decide_eq_false fun g3=>g1 g3.1).symm
  rintro _ _ _ _ _ _ _ _ ⟨rfl,rfl,rfl,rfl,rfl,rfl,rfl⟩
  refine Aa (fun g2=>?_) fun g2=>?_
  ·rw[if_pos g2]at hk
   obtain⟨g3,g4,g5⟩:=g2
   have hlt:(List.take (Int.toNat ((dg.length:Int)+ex)) dg).length<=dg.length:=by rw[List.length_take];omega
   have hld:(List.drop (Int.toNat ((dg.length:Int)+ex)) dg).length<=dg.length:=by rw[List.length_drop];omega
   refine⟨⟨by omega,by omega⟩,by omega,by rw[List.length_append];show _+1<=_;omega,⟨by omega,by omega⟩,by simp only[List.length_append];show _+1+_<=_;omega,?_⟩
   have:=hk st e0
   rw[<-List.append_assoc,List.append_cons]at this
   exact this
  rw[if_neg g2]at hk
  refine Aa (fun g3=>Aa (fun g4=>?_) fun g4=>⟨rfl,rfl,rfl,rfl,rfl,g,g2,fun g5=>g4 g5.2⟩) fun g3=>⟨rfl,rfl,rfl,rfl,rfl,g,g2,fun g5=>g3 g5.1⟩
  rw[if_pos ⟨g3,g4⟩]at hk
  obtain⟨m,hm⟩:∃m:Nat,(0:Int)-((dg.length:Int)+ex)=m:=⟨(0-((dg.length:Int)+ex)).toNat,by omega⟩
  rw[Af _ (by omega) (by omega),hm]
  have hm2:(-((dg.length:Int)+ex)).toNat=m:=by omega
  rw[hm2]at hk
  refine⟨by show _+2<=_;omega,Rb (by omega) ⟨by rw[List.length_append,Lu];show _+2+_<=_;omega,by simp only[List.length_append,Lu];show _+2+_+_<=_;omega,?_⟩⟩
  have:=hk st e0
  rw[List.append_cons,List.append_cons,<-List.append_assoc,List.append_assoc (Iv neg)]at this
  exact this
 ·rintro _ _ _ _ _ _ _ ⟨rfl,rfl,rfl,rfl,rfl,g1,g2,g3⟩
  rw[if_neg g1,if_neg g2,if_neg g3,SF]at hk
  have ht1:(List.take (Int.toNat 1) dg).length=1:=by rw[List.length_take];omega
  have hd1:(List.drop (Int.toNat 1) dg).length<=dg.length:=by rw[List.length_drop];omega
  refine⟨⟨by omega,by omega⟩,by omega,fun s p st'=>Iv neg++(dg.take 1++(if 1<dg.length then 46::dg.drop 1 else []))=s/\(dg.length:Int)+ex=p/\st=st',?_,?_⟩
  ·refine Aa (fun g4=>⟨⟨by omega,by omega⟩,by show 1+_<=_;omega,by simp only[List.length_append];show _+(1+_)<=_;omega,?_,rfl,rfl⟩) fun g4=>⟨?_,rfl,rfl⟩
   ·rw[if_pos (by omega),List.append_assoc];rfl
   ·rw[if_neg (by omega),List.append_nil];rfl
  rintro s _ _ ⟨hs0,rfl,rfl⟩
  have hsl:s.length<=300:=by
   rw[<-hs0]
   have:(if 1<dg.length then 46::dg.drop 1 else []).length<=dg.length:=by
    split
    ·rw[List.length_cons,List.length_drop];omega
    ·simp
   simp only[List.length_append,List.length_take];omega
  refine Aa (fun g4=>?_) fun g4=>?_
  ·rw[if_pos g4]at hk
   obtain⟨m,hm⟩:∃m:Nat,(1:Int)-((dg.length:Int)+ex)=m:=⟨(1-((dg.length:Int)+ex)).toNat,by omega⟩
   have hwl:=KI (n:=m) (by omega)
   rw[Af _ (by omega) (by omega),hm]
   refine⟨by show _+2<=_;omega,Tf (by omega) fun st' e'=>⟨by rw[List.length_append];show _+2+_<=_;omega,?_⟩⟩
   have:=hk st' e'
   rw[<-List.append_assoc (dg.take 1),<-List.append_assoc (Iv neg),hs0,hm,Int.toNat_natCast,List.append_cons,List.append_cons,List.append_assoc s]at this
   exact this
  ·rw[if_neg g4]at hk
   obtain⟨m,hm⟩:∃m:Nat,((dg.length:Int)+ex)-1=m:=⟨(((dg.length:Int)+ex)-1).toNat,by omega⟩
   have hwl:=KI (n:=m) (by omega)
   rw[Af _ (by omega) (by omega),hm]
   refine⟨by show _+1<=_;omega,Tf (by omega) fun st' e'=>⟨by rw[List.length_append];show _+1+_<=_;omega,?_⟩⟩
   have:=hk st' e'
   rw[<-List.append_assoc (dg.take 1),<-List.append_assoc (Iv neg),hs0,hm,Int.toNat_natCast,List.append_cons]at this
   exact this
theorem XG {neg:Bool} {dg:B8} {ex:Int} (h:D2 neg dg ex) {st:St} {K:B8->St->Prop} (hk:∀st',Al st st'->K (dcT neg dg ex) st'):CallT PR Cu [.agg [.bool neg,.str dg,.int .i64 ex]] [.one .str] st K:=by
 have e0:=Al.refl st
 unfold dcT at hk
 by_cases hne:dg=[]
 ·rw[if_pos hne]at hk
  exact Fx neg dg ex st K (Aa (fun _=>hk st e0) fun g=>absurd hne g)
 rw[if_neg hne]at hk
 obtain⟨h1,h2,h3,h4,h5,h6⟩:=h.2 hne
 have hpos:=List.length_pos_iff.2 hne
 have hs:=Po neg
 have hw:i64.wrap ((dg.length:Int)+ex)=dg.length+ex:=Af _ (by omega) (by omega)
 refine Fx neg dg ex st K (Aa (fun g=>absurd g hne) fun _=>⟨fun s b s1 n st'=>Iv neg=s/\neg=b/\dg=s1/\ex=n/\st=st',Aj (fun hb=>⟨by rw[hb];rfl,rfl,rfl,rfl,rfl⟩) fun hb=>⟨by rw[hb];rfl,rfl,rfl,rfl,rfl⟩,?_⟩)
 rintro _ _ _ _ _ ⟨rfl,rfl,rfl,rfl,rfl⟩
 rw[hw]
 rw[show(if neg=true then [45]else [])=Iv neg from rfl]at hk
 have ht1:(List.take (Int.toNat 1) dg).length=1:=by rw[List.length_take];omega
 have hd1:(List.drop (Int.toNat 1) dg).length<=dg.length:=by rw[List.length_drop];omega
 refine⟨fun s p b s2 n2 st'=>Iv neg=s/\(dg.length:Int)+ex=p/\dg=s2/\ex=n2/\st=st'/\¬(0<=ex/\dg.length+ex<=21),?_,?_⟩
 ·refine Aa (fun g1=>Aa (fun g2=>?_) fun g2=>⟨rfl,rfl,rfl,rfl,rfl,fun g=>g2 g.2⟩) fun g1=>⟨rfl,rfl,rfl,rfl,rfl,fun g=>g1 g.1⟩
  rw[if_pos ⟨g1,g2⟩]at hk
  obtain⟨m,rfl⟩:∃m:Nat,ex=m:=⟨ex.toNat,by omega⟩
  refine⟨by omega,PG (by omega) fun st' e'=>⟨by rw[List.length_append,Lu];omega,?_⟩⟩
  have:=hk st' e'
  rw[Int.toNat_natCast,<-List.append_assoc]at this
  exact this
 rintro _ _ _ _ _ _ ⟨rfl,rfl,rfl,rfl,rfl,g⟩
 rw[if_neg g]at hk
 refine⟨fun s p b s2 n2 st'=>Iv neg=s/\(dg.length:Int)+ex=p/\dg=s2/\ex=n2/\st=st'/\¬(ex<0/\1<=dg.length+ex/\dg.length+ex<=21),?_,?_⟩
 ·refine Aa (fun g1=>Aa (fun g2=>Aa (fun g3=>?_) fun g3=>⟨rfl,rfl,rfl,rfl,rfl,fun g=>g3 g.2.2⟩) fun g2=>⟨rfl,rfl,rfl,rfl,rfl,fun g=>g2 g.2.1⟩) fun g1=>⟨rfl,rfl,rfl,rfl,rfl,fun g=>g1 g.1⟩
  rw[if_pos ⟨g1,g2,g3⟩]at hk
  have hlt:(List.take (Int.toNat ((dg.length:Int)+ex)) dg).length<=dg.length:=by rw[List.length_take];omega
  have hld:(List.drop (Int.toNat ((dg.length:Int)+ex)) dg).length<=dg.length:=by rw[List.length_drop];omega
  refine⟨⟨by omega,by omega⟩,by omega,by rw[List.length_append];show _+1<=_;omega,⟨by omega,by omega⟩,by simp only[List.length_append];show _+1+_<=_;omega,?_⟩
  have:=hk st e0
  rw[<-List.append_assoc,List.append_cons]at this
  exact this
 rintro _ _ _ _ _ _ ⟨rfl,rfl,rfl,rfl,rfl,g2⟩
 rw[if_neg g2]at hk
 refine⟨fun s p b s2 n2 st'=>Iv neg=s/\(dg.length:Int)+ex=p/\dg=s2/\st=st'/\¬(-5<=dg.length+ex/\dg.length+ex<=0),?_,?_⟩
 ·refine Aa (fun g3=>Aa (fun g4=>?_) fun g4=>⟨rfl,rfl,rfl,rfl,fun g=>g4 g.2⟩) fun g3=>⟨rfl,rfl,rfl,rfl,fun g=>g3 g.1⟩
  rw[if_pos ⟨g3,g4⟩]at hk
  obtain⟨m,hm⟩:∃m:Nat,(0:Int)-((dg.length:Int)+ex)=m:=⟨(0-((dg.length:Int)+ex)).toNat,by omega⟩
  rw[Af _ (by omega) (by omega),hm]
  have hm2:(-((dg.length:Int)+ex)).toNat=m:=by omega
  rw[hm2]at hk
  refine⟨by show _+2<=_;omega,PG (by omega) fun st' e'=>⟨by rw[List.length_append,Lu];show _+2+_<=_;omega,by simp only[List.length_append,Lu];show _+2+_+_<=_;omega,?_⟩⟩
  have:=hk st' e'
  rw[List.append_cons,List.append_cons,<-List.append_assoc,List.append_assoc (Iv neg)]at this
  exact this
 rintro _ _ _ _ _ _ ⟨rfl,rfl,rfl,rfl,g3⟩
 rw[if_neg g3,SF]at hk
 have hnum:∀st',Al st st'->(if (dg.length:Int)+ex-1<0 then 45::whN ((dg.length:Int)+ex-1).natAbs else whN ((dg.length:Int)+ex-1).natAbs)=(if (dg.length:Int)+ex<1 then 45::whN (1-((dg.length:Int)+ex)).toNat else whN ((dg.length:Int)+ex-1).toNat):=fun _ _=>by
  by_cases g5:(dg.length:Int)+ex<1
  ·rw[if_pos (by omega),if_pos g5,show((dg.length:Int)+ex-1).natAbs=(1-((dg.length:Int)+ex)).toNat by omega]
  ·rw[if_neg (by omega),if_neg g5,show((dg.length:Int)+ex-1).natAbs=((dg.length:Int)+ex-1).toNat by omega]
 have hn0:=hnum st e0
 have hnl:(if (dg.length:Int)+ex<1 then 45::whN (1-((dg.length:Int)+ex)).toNat else whN ((dg.length:Int)+ex-1).toNat).length<=19:=by
  split
  ·have:=KI (n:=(1-((dg.length:Int)+ex)).toNat) (by omega)
   rw[List.length_cons];omega
  ·have:=KI (n:=((dg.length:Int)+ex-1).toNat) (by omega)
   omega
 have hexp:(if (dg.length:Int)+ex<1 then 101::45::whN (1-((dg.length:Int)+ex)).toNat else 101::whN ((dg.length:Int)+ex-1).toNat)=101::(if (dg.length:Int)+ex<1 then 45::whN (1-((dg.length:Int)+ex)).toNat else whN ((dg.length:Int)+ex-1).toNat):=by split<;>rfl
 rw[hexp]at hk
 rw[Af ((dg.length:Int)+ex-1) (by omega) (by omega)]
 refine⟨⟨by omega,by omega⟩,by omega,Aa (fun g4=>?_) fun g4=>?_⟩
 ·rw[if_pos (by omega)]at hk
  refine⟨by rw[List.length_append];show _+1<=_;omega,⟨by omega,by omega⟩,by simp only[List.length_append];show _+1+_<=_;omega,by simp only[List.length_append];show _+1+_+1<=_;omega,N0 (by omega) (by omega) ?_⟩
  rw[hn0]
  refine⟨by simp only[List.length_append];show _+1+_+1+_<=_;omega,?_⟩
  have:=hk st e0
  generalize (if (dg.length:Int)+ex<1 then 45::whN (1-((dg.length:Int)+ex)).toNat else whN ((dg.length:Int)+ex-1).toNat)=X at this⊢
  have e:Iv neg++(dg.take 1++(46::dg.drop 1++101::X))=((((Iv neg++dg.take 1)++[46])++dg.drop 1)++[101])++X:=by simp only[List.append_assoc,List.cons_append,List.nil_append]
  rw[e]at this
  exact this
 ·rw[if_neg (by omega),List.nil_append]at hk
  refine⟨by rw[List.length_append];show _+1<=_;omega,N0 (by omega) (by omega) ?_⟩
  rw[hn0]
  refine⟨by simp only[List.length_append];show _+1+_<=_;omega,?_⟩
  have:=hk st e0
  rw[<-List.append_assoc,List.append_cons]at this
  exact this
def VG (y m:Nat):Nat:=if 1<=y/\y<=9999/\1<=m/\m<=12 then K8 y m else 0
theorem EG {y m:Nat} (h1:1<=y) (h2:y<=9999) (h3:1<=m) (h4:m<=12):VG y m=K8 y m:=if_pos ⟨h1,h2,h3,h4⟩
theorem Ok {y:Nat} {st:St} {K:Bool->St->Prop} (hk:K (decide (1<=y/\y<=9999)) st):CallT PR Dy [.int .i64 (y:Int)] [.one .bool] st K:=by
 refine L6 _ st K (Aa (fun g=>?_) fun g=>?_)
 ·exact B1 (decide_eq_decide.2 ⟨fun h=>by omega,fun h=>by omega⟩) hk
 ·rw[decide_eq_false (by omega)]at hk;exact hk
theorem Wl {y:Nat} (h1:1<=y) (h2:y<=9999) {st:St} {K:Bool->St->Prop} (hk:K (decide (N8 y)) st):CallT PR Fi [.int .i64 (y:Int)] [.one .bool] st K:=by
 refine MX _ st K (Ok ?_)
 rw[decide_eq_true ⟨h1,h2⟩,Int.tmod_eq_emod_of_nonneg (by omega),Int.tmod_eq_emod_of_nonneg (by omega),Int.tmod_eq_emod_of_nonneg (by omega)]
 unfold N8 at hk
 refine Aa (p:=True) (fun _=>Aa (fun g=>Aa (fun g2=>?_) fun g2=>?_) fun g=>?_) (fun h=>absurd trivial h)
 ·exact B1 (decide_eq_true (show y%4=0/\(y%100≠0∨y%400=0)from⟨by omega,.inl (by omega)⟩) |>.symm) hk
 ·exact B1 (decide_eq_decide.2 ⟨fun h=>⟨by omega,.inr (by omega)⟩,fun h=>by omega⟩) hk
 ·exact B1 (decide_eq_false (show ¬(y%4=0/\(y%100≠0∨y%400=0))from fun h=>by omega) |>.symm) hk
theorem days_ix:∀k:Nat,k<12->k≠1->(([.int .i64 31,.int .i64 28,.int .i64 31,.int .i64 30,.int .i64 31,.int .i64 30,.int .i64 31,.int .i64 31,.int .i64 30,.int .i64 31,.int .i64 30,.int .i64 31]:List TV)[(0+k*1)+0]?)=some (.int .i64 (if k+1=4∨k+1=6∨k+1=9∨k+1=11 then 30 else 31))
 | 0,_,_=>rfl
 | 1,_,h=>absurd rfl h
 | 2,_,_=>rfl
 | 3,_,_=>rfl
 | 4,_,_=>rfl
 | 5,_,_=>rfl
 | 6,_,_=>rfl
 | 7,_,_=>rfl
 | 8,_,_=>rfl
 | 9,_,_=>rfl
 | 10,_,_=>rfl
 | 11,_,_=>rfl
 | k+12,h,_=>by omega
theorem Ha {y m:Nat} (hm:m<=1000000) {st:St} {K:Int->St->Prop} (hk:K (VG y m:Nat) st):CallT PR AS [.int .i64 (y:Int),.int .i64 (m:Int)] [.one (.int .i64)] st K:=by
 unfold VG at hk
 refine L9 _ _ st K (Ok ?_)
 by_cases hy:1<=y/\y<=9999
 ·rw[decide_eq_true hy]
  refine Aa (p:=False) (fun h=>h.elim) fun _=>Aa (fun g=>?_) fun g=>Aa (fun g2=>?_) fun g2=>?_
  ·rw[if_neg (by omega)]at hk;exact hk
  ·rw[if_neg (by omega)]at hk;exact hk
  ·rw[if_pos (by omega)]at hk
   unfold K8 at hk
   rw[Af _ (by omega) (by omega)]
   refine Aa (fun g3=>Wl hy.1 hy.2 (Aa (fun g4=>?_) fun g4=>?_)) fun g3=>⟨⟨by omega,by omega⟩,?_⟩
   ·rw[if_pos (by omega),if_pos g4]at hk;exact hk
   ·rw[if_pos (by omega),if_neg g4]at hk
    refine⟨⟨by omega,by omega⟩,?_⟩
    have:m=2:=by omega
    subst this
    exact Ac (x:= .int .i64 28) rfl (AB hk)
   ·rw[if_neg (by omega)]at hk
    obtain⟨k,rfl⟩:∃k,m=k+1:=⟨m-1,by omega⟩
    rw[show(((k+1:Nat):Int)-1)=(k:Int) by omega,Int.toNat_natCast]
    refine Ac (days_ix k (by omega) (by omega)) (AB ?_)
    split
    ·rename_i h;rw[if_pos h]at hk;exact hk
    ·rename_i h;rw[if_neg h]at hk;exact hk
 ·rw[decide_eq_false hy]
  refine Aa (p:=True) (fun _=>?_) fun h=>absurd trivial h
  rw[if_neg (fun h=>hy ⟨h.1,h.2.1⟩)]at hk;exact hk
theorem G9 {y:Nat} (h1:1<=y) (h2:y<=1000000) {st:St} {K:Int->St->Prop} (hk:K (yrS y:Nat) st):CallT PR BP [.int .i64 (y:Int)] [.one (.int .i64)] st K:=by
 refine L7 _ st K ?_
 obtain⟨k,rfl⟩:∃k,y=k+1:=⟨y-1,by omega⟩
 unfold yrS at hk
 rw[Nat.add_sub_cancel]at hk
 rw[show(((k+1:Nat):Int)-1)=(k:Int) by omega,Af (k:Int) (by omega) (by omega),Int.tdiv_eq_ediv_of_nonneg (by omega),Int.tdiv_eq_ediv_of_nonneg (by omega),Int.tdiv_eq_ediv_of_nonneg (by omega)]
 rw[Af (365*(k:Int)) (by omega) (by omega),Af ((k:Int)/4) (by omega) (by omega),Af ((k:Int)/100) (by omega) (by omega),Af ((k:Int)/400) (by omega) (by omega),Af (365*(k:Int)+(k:Int)/4) (by omega) (by omega),Af (365*(k:Int)+(k:Int)/4-(k:Int)/100) (by omega) (by omega),Af _ (by omega) (by omega)]
 have e:(((365*k+k/4-k/100+k/400:Nat):Nat):Int)=365*(k:Int)+(k:Int)/4-(k:Int)/100+(k:Int)/400:=by omega
 rw[e]at hk;exact hk
theorem Og {n y:Nat} (hy:1<=y) (hy2:y<=9999) (h1:yrS y<=n) (h2:n<yrS (y+1)) (hn:n<=3652058) {st:St} {K:Int->Int->Int->Int->St->Prop} (hk:∀m d:Nat,HG n y m d->K y m d 0 st):
  ∃(I2:Int->Int->Int->St->Prop) (M2:Int->Int->Int->St->Nat),(I2 1 (i64.wrap ((n:Int)-(yrS y:Nat))) (y:Int) st)/\∀(month_1:Int) (rest_1:Int) (year_2:Int) (st5:St),I2 month_1 rest_1 year_2 st5->(
   CallT PR AS [.int .i64 year_2,.int .i64 month_1] [.one (.int .i64)] st5 (fun (n3:Int) (st6:St)=>BIf (decide (n3<=rest_1)) (
    CallT PR AS [.int .i64 year_2,.int .i64 month_1] [.one (.int .i64)] st6 (fun (n4:Int) (st7:St)=>(I2 (i64.wrap (month_1+1)) (i64.wrap (rest_1-n4)) year_2 st7/\M2 (i64.wrap (month_1+1)) (i64.wrap (rest_1-n4)) year_2 st7<M2 month_1 rest_1 year_2 st5)))
    (K year_2 month_1 (i64.wrap (rest_1+1)) 0 st6))):=by
 rw[Af _ (by omega) (by omega)]
 refine⟨fun mo re ye st'=>(y:Int)=ye/\st=st'/\∃m:Nat,mo=m/\1<=m/\m<=12/\re=((n-yrS y-EH y m:Nat):Int)/\EH y m<=n-yrS y,fun mo _ _ _=>(13-mo).toNat,⟨rfl,rfl,1,rfl,by omega,by omega,by show _=((n-yrS y-0:Nat):Int);omega,Nat.zero_le _⟩,?_⟩
 rintro _ _ _ _ ⟨rfl,rfl,m,rfl,hm1,hm2,rfl,hm3⟩
 refine Ha (by omega) ?_
 rw[EG hy hy2 hm1 hm2]
 have hs:=DS y hm1
 have hle:=Fn y m
 refine Aa (fun g=>Ha (by omega) ?_) fun g=>?_
 ·rw[EG hy hy2 hm1 hm2,Af _ (by omega) (by omega),Af _ (by omega) (by omega)]
  have hm:m≠12:=fun e=>by
   subst e
   rw[JJ hy]at h2;omega
  exact⟨⟨rfl,rfl,m+1,by omega,by omega,by omega,by rw[hs];omega,by rw[hs];omega⟩,by dsimp only;omega⟩
 ·rw[Af _ (by omega) (by omega)]
  have:=hk m (n-yrS y-EH y m+1) ⟨hy,hy2,hm1,hm2,by omega,by omega,by omega⟩
  exact this
theorem date_ok {n:Nat} (hn:n<=3652058) {st:St} {K:Int->Int->Int->Int->St->Prop} (hk:∀y m d:Nat,HG n y m d->K y m d 0 st):CallT PR Fj [.int .i64 (n:Int)] [.one (.int .i64),.one (.int .i64),.one (.int .i64),.one (.int .i64)] st K:=by
 refine MY _ st K (L8 _ st _ (Aa (fun _=>?_) fun g=>by omega))
 rw[decide_eq_true (by omega)]
 refine Aa (p:=False) (fun h=>h.elim) fun _=>?_
 rw[Int.tdiv_eq_ediv_of_nonneg (by omega),Af ((n:Int)/366) (by omega) (by omega),Af _ (by omega) (by omega)]
 refine⟨fun ye n1 st'=>(n:Int)=n1/\st=st'/\∃y:Nat,ye=y/\1<=y/\y<=9999/\yrS y<=n,fun ye _ _=>(10000-ye).toNat,⟨rfl,rfl,n/366+1,by omega,by omega,by omega,by unfold yrS;rw[Nat.add_sub_cancel];omega⟩,?_⟩
 rintro ye _ _ ⟨rfl,rfl,y,hye,hy1,hy2,hy3⟩
 refine Aa (fun g=>?_) fun g=>?_<;>subst hye
 ·rw[Af _ (by omega) (by omega),show((y:Int)+1)=((y+1:Nat):Int) by omega]
  refine G9 (by omega) (by omega) (Aa (fun g2=>⟨⟨rfl,rfl,y+1,rfl,by omega,by omega,by omega⟩,by dsimp only;omega⟩) fun g2=>G9 hy1 (by omega) ?_)
  exact Og hy1 hy2 hy3 (by omega) hn fun m d hd=>hk y m d hd
 ·refine G9 hy1 (by omega) ?_
  have:y=9999:=by omega
  have h10:yrS (y+1)=3652059:=by rw[this];rfl
  exact Og hy1 hy2 hy3 (by omega) hn fun m d hd=>hk y m d hd
theorem YZ {y:Nat} (h1:1<=y) (h2:y<=9999) {st:St} {K:Bool->St->Prop} (hk:K (decide (N8 y)) st):CallT PR Bg [.int .i64 (y:Int)] [.one .bool] st K:=by
 refine J2 _ st K (Aa (fun _=>Aa (fun _=>?_) fun g=>by omega) fun g=>by omega)
 rw[Int.tmod_eq_emod_of_nonneg (by omega),Int.tmod_eq_emod_of_nonneg (by omega),Int.tmod_eq_emod_of_nonneg (by omega)]
 unfold N8 at hk
 refine Aa (fun g=>Aa (fun g2=>?_) fun g2=>?_) fun g=>?_
 ·exact B1 (decide_eq_true (show y%4=0/\(y%100≠0∨y%400=0)from⟨by omega,.inl (by omega)⟩) |>.symm) hk
 ·exact B1 (decide_eq_decide.2 ⟨fun h=>⟨by omega,.inr (by omega)⟩,fun h=>by omega⟩) hk
 ·exact B1 (decide_eq_decide.2 ⟨fun h=>by omega,fun h=>by omega⟩) hk
theorem HV {y m:Nat} (hm:m<=1000000) {st:St} {K:Int->St->Prop} (hk:K (VG y m:Nat) st):CallT PR AY [.int .i64 (y:Int),.int .i64 (m:Int)] [.one (.int .i64)] st K:=by
 unfold VG at hk
 refine Jt _ _ st K (Aa (fun g=>?_) fun g=>Aa (fun g2=>?_) fun g2=>?_)
 ·rw[if_neg (by omega)]at hk;exact hk
 ·rw[if_neg (by omega)]at hk;exact hk
 refine⟨fun b y' m' st'=>b=decide (m=1∨m=3∨m=5∨m=7∨m=8∨m=10∨m=12)/\(y:Int)=y'/\(m:Int)=m'/\st=st',?_,?_⟩
 ·refine Aa (fun g=>⟨decide_eq_decide.2 (by omega),rfl,rfl,rfl⟩) fun g=>Aa (fun g=>⟨decide_eq_decide.2 (by omega),rfl,rfl,rfl⟩) fun g=>Aa (fun g=>⟨decide_eq_decide.2 (by omega),rfl,rfl,rfl⟩) fun g=>
   Aa (fun g=>⟨decide_eq_decide.2 (by omega),rfl,rfl,rfl⟩) fun g=>Aa (fun g=>⟨decide_eq_decide.2 (by omega),rfl,rfl,rfl⟩) fun g=>Aa (fun g=>⟨decide_eq_decide.2 (by omega),rfl,rfl,rfl⟩) fun g=>⟨decide_eq_decide.2 (by omega),rfl,rfl,rfl⟩
 rintro _ _ _ _ ⟨rfl,rfl,rfl,rfl⟩
 unfold K8 at hk
 have two:∀{x y:Int->St->Prop},True:=fun {_ _}=>trivial
 have t30:(m=4∨m=6∨m=9∨m=11)->K 30 st:=fun h=>by
  rw[if_pos (by omega),if_neg (by omega),if_pos h]at hk;exact hk
 have tz:¬(1<=m/\m<=12)->K 0 st:=fun h=>by
  rw[if_neg (by omega)]at hk;exact hk
 refine Aa (fun g3=>?_) fun g3=>?_
 ·rw[if_pos (by omega),if_neg (by omega),if_neg (by omega)]at hk;exact hk
 ·refine Aa (fun g4=>Aa (fun _=>t30 (by omega)) fun h=>absurd g4 h) fun g4=>Aa (fun g5=>Aa (fun _=>t30 (by omega)) fun h=>absurd g5 h) fun g5=>Aa (fun g6=>Aa (fun _=>t30 (by omega)) fun h=>absurd g6 h) fun g6=>Aa (fun g7=>t30 (by omega)) fun g7=>Aa (fun g8=>?_) fun g8=>tz (by omega)
  rw[if_pos (by omega),if_pos (by omega)]at hk
  refine YZ (by omega) (by omega) (Aa (fun g9=>?_) fun g9=>?_)
  ·rw[if_pos g9]at hk;exact hk
  ·rw[if_neg g9]at hk;exact hk
theorem KQ (y:Nat):∀m,EH y m<=31*m
 | 0=>Nat.le_refl _
 | 1=>Nat.zero_le _
 | m+2=>by
  have:=KQ y (m+1)
  have:=Fn y (m+1)
  simp only[EH];omega
theorem LG {y:Nat} (h1:1<=y) (h2:y<=9999) {st:St} {K:Int->St->Prop} (hk:K (EH y 12+K8 y 12:Nat) st):CallT PR Bm [.int .i64 (y:Int)] [.one (.int .i64)] st K:=by
 refine Ii _ st K ⟨fun n mo ye st'=>(y:Int)=ye/\st=st'/\∃m:Nat,mo=m/\1<=m/\m<=13/\n=(EH y m:Nat),fun _ mo _ _=>(13-mo).toNat,⟨rfl,rfl,1,rfl,by omega,by omega,rfl⟩,?_⟩
 rintro _ _ _ _ ⟨rfl,rfl,m,rfl,hm1,hm2,rfl⟩
 have hle:=KQ y m
 refine Aa (fun g=>HV (by omega) ?_) fun g=>?_
 ·have:=Fn y m
  rw[EG h1 h2 hm1 (by omega),Af _ (by omega) (by omega),Af _ (by omega) (by omega)]
  exact⟨⟨rfl,rfl,m+1,by omega,by omega,by omega,by rw[DS y hm1];omega⟩,by dsimp only;omega⟩
 ·have:m=13:=by omega
  subst this
  rw[DS y (by omega)];exact hk
theorem Y0 {n:Nat} (hn:n<=3652058) {st:St} {K:Int->Int->Int->Int->St->Prop} (hk:∀y m d:Nat,HG n y m d->K y m d 0 st):CallT PR DK [.int .i64 (n:Int)] [.one (.int .i64),.one (.int .i64),.one (.int .i64),.one (.int .i64)] st K:=by
 refine J3 _ st K (Lx _ st _ (Aa (fun _=>?_) fun g=>by omega))
 rw[decide_eq_true (by omega)]
 refine Aa (p:=False) (fun h=>h.elim) fun _=>?_
 refine⟨fun n1 ye mo st'=>mo=1/\st=st'/\∃y:Nat,ye=y/\1<=y/\y<=9999/\yrS y<=n/\n1=((n-yrS y:Nat):Int),fun _ ye _ _=>(10000-ye).toNat,⟨rfl,rfl,1,rfl,by omega,by omega,Nat.zero_le _,by show _=((n-0:Nat):Int);omega⟩,?_⟩
 rintro _ _ _ _ ⟨rfl,rfl,y,rfl,hy1,hy2,hy3,rfl⟩
 have hss:=JJ hy1
 have hle:=KQ y 12
 have hle2:=Fn y 12
 refine LG hy1 hy2 (Aa (fun g=>LG hy1 hy2 ?_) fun g=>?_)
 ·rw[Af _ (by omega) (by omega),Af _ (by omega) (by omega)]
  have h9:y≠9999:=fun e=>by
   subst e
   have:yrS (9999+1)=3652059:=rfl
   omega
  exact⟨⟨rfl,rfl,y+1,by omega,by omega,by omega,by omega,by omega⟩,by dsimp only;omega⟩
 ·refine⟨fun re mo ye st'=>(y:Int)=ye/\st=st'/\∃m:Nat,mo=m/\1<=m/\m<=12/\re=((n-yrS y-EH y m:Nat):Int)/\EH y m<=n-yrS y,fun _ mo _ _=>(13-mo).toNat,⟨rfl,rfl,1,rfl,by omega,by omega,by show _=((n-yrS y-0:Nat):Int);omega,Nat.zero_le _⟩,?_⟩
  rintro _ _ _ _ ⟨rfl,rfl,m,rfl,hm1,hm2,rfl,hm3⟩
  refine HV (by omega) ?_
  rw[EG hy1 hy2 hm1 hm2]
  have hs:=DS y hm1
  have hle:=Fn y m
  refine Aa (fun g=>HV (by omega) ?_) fun g=>?_
  ·rw[EG hy1 hy2 hm1 hm2,Af _ (by omega) (by omega),Af _ (by omega) (by omega)]
   have hm:m≠12:=fun e=>by subst e;omega
   exact⟨⟨rfl,rfl,m+1,by omega,by omega,by omega,by rw[hs];omega,by rw[hs];omega⟩,by dsimp only;omega⟩
  ·rw[Af _ (by omega) (by omega)]
   exact hk y m (n-yrS y-EH y m+1) ⟨hy1,hy2,hm1,hm2,by omega,by omega,by omega⟩
def TR (r:Nat) (st:St):Option B8->Prop
 | some s=>r<st.nb/\st.box r= .cells [.str s,.bool false]/\s.length<=1000000
 | none=>r<st.nb/\∃s,st.box r= .cells [.str s,.bool true]/\s.length<=1000000
theorem TR.get {r:Nat} {st:St} {S:Option B8} (h:TR r st S):r<st.nb/\∃s,st.box r= .cells [.str s,.bool S.isNone]/\s.length<=1000000/\(∀x,S=some x->s=x):=by
 cases S with
 | none=>obtain⟨h1,s,h2,h3⟩:=h;exact⟨h1,s,h2,h3,fun x hx=>by cases hx⟩
 | some s=>obtain⟨h1,h2,h3⟩:=h;exact⟨h1,s,h2,h3,fun x hx=>by cases hx;rfl⟩
def TM (r f:Nat) (st:St) (S:Option B8) (l:List TV):Prop:=TR r st S/\f<st.nb/\st.box f= .cells l/\r≠f
theorem LB {r:Nat} {st:St} {s:B8} {b:Bool} (h:st.box r= .cells [.str s,.bool b]) (hr:r<st.nb) (hl:s.length<=1000000) {K:St->Prop} (hk:∀st',StX (·=r) st st'->TR r st' none->K st'):
  stB st (.box r 1) [.bool true] K:=
 ⟨_,h,by simp,hk _ (StX.put (S:=(·=r)) rfl _) ⟨hr,s,by simp[St.put,setAll],hl⟩⟩
theorem M0 {r:Nat} {st:St} {s t:B8} {S:Option B8} (h:TR r st S) (ht:t.length<=1000000) {K:St->Prop} (hk:∀st',StX (·=r) st st'->TR r st' (S.map fun _=>t)->K st'):
  stB st (.box r 0) [.str t] K:=by
 obtain⟨hr,s,hb,hl,_⟩:=h.get
 refine⟨_,hb,by simp,hk _ (StX.put (S:=(·=r)) rfl _) ?_⟩
 cases S with
 | none=>exact⟨hr,t,by simp[St.put,setAll],ht⟩
 | some x=>exact⟨hr,by simp[St.put,setAll],ht⟩
def K7 (w:Nat) (s:B8):Prop:=w<=s.length/\∀i,i<w->AK (s.getD i 0)
instance (w:Nat) (s:B8):Decidable (K7 w s):=inferInstanceAs (Decidable (_/\_))
def La (w:Nat) (S:Option B8) (n:Nat) (T:Option B8):Prop:=match S with
 | none=>T=none
 | some s=>if K7 w s then T=some (s.drop w)/\n=BJ (s.take w)else T=none
theorem Q1 {l:B8} {w:Nat} (hw:w<=l.length) (h:∀i,i<w->AK (l.getD i 0)):BJ (l.take w)<10^w:=by
 have h1:=KJ (l.take w) fun c hc=>by
  obtain⟨i,hi⟩:=List.getElem?_of_mem hc
  have hl:=(List.getElem?_eq_some_iff.1 hi).1
  rw[List.length_take]at hl
  rw[List.getElem?_take,if_pos (by omega)]at hi
  have:=h i (by omega)
  rwa [List.getD,hi]at this
 rwa [List.length_take,Nat.min_eq_left hw]at h1
theorem GW {r:Nat} {w:Nat} (hw:w<=9) {st:St} {S:Option B8} (h:TR r st S) {K:Int->St->Prop} (hk:∀(n:Nat) st' T,n<10^w->StX (·=r) st st'->TR r st' T->La w S n T->K (n:Nat) st'):
  CallT PR Ax [.box r 0,.int .i64 (w:Nat)] [.one (.int .i64)] st K:=by
 obtain⟨hr,s,hb,hl,hx⟩:=h.get
 have hs:Ad st [] (.t (.box r 0)) 0=some (.str s):=by simp[Ad,hb]
 have p10:0<10^w:=Nat.pow_pos (by decide)
 have p18:10^w<=10^9:=Nat.pow_le_pow_right (by decide) hw
 have bad:¬K7 w s->∀st',StX (·=r) st st'->TR r st' none->K ((0:Nat):Int) st':=fun hn st' e h'=>hk 0 st' none p10 e h' (by
  cases S with
  | none=>rfl
  | some x=>rw[<-hx x rfl];show(if K7 w s then _ else _);rw[if_neg hn])
 refine HL r _ st K (Ac hs (Ak (Aa (fun g=>LB hb hr hl (bad fun h=>by have:=h.1;omega)) fun g=>?_)))
 refine⟨fun n i p w' m st'=> .box r 0=p/\((w:Nat):Int)=w'/\((w:Nat):Int)=m/\st=st'/\∃k:Nat,i=k/\k<=w/\n=(BJ (s.take k):Nat)/\∀j,j<k->AK (s.getD j 0),fun _ i _ _ _ _=>(w-i).toNat,⟨rfl,rfl,rfl,rfl,0,rfl,Nat.zero_le _,rfl,fun j h=>absurd h (Nat.not_lt_zero _)⟩,?_⟩
 rintro _ _ _ _ _ _ ⟨rfl,rfl,rfl,rfl,k,rfl,hkw,rfl,hd⟩
 rw[Int.toNat_natCast]
 have hv:=Q1 (l:=s) (w:=k) (by omega) hd
 have p1:10^k<=10^9:=Nat.pow_le_pow_right (by decide) (by omega)
 refine Aa (fun g1=>Ab rfl (Ab rfl (Ac hs (Ak ⟨⟨by omega,by omega⟩,Aa (fun g2=>?_) fun g2=>Ab rfl (Ab rfl (Ac hs (Ak ⟨⟨by omega,by omega⟩,Aa (fun g3=>?_) fun g3=>?_⟩)))⟩)))) fun g1=>?_
 ·exact Ab rfl (Ab rfl (LB hb hr hl (bad fun h=>by have:=(h.2 k (by omega)).1;omega)))
 ·exact Ab rfl (Ab rfl (LB hb hr hl (bad fun h=>by have:=(h.2 k (by omega)).2;omega)))
 ·refine Ab rfl (Ab rfl (Ac hs (Ak ⟨⟨by omega,by omega⟩,?_⟩)))
  have hsn:=HQ (l:=s) (k:=k) (by omega)
  rw[MN _ (by omega) (by omega),Af (10*_) (by omega) (by omega),Af (((s.getD k 0).toNat:Int)-48) (by omega) (by omega),Af (_+_) (by omega) (by omega),Af _ (by omega) (by omega)]
  refine⟨⟨rfl,rfl,rfl,rfl,k+1,by omega,by omega,by rw[hsn];omega,fun j hj=>?_⟩,by dsimp only;omega⟩
  by_cases hjk:j=k
  ·subst hjk;exact⟨by omega,by omega⟩
  ·exact hd j (by omega)
 ·have hkk:k=w:=by omega
  subst hkk
  refine Ab rfl (Ab rfl (Ac hs (Ak ⟨⟨by omega,by omega⟩,Ab rfl (Ab rfl (M0 (s:=s) h (by rw[List.length_drop];omega) fun st' e h'=>hk _ st' _ hv e h' ?_))⟩)))
  cases S with
  | none=>rfl
  | some x=>
   obtain rfl:=hx x rfl
   show(if K7 k s then _ else _)
   rw[if_pos ⟨by omega,hd⟩]
   exact⟨rfl,rfl⟩
def OC (of:B8) (S:Option B8) (c:Nat) (T:Option B8):Prop:=match S with
 | none=>T=none
 | some s=>if s.getD 0 0∈of then T=some (s.drop 1)/\c=(s.getD 0 0).toNat else T=none
theorem GV {r:Nat} {of:B8} (hof:(0:UInt8)∉of) (hlo:of.length<=100) {st:St} {S:Option B8} (h:TR r st S) {K:Int->St->Prop} (hk:∀(n:Nat) st' T,n<256->StX (·=r) st st'->TR r st' T->OC of S n T->K (n:Nat) st'):
  CallT PR AE [.box r 0,.str of] [.one (.int .u8)] st K:=by
 obtain⟨hr,s,hb,hl,hx⟩:=h.get
 have hs:Ad st [] (.t (.box r 0)) 0=some (.str s):=by simp[Ad,hb]
 have bad:s.getD 0 0∉of->∀st',StX (·=r) st st'->TR r st' none->K ((0:Nat):Int) st':=fun hn st' e h'=>hk 0 st' none (by decide) e h' (by
  cases S with
  | none=>rfl
  | some x=>rw[<-hx x rfl];show(if s.getD 0 0∈of then _ else _);rw[if_neg hn])
 refine JN r of st K (Ac hs (Ak (Aa (fun g=>?_) fun g=>?_)))
 ·have hpos:0<s.length:=List.length_pos_iff.2 g
  refine⟨fun i p of' m st'=> .box r 0=p/\of=of'/\(of.length:Int)=m/\st=st'/\∃k:Nat,i=k/\k<=of.length/\∀j,j<k->of.getD j 0≠s.getD 0 0,fun i _ _ _ _=>(of.length-i).toNat,⟨rfl,rfl,rfl,rfl,0,rfl,Nat.zero_le _,fun j h=>absurd h (Nat.not_lt_zero _)⟩,?_⟩
  rintro _ _ _ _ _ ⟨rfl,rfl,rfl,rfl,k,rfl,hkw,hd⟩
  rw[Int.toNat_natCast]
  refine Aa (fun g1=>Ab rfl (Ab rfl (Ac hs (Ak ⟨⟨by omega,by omega⟩,⟨by omega,g1⟩,Aa (fun g2=>?_) fun g2=>?_⟩)))) fun g1=>?_
  ·have g2':s.getD 0 0=of.getD k 0:=UInt8.toNat_inj.1 (Int.ofNat.inj g2)
   have hmem:s.getD 0 0∈of:=by rw[g2'];exact GB (by omega)
   refine Ab rfl (Ab rfl (Ac hs (Ak ⟨⟨by omega,by omega⟩,Ab rfl (Ab rfl (M0 (s:=s) h (by rw[List.length_drop];omega) fun st' e h'=>⟨⟨by omega,g1⟩,hk _ st' _ (UInt8.toNat_lt _) e h' ?_⟩))⟩)))
   cases S with
   | none=>rfl
   | some x=>
    obtain rfl:=hx x rfl
    show(if s.getD 0 0∈of then _ else _)
    rw[if_pos hmem]
    exact⟨rfl,by rw[g2']⟩
  ·rw[Af _ (by omega) (by omega)]
   refine⟨⟨rfl,rfl,rfl,rfl,k+1,by omega,by omega,fun j hj=>?_⟩,by dsimp only;omega⟩
   by_cases hjk:j=k
   ·subst hjk;exact fun e=>g2 (by rw[e];rfl)
   ·exact hd j (by omega)
  ·refine Ab rfl (Ab rfl (LB hb hr hl (bad fun hm=>?_)))
   obtain⟨i,hi,he⟩:=List.getElem_of_mem hm
   exact hd i (by omega) (by rw[<-he];simp[List.getD,hi])
 ·have g0:s=[]:=Decidable.not_not.1 g
  exact LB hb hr hl (bad (by rw[g0];exact hof))
def FracS (S:Option B8) (n:Nat) (T:Option B8):Prop:=match S with
 | none=>T=none
 | some s=>if Au s=[]∨9<(Au s).length then T=none else T=some (s.drop (Au s).length)/\n=MB (Au s)
theorem Tl (l:B8):∀k,BJ (l++List.replicate k 48)=BJ l*10^k
 | 0=>by simp
 | k+1=>by
  rw[List.replicate_succ',<-List.append_assoc]
  have:=Tl l k
  unfold BJ at this⊢
  rw[Pb,this,Nat.pow_succ]
  show 10*(Gs 0 l*10^k)+(48-48)=_
  have e:10*(Gs 0 l*10^k)=Gs 0 l*(10^k*10):=by rw[Nat.mul_left_comm,Nat.mul_comm 10]
  rw[e];rfl
theorem PB {n k:Nat} (hk:k<=9) (hn:n<10^k) {st:St} {K:Int->St->Prop} (h:K (n*10^(9-k):Nat) st):
  ∃(I:Int->Int->St->Prop) (M:Int->Int->St->Nat),I (n:Nat) (k:Nat) st/\∀(n2 k2:Int) (st5:St),I n2 k2 st5->BIf (decide (k2<9)) (I (i64.wrap (n2*10)) (i64.wrap (k2+1)) st5/\M (i64.wrap (n2*10)) (i64.wrap (k2+1)) st5<M n2 k2 st5) (K n2 st5):=by
 refine⟨fun n2 k2 st5=>st=st5/\∃j:Nat,k2=j/\j<=9/\∃m:Nat,n2=m/\m<10^j/\m*10^(9-j)=n*10^(9-k),fun _ k2 _=>(9-k2).toNat,⟨rfl,k,rfl,hk,n,rfl,hn,rfl⟩,?_⟩
 rintro _ _ _ ⟨rfl,j,rfl,hj,m,rfl,hm,he⟩
 have p9:10^j<=10^9:=Nat.pow_le_pow_right (by decide) hj
 refine Aa (fun g=>?_) fun g=>?_
 ·rw[Af _ (by omega) (by omega),Af _ (by omega) (by omega)]
  refine⟨⟨rfl,j+1,by omega,by omega,m*10,by omega,by rw[Nat.pow_succ];omega,?_⟩,by dsimp only;omega⟩
  rw[<-he,Nat.mul_assoc,show 9-j=(9-(j+1))+1 by omega,Nat.pow_succ,Nat.mul_comm 10]
 ·have:j=9:=by omega
  subst this
  rw[Nat.sub_self,Nat.pow_zero,Nat.mul_one]at he
  rw[<-he]at h;exact h
theorem YC {r:Nat} {st:St} {S:Option B8} (h:TR r st S) {K:Int->St->Prop} (hk:∀(n:Nat) st' T,n<1000000000->StX (·=r) st st'->TR r st' T->FracS S n T->K (n:Nat) st'):
  CallT PR Ck [.box r 0] [.one (.int .i64)] st K:=by
 obtain⟨hr,s,hb,hl,hx⟩:=h.get
 have hs:Ad st [] (.t (.box r 0)) 0=some (.str s):=by simp[Ad,hb]
 have bad:(Au s=[]∨9<(Au s).length)->∀st',StX (·=r) st st'->TR r st' none->K ((0:Nat):Int) st':=fun hn st' e h'=>hk 0 st' none (by decide) e h' (by
  cases S with
  | none=>rfl
  | some x=>rw[<-hx x rfl];show(if Au s=[]∨9<(Au s).length then _ else _);rw[if_pos hn])
 refine GR r st K ⟨fun n i p st'=> .box r 0=p/\st=st'/\∃k:Nat,i=k/\k<=s.length/\n=(BJ (s.take (min k 9)):Nat)/\∀j,j<k->AK (s.getD j 0),fun _ i _ _=>(s.length-i).toNat,⟨rfl,rfl,0,rfl,Nat.zero_le _,rfl,fun j h=>absurd h (Nat.not_lt_zero _)⟩,?_⟩
 rintro _ _ _ _ ⟨rfl,rfl,k,rfl,hkl,rfl,hd⟩
 rw[Int.toNat_natCast]
 have p18:10^(min k 9)<=10^9:=Nat.pow_le_pow_right (by decide) (by omega)
 have hv:=Q1 (l:=s) (w:=min k 9) (by omega) fun i hi=>hd i (by omega)
 have run:(k=s.length∨¬AK (s.getD k 0))->(Au s).length=k:=fun hs=>H6 s k hkl hd hs
 have bad0:(k=s.length∨¬AK (s.getD k 0))->((k:Nat):Int)<1->stB st (.box r 1) [.bool true] fun st'=>K ((0:Nat):Int) st':=fun hs g=>LB hb hr hl (bad (.inl (List.length_eq_zero_iff.1 (by rw[run hs];omega))))
 have bad9:(k=s.length∨¬AK (s.getD k 0))->(9:Int)<((k:Nat):Int)->stB st (.box r 1) [.bool true] fun st'=>K ((0:Nat):Int) st':=fun hs g=>LB hb hr hl (bad (.inr (by rw[run hs];omega)))
 have good:(k=s.length∨¬AK (s.getD k 0))->¬((k:Nat):Int)<1->¬(9:Int)<((k:Nat):Int)->∀st',StX (·=r) st st'->TR r st' (S.map fun _=>s.drop k)->K ((BJ (s.take (min k 9))*10^(9-k):Nat):Int) st':=fun hs g1 g2 st' e h'=>by
  have hrun:=run hs
  have htk:=Ep s
  rw[hrun]at htk
  have hm:min k 9=k:=by omega
  rw[hm]at hv⊢
  have hp:10^9=10^k*10^(9-k):=by rw[<-Nat.pow_add];congr 1;omega
  have hlt:BJ (s.take k)*10^(9-k)<1000000000:=by
   have:=Nat.mul_lt_mul_of_pos_right hv (Nat.pow_pos (n:=9-k) (show 0<10 by decide))
   rw[<-hp]at this;exact this
  refine hk _ st' _ hlt e h' ?_
  cases S with
  | none=>rfl
  | some x=>
   obtain rfl:=hx x rfl
   show(if Au s=[]∨9<(Au s).length then _ else _)
   rw[if_neg (by rintro(h0 | h0);rw[h0]at hrun;simp at hrun;omega;omega),hrun]
   refine⟨rfl,?_⟩
   unfold MB
   rw[hrun,Tl,htk]
 refine Ab rfl (Ab rfl (Ac hs (Ak (Aa (fun g=>Ab rfl (Ab rfl (Ac hs (Ak ⟨⟨by omega,g⟩,Aa (fun g1=>Ab rfl (Ab rfl (Ac hs (Ak ⟨⟨by omega,g⟩,Aa (fun g2=>?_) fun g2=>?_⟩)))) fun g1=>?_⟩)))) fun g=>?_))))
 ·have hdk:∀j,j<k+1->AK (s.getD j 0):=fun j hj=>by
   by_cases hjk:j=k
   ·subst hjk;exact⟨by omega,by omega⟩
   ·exact hd j (by omega)
  refine Aa (fun g3=>Ab rfl (Ab rfl (Ac hs (Ak ⟨⟨by omega,g⟩,?_⟩)))) fun g3=>?_
  ·have hsn:=HQ (l:=s) (k:=k) (by omega)
   have hm:min k 9=k:=by omega
   have hm1:min (k+1) 9=k+1:=by omega
   rw[hm]at hv⊢
   rw[hm]at p18
   rw[MN _ (by omega) (by omega),Af (10*_) (by omega) (by omega),Af (((s.getD k 0).toNat:Int)-48) (by omega) (by omega),Af (_+_) (by omega) (by omega),Af _ (by omega) (by omega)]
   exact⟨⟨rfl,rfl,k+1,by omega,by omega,by rw[hm1,hsn];omega,hdk⟩,by dsimp only;omega⟩
  ·rw[Af _ (by omega) (by omega)]
   exact⟨⟨rfl,rfl,k+1,by omega,by omega,by rw[show min (k+1) 9=min k 9 by omega],hdk⟩,by dsimp only;omega⟩
 ·have hs':k=s.length∨¬AK (s.getD k 0):= .inr fun h=>g2 (by have:=h.2;omega)
  exact Aa (fun g3=>Ab rfl (Ab rfl (bad0 hs' g3))) fun g3=>Aa (fun g4=>Ab rfl (Ab rfl (bad9 hs' g4))) fun g4=>Ab rfl (Ab rfl (Ac hs (Ak ⟨⟨by omega,by omega⟩,Ab rfl (Ab rfl (M0 (s:=s) h (by rw[List.length_drop];omega) fun st' e h'=>PB (by omega) (by rw[show min k 9=k by omega]at*;exact hv) (good hs' g3 g4 st' e h')))⟩)))
 ·have hs':k=s.length∨¬AK (s.getD k 0):= .inr fun h=>g1 (by have:=h.1;omega)
  exact Aa (fun g3=>Ab rfl (Ab rfl (bad0 hs' g3))) fun g3=>Aa (fun g4=>Ab rfl (Ab rfl (bad9 hs' g4))) fun g4=>Ab rfl (Ab rfl (Ac hs (Ak ⟨⟨by omega,by omega⟩,Ab rfl (Ab rfl (M0 (s:=s) h (by rw[List.length_drop];omega) fun st' e h'=>PB (by omega) (by rw[show min k 9=k by omega]at*;exact hv) (good hs' g3 g4 st' e h')))⟩)))
 ·have hs':k=s.length∨¬AK (s.getD k 0):= .inl (by omega)
  exact Aa (fun g3=>Ab rfl (Ab rfl (bad0 hs' g3))) fun g3=>Aa (fun g4=>Ab rfl (Ab rfl (bad9 hs' g4))) fun g4=>Ab rfl (Ab rfl (Ac hs (Ak ⟨⟨by omega,by omega⟩,Ab rfl (Ab rfl (M0 (s:=s) h (by rw[List.length_drop];omega) fun st' e h'=>PB (by omega) (by rw[show min k 9=k by omega]at*;exact hv) (good hs' g3 g4 st' e h')))⟩)))
abbrev rfS (r f:Nat):Nat->Prop:=fun b=>b=r∨b=f
theorem TM.step {r f:Nat} {st st':St} {S T:Option B8} {l:List TV} (h:TM r f st S l) (e:StX (·=r) st st') (h':TR r st' T):TM r f st' T l:=
 ⟨h',Nat.lt_of_lt_of_le h.2.1 e.nb,(e.box f h.2.1 fun g=>h.2.2.2 g.symm).trans h.2.2.1,h.2.2.2⟩
theorem TM.put {r f i:Nat} {st:St} {S:Option B8} {l:List TV} {v:TV} (h:TM r f st S l) (hi:i<l.length) {K:St->Prop} (hk:∀st',StX (rfS r f) st st'->TM r f st' S (l.set i v)->K st'):stB st (.box f i) [v] K:=by
 obtain⟨h1,h2,h3,h4⟩:=h
 refine⟨_,h3,by simp;omega,hk _ (StX.put (S:=rfS r f) (.inr rfl) _) ⟨?_,h2,by simp[St.put,setAll],h4⟩⟩
 have hne:((st.put f (.cells (setAll l i [v]))).box r)=st.box r:=by simp only[St.put];rw[if_neg h4]
 cases S with
 | none=>obtain⟨a1,s,a2,a3⟩:=h1;exact⟨a1,s,hne.trans a2,a3⟩
 | some s=>obtain⟨a1,a2,a3⟩:=h1;exact⟨a1,hne.trans a2,a3⟩
theorem JD {r f:Nat} {a b:St} (e:StX (·=r) a b):StX (rfS r f) a b:=e.mono fun _ h=> .inl h
def fcT (y mo d h mi sc nn sg oh om:Nat):List TV:=[.int .i64 (y:Nat),.int .i64 (mo:Nat),.int .i64 (d:Nat),.int .i64 (h:Nat),.int .i64 (mi:Nat),.int .i64 (sc:Nat),.int .i64 (nn:Nat),.int .u8 (sg:Nat),.int .i64 (oh:Nat),.int .i64 (om:Nat)]
theorem La.pos {w n:Nat} {s:B8} {T:Option B8} (h:La w (some s) n T) (f:K7 w s):T=some (s.drop w)/\n=BJ (s.take w):=by
 change (if K7 w s then _ else _)at h
 rwa [if_pos f]at h
theorem La.neg {w n:Nat} {s:B8} {T:Option B8} (h:La w (some s) n T) (f:¬K7 w s):T=none:=by
 change (if K7 w s then _ else _)at h
 rwa [if_neg f]at h
theorem OC.pos {of:B8} {n:Nat} {s:B8} {T:Option B8} (h:OC of (some s) n T) (f:s.getD 0 0∈of):T=some (s.drop 1)/\n=(s.getD 0 0).toNat:=by
 change (if s.getD 0 0∈of then _ else _)at h
 rwa [if_pos f]at h
theorem OC.neg {of:B8} {n:Nat} {s:B8} {T:Option B8} (h:OC of (some s) n T) (f:s.getD 0 0∉of):T=none:=by
 change (if s.getD 0 0∈of then _ else _)at h
 rwa [if_neg f]at h
theorem Gf (s:B8) (k i:Nat):b0 (s.drop k) i=b0 s (k+i):=by simp[b0,List.getD]
theorem W5 (s:B8) (k i:Nat):dd (s.drop k) i↔dd s (k+i):=by
 unfold dd
 rw[Gf,Gf,Nat.add_assoc]
theorem Xb (s:B8) (k i:Nat):d2 (s.drop k) i=d2 s (k+i):=by
 unfold d2 dv
 rw[Gf,Gf,Nat.add_assoc]
theorem Qn {s:B8} {k:Nat} (h:AK (b0 s k)):k<s.length:=by
 by_cases hk:k<s.length
 ·exact hk
 ·rw[show b0 s k=0 by simp[b0,List.getD,Nat.le_of_not_lt hk]]at h
  exact absurd h (by decide)
theorem numF2 (s:B8):K7 2 s↔dd s 0:=by
 constructor
 ·intro h;exact⟨h.2 0 (by omega),h.2 1 (by omega)⟩
 ·intro h
  have:=Qn h.2
  exact⟨by omega,fun i hi=>by
   rcases (by omega:i=0∨i=1)with rfl | rfl
   ·exact h.1
   ·exact h.2⟩
theorem Uc (s:B8):K7 4 s↔dd s 0/\dd s 2:=by
 constructor
 ·intro h;exact⟨⟨h.2 0 (by omega),h.2 1 (by omega)⟩,⟨h.2 2 (by omega),h.2 3 (by omega)⟩⟩
 ·intro h
  have:=Qn h.2.2
  exact⟨by omega,fun i hi=>by
   rcases (by omega:i=0∨i=1∨i=2∨i=3)with rfl | rfl | rfl | rfl
   ·exact h.1.1
   ·exact h.1.2
   ·exact h.2.1
   ·exact h.2.2⟩
theorem val2 {s:B8} (h:K7 2 s):BJ (s.take 2)=d2 s 0:=by
 rcases s with _ | ⟨a,_ | ⟨b,r⟩⟩
 ·exact absurd h.1 (by simp)
 ·exact absurd h.1 (by simp)
 ·show 10*(10*0+(a.toNat-48))+(b.toNat-48)=(a.toNat-48)*10+(b.toNat-48)
  omega
theorem val4 {s:B8} (h:K7 4 s):BJ (s.take 4)=d2 s 0*100+d2 s 2:=by
 rcases s with _ | ⟨a,_ | ⟨b,_ | ⟨c,_ | ⟨d,r⟩⟩⟩⟩
 ·exact absurd h.1 (by simp)
 ·exact absurd h.1 (by simp)
 ·exact absurd h.1 (by simp)
 ·exact absurd h.1 (by simp)
 ·show 10*(10*(10*(10*0+(a.toNat-48))+(b.toNat-48))+(c.toNat-48))+(d.toNat-48)=((a.toNat-48)*10+(b.toNat-48))*100+((c.toNat-48)*10+(d.toNat-48))
  omega
theorem one1 {s:B8} {c:UInt8}:s.getD 0 0∈ [c]↔b0 s 0=c:=by rw[List.mem_singleton];rfl
theorem GY {s:B8} {k m n:Nat} {T:Option B8} (hm:k+2=m) (h:La 2 (some (s.drop k)) n T):(dd s k->T=some (s.drop m)/\n=d2 s k)/\(¬dd s k->T=none):=by
 have e:K7 2 (s.drop k)↔dd s k:=by rw[numF2,W5];rfl
 constructor
 ·intro f
  have f':=e.2 f
  obtain⟨h1,h2⟩:=h.pos f'
  exact⟨by rw[h1,List.drop_drop,hm],by rw[h2,val2 f',Xb];rfl⟩
 ·intro f;exact h.neg fun g=>f (e.1 g)
theorem Ld {s:B8} {k m n:Nat} {c:UInt8} {T:Option B8} (hm:k+1=m) (h:OC [c] (some (s.drop k)) n T):(b0 s k=c->T=some (s.drop m))/\(b0 s k≠c->T=none):=by
 have e:(s.drop k).getD 0 0∈ [c]↔b0 s k=c:=by rw[one1,Gf];rfl
 exact⟨fun f=>by rw[(h.pos (e.2 f)).1,List.drop_drop,hm],fun f=>h.neg fun g=>f (e.1 g)⟩
theorem step4 {s:B8} {n:Nat} {T:Option B8} (h:La 4 (some s) n T):(dd s 0/\dd s 2->T=some (s.drop 4)/\n=d2 s 0*100+d2 s 2)/\(¬(dd s 0/\dd s 2)->T=none):=
 ⟨fun f=>⟨(h.pos ((Uc s).2 f)).1,by rw[(h.pos ((Uc s).2 f)).2,val4 ((Uc s).2 f)]⟩,fun f=>h.neg fun g=>f ((Uc s).1 g)⟩
theorem Yd {s:B8} {y c m c' d:Nat} {T1 T2 T3 T4 T5:Option B8} (s1:La 4 (some s) y T1) (s2:OC [45] T1 c T2) (s3:La 2 T2 m T3) (s4:OC [45] T3 c' T4) (s5:La 2 T4 d T5):
  (Eg s->T5=some (s.drop 10)/\y=d2 s 0*100+d2 s 2/\m=d2 s 5/\d=d2 s 8)/\(¬Eg s->T5=none):=by
 by_cases f1:dd s 0/\dd s 2
 ·obtain⟨rfl,v1⟩:=(step4 s1).1 f1
  by_cases f2:b0 s 4=45
  ·obtain rfl:=(Ld (m:=5) rfl s2).1 f2
   by_cases f3:dd s 5
   ·obtain⟨rfl,v3⟩:=(GY (m:=7) rfl s3).1 f3
    by_cases f4:b0 s 7=45
    ·obtain rfl:=(Ld (m:=8) rfl s4).1 f4
     by_cases f5:dd s 8
     ·obtain⟨rfl,v5⟩:=(GY (m:=10) rfl s5).1 f5
      exact⟨fun _=>⟨rfl,v1,v3,v5⟩,fun h=>absurd ⟨f1.1,f1.2,f2,f3,f4,f5⟩ h⟩
     ·exact⟨fun h=>absurd h.2.2.2.2.2 f5,fun _=>(GY (m:=10) rfl s5).2 f5⟩
    ·obtain rfl:=(Ld (m:=8) rfl s4).2 f4
     exact⟨fun h=>absurd h.2.2.2.2.1 f4,fun _=>s5⟩
   ·obtain rfl:=(GY (m:=7) rfl s3).2 f3
    obtain rfl:T4=none:=s4
    exact⟨fun h=>absurd h.2.2.2.1 f3,fun _=>s5⟩
  ·obtain rfl:=(Ld (m:=5) rfl s2).2 f2
   obtain rfl:T3=none:=s3
   obtain rfl:T4=none:=s4
   exact⟨fun h=>absurd h.2.2.1 f2,fun _=>s5⟩
 ·obtain rfl:=(step4 s1).2 f1
  obtain rfl:T2=none:=s2
  obtain rfl:T3=none:=s3
  obtain rfl:T4=none:=s4
  exact⟨fun h=>absurd ⟨h.1,h.2.1⟩ f1,fun _=>s5⟩
def DateS (S:Option B8) (y m d:Nat) (T:Option B8):Prop:=match S with
 | none=>T=none
 | some s=>(Eg s->T=some (s.drop 10)/\y=d2 s 0*100+d2 s 2/\m=d2 s 5/\d=d2 s 8)/\(¬Eg s->T=none)
theorem Tt {r f:Nat} {st:St} {S:Option B8} {h mi sc nn sg oh om:Nat} (hm:TM r f st S (fcT 0 0 0 h mi sc nn sg oh om)) {K:St->Prop}
  (hk:∀y mo d st' T,y<10000->mo<100->d<100->StX (rfS r f) st st'->TM r f st' T (fcT y mo d h mi sc nn sg oh om)->DateS S y mo d T->K st'):CallT PR B9 [.box r 0,.box f 0] [] st K:=by
 refine Jb r f st K (GW (w:=4) (by decide) hm.1 fun y st1 T1 b1 e1 h1 s1=>(hm.step e1 h1).put (by simp[fcT]) fun st2 e2 m2=>?_)
 refine GV (of:=[45]) (by decide) (by decide) m2.1 fun c st3 T3 b3 e3 h3 s3=>GW (w:=2) (by decide) h3 fun mo st4 T4 b4 e4 h4 s4=>((m2.step e3 h3).step e4 h4).put (by simp[fcT]) fun st5 e5 m5=>?_
 refine GV (of:=[45]) (by decide) (by decide) m5.1 fun c' st6 T6 b6 e6 h6 s6=>GW (w:=2) (by decide) h6 fun d st7 T7 b7 e7 h7 s7=>((m5.step e6 h6).step e7 h7).put (by simp[fcT]) fun st8 e8 m8=>?_
 refine hk y mo d st8 T7 b1 b4 b7 ((((((((JD e1).trans e2).trans (JD e3)).trans (JD e4)).trans e5).trans (JD e6)).trans (JD e7)).trans e8) m8 ?_
 cases S with
 | some s=>exact Yd s1 s3 s4 s6 s7
 | none=>
  have:=(show T1=none from s1)
  subst this
  have:=(show T3=none from s3)
  subst this
  have:=(show T4=none from s4)
  subst this
  have:=(show T6=none from s6)
  subst this
  exact s7
theorem Wc {s:B8} {h c m c' d:Nat} {T1 T2 T3 T4 T5:Option B8} (s1:La 2 (some s) h T1) (s2:OC [58] T1 c T2) (s3:La 2 T2 m T3) (s4:OC [58] T3 c' T4) (s5:La 2 T4 d T5):
  (Ks s->T5=some (s.drop 8)/\h=d2 s 0/\m=d2 s 3/\d=d2 s 6)/\(¬Ks s->T5=none):=by
 have s1':La 2 (some (s.drop 0)) h T1:=by rw[List.drop_zero];exact s1
 by_cases f1:dd s 0
 ·obtain⟨rfl,v1⟩:=(GY (m:=2) rfl s1').1 f1
  by_cases f2:b0 s 2=58
  ·obtain rfl:=(Ld (m:=3) rfl s2).1 f2
   by_cases f3:dd s 3
   ·obtain⟨rfl,v3⟩:=(GY (m:=5) rfl s3).1 f3
    by_cases f4:b0 s 5=58
    ·obtain rfl:=(Ld (m:=6) rfl s4).1 f4
     by_cases f5:dd s 6
     ·obtain⟨rfl,v5⟩:=(GY (m:=8) rfl s5).1 f5
      exact⟨fun _=>⟨rfl,v1,v3,v5⟩,fun h=>absurd ⟨f1,f2,f3,f4,f5⟩ h⟩
     ·exact⟨fun h=>absurd h.2.2.2.2 f5,fun _=>(GY (m:=8) rfl s5).2 f5⟩
    ·obtain rfl:=(Ld (m:=6) rfl s4).2 f4
     exact⟨fun h=>absurd h.2.2.2.1 f4,fun _=>s5⟩
   ·obtain rfl:=(GY (m:=5) rfl s3).2 f3
    obtain rfl:T4=none:=s4
    exact⟨fun h=>absurd h.2.2.1 f3,fun _=>s5⟩
  ·obtain rfl:=(Ld (m:=3) rfl s2).2 f2
   obtain rfl:T3=none:=s3
   obtain rfl:T4=none:=s4
   exact⟨fun h=>absurd h.2.1 f2,fun _=>s5⟩
 ·obtain rfl:=(GY (m:=2) rfl s1').2 f1
  obtain rfl:T2=none:=s2
  obtain rfl:T3=none:=s3
  obtain rfl:T4=none:=s4
  exact⟨fun h=>absurd h.1 f1,fun _=>s5⟩
def UZ (S:Option B8) (h mi sc nn:Nat) (T:Option B8):Prop:=match S with
 | none=>T=none
 | some s=>match GM s with
  | none=>T=none
  | some (h',mi',sc',f',r')=>T=some r'/\h=h'/\mi=mi'/\sc=sc'/\nn=f'
theorem TR.src {r:Nat} {st:St} {S:Option B8} (h:TR r st S):∃s,Ad st [] (.t (.box r 0)) 0=some (.str s)/\s.length<=1000000/\∀x,S=some x->s=x:=by
 obtain⟨_,s,hb,hl,hx⟩:=h.get
 exact⟨s,by simp[Ad,hb],hl,hx⟩
theorem M9 {r f:Nat} {st:St} {S:Option B8} {y mo d sg oh om:Nat} (hm:TM r f st S (fcT y mo d 0 0 0 0 sg oh om)) {K:St->Prop}
  (hk:∀h mi sc nn st' T,h<100->mi<100->sc<100->nn<1000000000->StX (rfS r f) st st'->TM r f st' T (fcT y mo d h mi sc nn sg oh om)->UZ S h mi sc nn T->K st'):CallT PR Bk [.box r 0,.box f 0] [] st K:=by
 refine Ib r f st K (GW (w:=2) (by decide) hm.1 fun y st1 T1 b1 e1 h1 s1=>(hm.step e1 h1).put (by simp[fcT]) fun st2 e2 m2=>?_)
 refine GV (of:=[58]) (by decide) (by decide) m2.1 fun c st3 T3 b3 e3 h3 s3=>GW (w:=2) (by decide) h3 fun mo st4 T4 b4 e4 h4 s4=>((m2.step e3 h3).step e4 h4).put (by simp[fcT]) fun st5 e5 m5=>?_
 refine GV (of:=[58]) (by decide) (by decide) m5.1 fun c' st6 T6 b6 e6 h6 s6=>GW (w:=2) (by decide) h6 fun d st7 T7 b7 e7 h7 s7=>((m5.step e6 h6).step e7 h7).put (by simp[fcT]) fun st8 e8 m8=>?_
 have E:=(((((((JD e1).trans e2).trans (JD e3)).trans (JD e4)).trans e5).trans (JD e6)).trans (JD e7)).trans e8
 have comb:∀s,S=some s->(Ks s->T7=some (s.drop 8)/\y=d2 s 0/\mo=d2 s 3/\d=d2 s 6)/\(¬Ks s->T7=none):=fun s hs=>by
  subst hs;exact Wc s1 s3 s4 s6 s7
 have nn:S=none->T7=none:=fun hs=>by
  subst hs
  obtain rfl:T1=none:=s1
  obtain rfl:T3=none:=s3
  obtain rfl:T4=none:=s4
  obtain rfl:T6=none:=s6
  exact s7
 clear s1 s3 s4 s6 s7 m2 m5
 obtain⟨t,ht,hl,hx⟩:=m8.1.src
 have plain:(∀x,T7=some x->b0 x 0≠46)->K st8:=fun hp=>hk y mo d 0 st8 T7 b1 b4 b7 (by decide) E m8 (by
  cases S with
  | none=>exact nn rfl
  | some s=>
   unfold UZ;dsimp only
   obtain⟨c1,c2⟩:=comb s rfl
   unfold GM
   by_cases fc:Ks s
   ·obtain⟨rfl,v1,v2,v3⟩:=c1 fc
    rw[if_pos fc,if_neg (by have:=hp _ rfl;rw[Gf]at this;exact this)]
    exact⟨rfl,v1,v2,v3,rfl⟩
   ·rw[if_neg fc];exact c2 fc)
 refine Ac ht (Ak (Aa (fun g=>Ac ht (Ak ⟨⟨by omega,by have:=List.length_pos_iff.2 g;omega⟩,Aa (fun g1=>?_) fun g1=>?_⟩)) fun g=>?_))
 ·have hpos:=List.length_pos_iff.2 g
  refine Ac ht (Ak ⟨⟨by omega,by omega⟩,M0 (s:=t) m8.1 (by rw[List.length_drop];omega) fun st9 e9 h9=>?_⟩)
  refine YC h9 fun n st10 T10 b10 e10 h10 s10=>((m8.step e9 h9).step e10 h10).put (by simp[fcT]) fun st11 e11 m11=>?_
  refine hk y mo d n st11 T10 b1 b4 b7 b10 (((E.trans (JD e9)).trans (JD e10)).trans e11) m11 ?_
  have g46:b0 t 0=46:=(u8i (k:=46)).1 g1
  cases S with
  | none=>
   obtain rfl:=nn rfl
   exact s10
  | some s=>
   unfold UZ;dsimp only
   obtain⟨c1,c2⟩:=comb s rfl
   unfold GM
   by_cases fc:Ks s
   ·obtain⟨rfl,v1,v2,v3⟩:=c1 fc
    obtain rfl:=hx _ rfl
    rw[Gf]at g46
    rw[if_pos fc,if_pos g46]
    have hd9:(s.drop 8).drop (Int.toNat 1)=s.drop 9:=by rw[List.drop_drop];rfl
    have s11:FracS (some (s.drop 9)) n T10:=by rw[<-hd9];exact s10
    change (if _ then _ else _)at s11
    by_cases hf:Au (s.drop 9)=[]∨9<(Au (s.drop 9)).length
    ·rw[if_pos hf]at s11
     rw[if_pos hf];exact s11
    ·rw[if_neg hf]at s11
     rw[if_neg hf]
     refine⟨?_,v1,v2,v3,s11.2⟩
     rw[s11.1,List.drop_drop]
   ·obtain rfl:=c2 fc
    rw[if_neg fc];exact s10
 ·exact plain fun x hx'=>by
   obtain rfl:=hx x hx'
   exact fun h=>g1 ((u8i (k:=46)).2 h)
 ·have g0:t=[]:=Decidable.not_not.1 g
  exact plain fun x hx'=>by
   obtain rfl:=hx x hx'
   rw[g0];decide
def Wz (S:Option B8) (sg oh om:Nat) (T:Option B8):Prop:=match S with
 | none=>T=none
 | some s=>(T=some []->∃ls,Oz s=some (ls,oh,om)/\(ls=true↔sg=45))/\(T≠some []->Oz s=none)
theorem VC {s:B8} {sg oh om:Nat} {c:Nat} {T1 T2 T3 T:Option B8} (hsg:sg=(b0 s 0).toNat) (h0:b0 s 0=43∨b0 s 0=45) (hT:T1=some (s.drop 1)) (s1:La 2 T1 oh T2) (s2:OC [58] T2 c T3) (s3:La 2 T3 om T):Wz (some s) sg oh om T:=by
 subst hT
 have nz:¬(s=[90]∨s=[122]):=by
  rintro(h | h)<;>rw[h]at h0<;>revert h0<;>decide
 have no:T=none->(dd s 1->b0 s 3=58->dd s 4->False)->Wz (some s) sg oh om T:=fun ht hf=>by
  subst ht
  refine⟨fun h=>(by cases h),fun _=>?_⟩
  unfold Oz
  rw[if_neg nz,if_neg fun h=>hf h.2.2.1 h.2.2.2.1 h.2.2.2.2]
 by_cases f1:dd s 1
 ·obtain⟨rfl,rfl⟩:=(GY (m:=3) rfl s1).1 f1
  by_cases f2:b0 s 3=58
  ·obtain rfl:=(Ld (m:=4) rfl s2).1 f2
   by_cases f3:dd s 4
   ·obtain⟨rfl,rfl⟩:=(GY (m:=6) rfl s3).1 f3
    have hl:=Qn f3.2
    refine⟨fun h=>⟨decide (b0 s 0=45),?_,?_⟩,fun h=>?_⟩
    ·have h6:s.drop 6=[]:=Option.some.inj h
     have:=congrArg List.length h6
     rw[List.length_drop]at this
     simp at this
     unfold Oz
     rw[if_neg nz,if_pos ⟨by omega,h0,f1,f2,f3⟩]
    ·rw[decide_eq_true_eq,hsg]
     exact⟨fun h=>by rw[h];rfl,fun h=>UInt8.toNat_inj.1 h⟩
    ·unfold Oz
     rw[if_neg nz,if_neg]
     intro h'
     exact h (by rw[List.drop_of_length_le (by omega)])
   ·exact no ((GY (m:=6) rfl s3).2 f3) fun _ _ h=>f3 h
  ·obtain rfl:=(Ld (m:=4) rfl s2).2 f2
   exact no s3 fun _ h _=>f2 h
 ·obtain rfl:=(GY (m:=3) rfl s1).2 f1
  obtain rfl:T3=none:=s2
  exact no s3 fun h _ _=>f1 h
theorem Wz.none {S T1 T:Option B8} {sg oh om:Nat} (h:OC [90,122,43,45] S sg T1) (h1:T1=none) (ht:T=none):Wz S sg oh om T:=by
 subst h1 ht
 cases S with
 | none=>rfl
 | some s=>
  refine⟨fun h=>(by cases h),fun _=>?_⟩
  have hn:s.getD 0 0∉ [90,122,43,45]:=fun hm=>by have:=(h.pos hm).1;cases this
  unfold Oz
  rw[if_neg,if_neg]
  ·rintro⟨_,h | h,_⟩
   ·exact hn (by rw[show s.getD 0 0=43 from h];decide)
   ·exact hn (by rw[show s.getD 0 0=45 from h];decide)
  ·rintro(h | h)<;>rw[h]at hn<;>revert hn<;>decide
theorem Pe {r f:Nat} {st:St} {S:Option B8} {y mo d h mi sc nn:Nat} (hm:TM r f st S (fcT y mo d h mi sc nn 0 0 0)) {K:St->Prop}
  (hk:∀sg oh om st' T,sg<256->oh<100->om<100->StX (rfS r f) st st'->TM r f st' T (fcT y mo d h mi sc nn sg oh om)->Wz S sg oh om T->K st'):CallT PR BL [.box r 0,.box f 0] [] st K:=by
 refine HK r f st K (GV (of:=[90,122,43,45]) (by decide) (by decide) hm.1 fun sg st1 T1 b1 e1 h1 s1=>(hm.step e1 h1).put (by simp[fcT]) fun st2 e2 m2=>?_)
 have hld:Ad st2 [] (.t (.box f 7)) 0=some (.int .u8 (sg:Nat)):=by simp[Ad,m2.2.2.1,fcT]
 have E2:=(JD e1).trans e2
 refine Ac hld (AB (Aa (fun g=>?_) fun g=>Ac hld (AB (Aa (fun g2=>?_) fun g2=>?_))))
 iterate 2
  ·refine GW (w:=2) (by decide) m2.1 fun oh st3 T3 b3 e3 h3 s3=>(m2.step e3 h3).put (by simp[fcT]) fun st4 e4 m4=>?_
   refine GV (of:=[58]) (by decide) (by decide) m4.1 fun c st5 T5 b5 e5 h5 s5=>GW (w:=2) (by decide) h5 fun om st6 T6 b6 e6 h6 s6=>((m4.step e5 h5).step e6 h6).put (by simp[fcT]) fun st7 e7 m7=>?_
   refine hk sg oh om st7 T6 b1 b3 b6 (((((E2.trans (JD e3)).trans e4).trans (JD e5)).trans (JD e6)).trans e7) m7 ?_
   cases T1 with
   | none=>
    obtain rfl:T3=none:=s3
    obtain rfl:T5=none:=s5
    exact Wz.none s1 rfl s6
   | some x=>
    cases S with
    | none=>cases (show some x=none from s1)
    | some s=>
     by_cases hmem:s.getD 0 0∈ [90,122,43,45]
     ·obtain⟨hT,hs⟩:=s1.pos hmem
      refine VC hs ?_ hT s3 s5 s6
      have hc:((b0 s 0).toNat:Int)=sg:=by rw[hs];rfl
      first
       | exact .inl (UInt8.toNat_inj.1 (by rw[show((43:UInt8).toNat)=43 from rfl];omega))
       | exact .inr (UInt8.toNat_inj.1 (by rw[show((45:UInt8).toNat)=45 from rfl];omega))
     ·cases s1.neg hmem
 ·refine hk sg 0 0 st2 T1 b1 (by decide) (by decide) E2 m2 ?_
  cases T1 with
  | none=>exact Wz.none s1 rfl rfl
  | some x=>
   cases S with
   | none=>cases (show some x=none from s1)
   | some s=>
    by_cases hmem:s.getD 0 0∈ [90,122,43,45]
    ·obtain⟨hT,hs⟩:=s1.pos hmem
     rw[hT]
     have h43:b0 s 0≠43:=fun h=>g (by rw[hs,show s.getD 0 0=43 from h];rfl)
     have h45:b0 s 0≠45:=fun h=>g2 (by rw[hs,show s.getD 0 0=45 from h];rfl)
     refine⟨fun h=>⟨false,?_,⟨fun h=>(by cases h),fun h=>absurd (by omega) g2⟩⟩,fun h=>?_⟩
     ·have h1:s.drop 1=[]:=Option.some.inj h
      unfold Oz
      rw[if_pos]
      rcases s with _ | ⟨a,_ | ⟨b,s⟩⟩
      ·exact absurd hmem (by decide)
      ·have ha:a∈ [90,122,43,45]:=hmem
       simp only[List.mem_cons,List.not_mem_nil,or_false]at ha
       rcases ha with rfl | rfl | rfl | rfl
       ·exact .inl rfl
       ·exact .inr rfl
       ·exact absurd rfl h43
       ·exact absurd rfl h45
      ·cases h1
     ·unfold Oz
      rw[if_neg,if_neg]
      ·rintro⟨_,h | h,_⟩
       ·exact h43 h
       ·exact h45 h
      ·rintro(h' | h')<;>exact h (by rw[h'];rfl)
    ·cases s1.neg hmem
theorem cday_ok {y m d:Nat} (hy:y<=100000) (hm:m<=1000) (hd:d<=1000) {st:St} {K:Int->Int->St->Prop} (hk:K (if okD y m d then(K9 y m d:Nat)else 0) (if okD y m d then 0 else 2) st):
  CallT PR FQ [.int .i64 (y:Nat),.int .i64 (m:Nat),.int .i64 (d:Nat)] [.one (.int .i64),.one (.int .i64)] st K:=by
 refine Oy _ _ _ st K (Aa (fun g=>?_) fun g=>Ha (by omega) (Aa (fun g2=>?_) fun g2=>?_))
 ·have hn:¬okD y m d:=fun h=>by have:=h.2.2.2.2.1;omega
  rw[if_neg hn,if_neg hn]at hk;exact hk
 ·have hn:¬okD y m d:=fun h=>by
   obtain⟨a1,a2,a3,a4,a5,a6⟩:=h
   rw[EG a1 a2 a3 a4]at g2
   omega
  rw[if_neg hn,if_neg hn]at hk;exact hk
 ·have hr:1<=y/\y<=9999/\1<=m/\m<=12:=by
   by_cases h:1<=y/\y<=9999/\1<=m/\m<=12
   ·exact h
   ·rw[show VG y m=0 from if_neg h]at g2
    omega
  obtain⟨a1,a2,a3,a4⟩:=hr
  rw[EG a1 a2 a3 a4]at g2
  have ok:okD y m d:=⟨a1,a2,a3,a4,by omega,by omega⟩
  rw[if_pos ok,if_pos ok]at hk
  have hyr:yrS y<=4000000:=by unfold yrS;omega
  refine G9 a1 (by omega) ⟨fun n i y' m' st'=>((y:Nat):Int)=y'/\((m:Nat):Int)=m'/\st=st'/\∃j:Nat,i=j/\1<=j/\j<=m/\n=((yrS y+EH y j+(d-1):Nat):Int),fun _ i _ _ _=>(m-i).toNat,⟨rfl,rfl,rfl,1,rfl,by omega,by omega,?_⟩,?_⟩
  ·rw[Af (((yrS y:Nat):Int)+((d:Nat):Int)) (by omega) (by omega),Af _ (by omega) (by omega),show EH y 1=0 from rfl];omega
  ·rintro _ _ _ _ _ ⟨rfl,rfl,rfl,j,rfl,hj1,hj2,rfl⟩
   have hms:=KQ y j
   refine Aa (fun g3=>Ha (by omega) ?_) fun g3=>?_
   ·have hmd:=Fn y j
    rw[EG a1 a2 hj1 (by omega),Af _ (by omega) (by omega),Af _ (by omega) (by omega)]
    exact⟨⟨rfl,rfl,rfl,j+1,by omega,by omega,by omega,by rw[DS y hj1];omega⟩,by dsimp only;omega⟩
   ·have:j=m:=by omega
    subst this
    exact hk
def P6 (n1 y mo d h mi sc nn sg oh om:Nat):TmR:=
 if (n1≠2->okD y mo d)/\okC h mi sc/\oh<=23/\om<=59 then((n1:Nat),(if n1=2 then 0 else(K9 y mo d:Nat)),(FZ h mi sc nn:Nat),(if sg=45 then-((oh*60+om:Nat):Int)else((oh*60+om:Nat):Int)),0)else IY
def FinS (s:B8) (n1:Nat) (T:Option B8) (y mo d h mi sc nn sg oh om:Nat):Prop:=(T=some []->tmP s=P6 n1 y mo d h mi sc nn sg oh om)/\(T≠some []->tmP s=IZ)
theorem B5 {s:B8} {n1 y mo d h mi sc nn sg oh om:Nat} (e:tmP s=IZ):FinS s n1 none y mo d h mi sc nn sg oh om:=⟨fun h=>(by cases h),fun _=>e⟩
theorem P5 {s:B8} (n1:Nat) {y mo d h mi sc nn sg oh om:Nat} {r:B8} (hn:n1<=4) (e:tmP s=P6 n1 y mo d h mi sc nn sg oh om) (hr:r=[]):FinS s n1 (some r) y mo d h mi sc nn sg oh om:=⟨fun _=>e,fun h=>absurd (by rw[hr]) h⟩
theorem okC0:okC 0 0 0:=by decide
theorem fin1 (y mo d:Nat):(if okD y mo d then((1:Int),((K9 y mo d:Nat):Int),(0:Int),(0:Int),(0:Int))else IY)=P6 1 y mo d 0 0 0 0 0 0 0:=by
 unfold P6
 by_cases h:okD y mo d
 ·rw[if_pos h,if_pos ⟨fun _=>h,okC0,by decide,by decide⟩];rfl
 ·rw[if_neg h,if_neg fun g=>h (g.1 (by decide))]
theorem fin2 (h mi sc nn:Nat):(if okC h mi sc then((2:Int),(0:Int),((FZ h mi sc nn:Nat):Int),(0:Int),(0:Int))else IY)=P6 2 0 0 0 h mi sc nn 0 0 0:=by
 unfold P6
 by_cases g:okC h mi sc
 ·rw[if_pos g,if_pos ⟨fun h=>absurd rfl h,g,by decide,by decide⟩];rfl
 ·rw[if_neg g,if_neg fun k=>g k.2.1]
theorem fin3 (y mo d h mi sc nn:Nat):(if okD y mo d/\okC h mi sc then((3:Int),((K9 y mo d:Nat):Int),((FZ h mi sc nn:Nat):Int),(0:Int),(0:Int))else IY)=P6 3 y mo d h mi sc nn 0 0 0:=by
 unfold P6
 by_cases g:okD y mo d/\okC h mi sc
 ·rw[if_pos g,if_pos ⟨fun _=>g.1,g.2,by decide,by decide⟩];rfl
 ·rw[if_neg g,if_neg fun k=>g ⟨k.1 (by decide),k.2.1⟩]
theorem fin4 (y mo d h mi sc nn sg oh om:Nat) (ls:Bool) (hl:ls=true↔sg=45):(if okD y mo d/\okC h mi sc/\oh<=23/\om<=59 then((4:Int),((K9 y mo d:Nat):Int),((FZ h mi sc nn:Nat):Int),(if ls=true then-((oh*60+om:Nat):Int)else((oh*60+om:Nat):Int)),(0:Int))else IY)=P6 4 y mo d h mi sc nn sg oh om:=by
 unfold P6
 by_cases g:okD y mo d/\okC h mi sc/\oh<=23/\om<=59
 ·have hp:(4≠2->okD y mo d)/\okC h mi sc/\oh<=23/\om<=59:=⟨fun _=>g.1,g.2⟩
  rw[if_pos g,if_pos hp]
  by_cases k:sg=45
  ·rw[if_pos k,if_pos (hl.2 k)];rfl
  ·rw[if_neg k,if_neg fun h=>k (hl.1 h)];rfl
 ·rw[if_neg g,if_neg fun k=>g ⟨k.1 (by decide),k.2⟩]
theorem M6 {s:B8} (hc:b0 s 2≠58) (h:¬Eg s):tmP s=IZ:=by
 unfold tmP
 rw[if_neg h]
 have:GM s=none:=by unfold GM;rw[if_neg fun g=>hc g.2.1]
 rw[this]
theorem ZI {s:B8}:s.getD 0 0∈ [84,116,32]↔(b0 s 0=84∨b0 s 0=116∨b0 s 0=32):=by
 simp only[List.mem_cons,List.not_mem_nil,or_false];rfl
theorem Sh {s:B8} (fd:Eg s) (hne:s.drop 10≠ []) (fo:(s.drop 10).getD 0 0∈ [84,116,32]):tmP s=match GM (s.drop (10+1))with
  | none=>IZ
  | some (h,m,sc,f,r')=>tmO (d2 s 0*100+d2 s 2) (d2 s 5) (d2 s 8) h m sc f r':=by
 unfold tmP tmD
 rw[if_pos fd,if_neg hne,if_pos (ZI.1 fo),List.drop_drop]<;>rfl
theorem Sg {s:B8} (fd:Eg s) (hne:s.drop 10≠ []) (fo:(s.drop 10).getD 0 0∉ [84,116,32]):tmP s=IZ:=by
 unfold tmP tmD
 rw[if_pos fd,if_neg hne,if_neg fun h=>fo (ZI.2 h)]
theorem MK {s:B8} {k:Nat} {c:UInt8} (hc:c≠0) (h:b0 s k=c):k<s.length:=by
 by_cases hk:k<s.length
 ·exact hk
 ·rw[show b0 s k=0 by simp[b0,List.getD,Nat.le_of_not_lt hk]]at h
  exact absurd h.symm hc
theorem YD {r f:Nat} {st:St} {s:B8} (hm:TM r f st (some s) (fcT 0 0 0 0 0 0 0 0 0 0)) {K:Int->St->Prop}
  (hk:∀(n1 y mo d h mi sc nn sg oh om:Nat) st' T,n1<=4->y<10000->mo<100->d<100->h<100->mi<100->sc<100->nn<1000000000->sg<256->oh<100->om<100->StX (rfS r f) st st'->TM r f st' T (fcT y mo d h mi sc nn sg oh om)->FinS s n1 T y mo d h mi sc nn sg oh om->K (n1:Nat) st'):
  CallT PR Dk [.box r 0,.box f 0] [.one (.int .i64)] st K:=by
 obtain⟨x,hx,hl,hsx⟩:=hm.1.src
 have hxs:x=s:=hsx s rfl
 rw[hxs]at hx hl
 clear hsx hxs
 refine Ja r f st K (Ac hx (Ak (Aa (fun g=>Ac hx (Ak ⟨⟨by omega,g⟩,Aa (fun g1=>?_) fun g1=>?_⟩)) fun g=>?_)))
 ·have h58:b0 s 2=58:=(u8i (k:=58)).1 g1
  have nfd:¬Eg s:=fun h=>absurd h.2.1.1 (by rw[h58];decide)
  refine M9 hm fun h mi sc nn st1 T c1 c2 c3 c4 e1 m1 s1=>hk 2 0 0 0 h mi sc nn 0 0 0 st1 T (by omega) (by decide) (by decide) (by decide) c1 c2 c3 c4 (by decide) (by decide) (by decide) e1 m1 ?_
  unfold UZ at s1
  dsimp only at s1
  have e:tmP s=match GM s with
   | none=>IZ
   | some (h,m,sc,f,r)=>if r=[]then(if okC h m sc then(2,0,(FZ h m sc f:Nat),0,0)else IY)else IZ:=by unfold tmP;rw[if_neg nfd]<;>rfl
  cases hc:GM s with
  | none=>rw[hc]at s1 e;exact s1▸B5 e
  | some p=>
   obtain⟨h',mi',sc',f',r'⟩:=p
   rw[hc]at s1 e
   dsimp only at s1 e
   obtain⟨rfl,rfl,rfl,rfl,rfl⟩:=s1
   by_cases hr:r'=[]
   ·rw[if_pos hr]at e
    exact P5 _ (by decide) (by rw[e];exact fin2 _ _ _ _) hr
   ·rw[if_neg hr]at e
    exact⟨fun h=>absurd (Option.some.inj h) hr,fun _=>e⟩
 ·have hnc:b0 s 2≠58:=fun h=>g1 ((u8i (k:=58)).2 h)
  refine Tt hm fun y mo d st2 T2 b1 b2 b3 e2 m2 s2=>?_
  obtain⟨x3,hx3,_,hs3⟩:=m2.1.src
  refine Ac hx3 (Ak (Aa (fun g=>?_) fun g=>GV (of:=[84,116,32]) (by decide) (by decide) m2.1 fun c st3 T3 bc e3 h3 s3=>M9 (m2.step e3 h3) fun h mi sc nn st4 T4 c1 c2 c3 c4 e4 m4 s4=>?_))
  ·refine hk 1 y mo d 0 0 0 0 0 0 0 st2 T2 (by omega) b1 b2 b3 (by decide) (by decide) (by decide) (by decide) (by decide) (by decide) (by decide) e2 m2 ?_
   by_cases fd:Eg s
   ·obtain⟨rfl,rfl,rfl,rfl⟩:=s2.1 fd
    have h10:s.drop 10=[]:=by rw[<-hs3 _ rfl];exact g
    have e:tmP s=if okD (d2 s 0*100+d2 s 2) (d2 s 5) (d2 s 8)then((1:Int),((K9 (d2 s 0*100+d2 s 2) (d2 s 5) (d2 s 8):Nat):Int),(0:Int),(0:Int),(0:Int))else IY:=by unfold tmP tmD;rw[if_pos fd,if_pos h10]
    exact P5 _ (by decide) (by rw[e];exact fin1 _ _ _) h10
   ·obtain rfl:=s2.2 fd
    exact B5 (by rw[M6 hnc fd])
  ·obtain⟨x4,hx4,_,hs4⟩:=m4.1.src
   have nofd:¬Eg s->T4=none:=fun fd=>by
    obtain rfl:=s2.2 fd
    obtain rfl:T3=none:=s3
    exact s4
   have E4:=(e2.trans (JD e3)).trans e4
   refine Ac hx4 (Ak (Aa (fun g4=>?_) fun g4=>Pe m4 fun sg oh om st5 T5 d1 d2 d3 e5 m5 s5=>?_))
   ·refine hk 3 y mo d h mi sc nn 0 0 0 st4 T4 (by omega) b1 b2 b3 c1 c2 c3 c4 (by decide) (by decide) (by decide) E4 m4 ?_
    by_cases fd:Eg s
    ·obtain⟨rfl,rfl,rfl,rfl⟩:=s2.1 fd
     have hne:s.drop 10≠ []:=fun e=>g (by rw[hs3 _ rfl];exact e)
     by_cases fo:(s.drop 10).getD 0 0∈ [84,116,32]
     ·obtain⟨rfl,_⟩:=s3.pos fo
      have e:=Sh fd hne fo
      unfold UZ at s4
      dsimp only at s4
      rw[List.drop_drop]at s4
      cases hc:GM (s.drop (10+1))with
      | none=>rw[hc]at s4 e;exact s4▸B5 e
      | some p=>
       obtain⟨h',mi',sc',f',r'⟩:=p
       rw[hc]at s4 e
       dsimp only at s4 e
       obtain⟨rfl,rfl,rfl,rfl,rfl⟩:=s4
       have hr:r'=[]:=by rw[<-hs4 _ rfl];exact g4
       unfold tmO at e
       rw[if_pos hr]at e
       exact P5 _ (by decide) (by rw[e];exact fin3 _ _ _ _ _ _ _) hr
     ·obtain rfl:=s3.neg fo
      obtain rfl:T4=none:=s4
      exact B5 (Sg fd hne fo)
    ·obtain rfl:=nofd fd
     exact B5 (by rw[M6 hnc fd])
   ·refine hk 4 y mo d h mi sc nn sg oh om st5 T5 (by omega) b1 b2 b3 c1 c2 c3 c4 d1 d2 d3 (E4.trans e5) m5 ?_
    by_cases fd:Eg s
    ·obtain⟨rfl,rfl,rfl,rfl⟩:=s2.1 fd
     have hne:s.drop 10≠ []:=fun e=>g (by rw[hs3 _ rfl];exact e)
     by_cases fo:(s.drop 10).getD 0 0∈ [84,116,32]
     ·obtain⟨rfl,_⟩:=s3.pos fo
      have e:=Sh fd hne fo
      unfold UZ at s4
      dsimp only at s4
      rw[List.drop_drop]at s4
      cases hc:GM (s.drop (10+1))with
      | none=>
       rw[hc]at s4 e
       dsimp only at s4
       subst s4
       obtain rfl:T5=none:=s5
       exact B5 e
      | some p=>
       obtain⟨h',mi',sc',f',r'⟩:=p
       rw[hc]at s4 e
       dsimp only at s4 e
       obtain⟨rfl,rfl,rfl,rfl,rfl⟩:=s4
       have hr:r'≠ []:=fun e=>g4 (by rw[hs4 _ rfl];exact e)
       unfold tmO at e
       rw[if_neg hr]at e
       by_cases h5:T5=some []
       ·obtain⟨ls,ho,hl⟩:=s5.1 h5
        rw[ho]at e
        exact⟨fun _=>by rw[e];exact fin4 _ _ _ _ _ _ _ _ _ _ _ hl,fun h=>absurd h5 h⟩
       ·have ho:=s5.2 h5
        rw[ho]at e
        exact⟨fun h=>absurd h h5,fun _=>e⟩
     ·obtain rfl:=s3.neg fo
      obtain rfl:T4=none:=s4
      obtain rfl:T5=none:=s5
      exact B5 (Sg fd hne fo)
    ·obtain rfl:=nofd fd
     obtain rfl:T5=none:=s5
     exact B5 (by rw[M6 hnc fd])
 ·have hnc:b0 s 2≠58:=fun h=>by have:=MK (by decide) h;omega
  refine Tt hm fun y mo d st2 T2 b1 b2 b3 e2 m2 s2=>?_
  obtain⟨x3,hx3,_,hs3⟩:=m2.1.src
  refine Ac hx3 (Ak (Aa (fun g=>?_) fun g=>GV (of:=[84,116,32]) (by decide) (by decide) m2.1 fun c st3 T3 bc e3 h3 s3=>M9 (m2.step e3 h3) fun h mi sc nn st4 T4 c1 c2 c3 c4 e4 m4 s4=>?_))
  ·refine hk 1 y mo d 0 0 0 0 0 0 0 st2 T2 (by omega) b1 b2 b3 (by decide) (by decide) (by decide) (by decide) (by decide) (by decide) (by decide) e2 m2 ?_
   by_cases fd:Eg s
   ·obtain⟨rfl,rfl,rfl,rfl⟩:=s2.1 fd
    have h10:s.drop 10=[]:=by rw[<-hs3 _ rfl];exact g
    have e:tmP s=if okD (d2 s 0*100+d2 s 2) (d2 s 5) (d2 s 8)then((1:Int),((K9 (d2 s 0*100+d2 s 2) (d2 s 5) (d2 s 8):Nat):Int),(0:Int),(0:Int),(0:Int))else IY:=by unfold tmP tmD;rw[if_pos fd,if_pos h10]
    exact P5 _ (by decide) (by rw[e];exact fin1 _ _ _) h10
   ·obtain rfl:=s2.2 fd
    exact B5 (by rw[M6 hnc fd])
  ·obtain⟨x4,hx4,_,hs4⟩:=m4.1.src
   have nofd:¬Eg s->T4=none:=fun fd=>by
    obtain rfl:=s2.2 fd
    obtain rfl:T3=none:=s3
    exact s4
   have E4:=(e2.trans (JD e3)).trans e4
   refine Ac hx4 (Ak (Aa (fun g4=>?_) fun g4=>Pe m4 fun sg oh om st5 T5 d1 d2 d3 e5 m5 s5=>?_))
   ·refine hk 3 y mo d h mi sc nn 0 0 0 st4 T4 (by omega) b1 b2 b3 c1 c2 c3 c4 (by decide) (by decide) (by decide) E4 m4 ?_
    by_cases fd:Eg s
    ·obtain⟨rfl,rfl,rfl,rfl⟩:=s2.1 fd
     have hne:s.drop 10≠ []:=fun e=>g (by rw[hs3 _ rfl];exact e)
     by_cases fo:(s.drop 10).getD 0 0∈ [84,116,32]
     ·obtain⟨rfl,_⟩:=s3.pos fo
      have e:=Sh fd hne fo
      unfold UZ at s4
      dsimp only at s4
      rw[List.drop_drop]at s4
      cases hc:GM (s.drop (10+1))with
      | none=>rw[hc]at s4 e;exact s4▸B5 e
      | some p=>
       obtain⟨h',mi',sc',f',r'⟩:=p
       rw[hc]at s4 e
       dsimp only at s4 e
       obtain⟨rfl,rfl,rfl,rfl,rfl⟩:=s4
       have hr:r'=[]:=by rw[<-hs4 _ rfl];exact g4
       unfold tmO at e
       rw[if_pos hr]at e
       exact P5 _ (by decide) (by rw[e];exact fin3 _ _ _ _ _ _ _) hr
     ·obtain rfl:=s3.neg fo
      obtain rfl:T4=none:=s4
      exact B5 (Sg fd hne fo)
    ·obtain rfl:=nofd fd
     exact B5 (by rw[M6 hnc fd])
   ·refine hk 4 y mo d h mi sc nn sg oh om st5 T5 (by omega) b1 b2 b3 c1 c2 c3 c4 d1 d2 d3 (E4.trans e5) m5 ?_
    by_cases fd:Eg s
    ·obtain⟨rfl,rfl,rfl,rfl⟩:=s2.1 fd
     have hne:s.drop 10≠ []:=fun e=>g (by rw[hs3 _ rfl];exact e)
     by_cases fo:(s.drop 10).getD 0 0∈ [84,116,32]
     ·obtain⟨rfl,_⟩:=s3.pos fo
      have e:=Sh fd hne fo
      unfold UZ at s4
      dsimp only at s4
      rw[List.drop_drop]at s4
      cases hc:GM (s.drop (10+1))with
      | none=>
       rw[hc]at s4 e
       dsimp only at s4
       subst s4
       obtain rfl:T5=none:=s5
       exact B5 e
      | some p=>
       obtain⟨h',mi',sc',f',r'⟩:=p
       rw[hc]at s4 e
       dsimp only at s4 e
       obtain⟨rfl,rfl,rfl,rfl,rfl⟩:=s4
       have hr:r'≠ []:=fun e=>g4 (by rw[hs4 _ rfl];exact e)
       unfold tmO at e
       rw[if_neg hr]at e
       by_cases h5:T5=some []
       ·obtain⟨ls,ho,hl⟩:=s5.1 h5
        rw[ho]at e
        exact⟨fun _=>by rw[e];exact fin4 _ _ _ _ _ _ _ _ _ _ _ hl,fun h=>absurd h5 h⟩
       ·have ho:=s5.2 h5
        rw[ho]at e
        exact⟨fun h=>absurd h h5,fun _=>e⟩
     ·obtain rfl:=s3.neg fo
      obtain rfl:T4=none:=s4
      obtain rfl:T5=none:=s5
      exact B5 (Sg fd hne fo)
    ·obtain rfl:=nofd fd
     obtain rfl:T5=none:=s5
     exact B5 (by rw[M6 hnc fd])
abbrev KT (K:Int->Int->Int->Int->Int->St->Prop) (r:TmR) (st:St):Prop:=K r.1 r.2.1 r.2.2.1 r.2.2.2.1 r.2.2.2.2 st
theorem VF {h mi sc nn:Nat} (h1:h<100) (h2:mi<100) (h3:sc<100) (h4:nn<1000000000):
  i64.wrap ((i64.wrap ((i64.wrap ((i64.wrap ((i64.wrap ((i64.wrap (((h:Nat):Int)*60))+((mi:Nat):Int)))*60))+((sc:Nat):Int)))*1000000000))+((nn:Nat):Int))=((FZ h mi sc nn:Nat):Int):=by
 rw[Af (((h:Nat):Int)*60) (by omega) (by omega),Af (((h:Nat):Int)*60+((mi:Nat):Int)) (by omega) (by omega),Af ((((h:Nat):Int)*60+((mi:Nat):Int))*60) (by omega) (by omega),Af ((((h:Nat):Int)*60+((mi:Nat):Int))*60+((sc:Nat):Int)) (by omega) (by omega),Af (((((h:Nat):Int)*60+((mi:Nat):Int))*60+((sc:Nat):Int))*1000000000) (by omega) (by omega),Af _ (by omega) (by omega)]
 unfold FZ;omega
theorem Za {oh om:Nat} (h1:oh<100) (h2:om<100):i64.wrap ((i64.wrap (((oh:Nat):Int)*60))+((om:Nat):Int))=((oh*60+om:Nat):Int):=by
 rw[Af (((oh:Nat):Int)*60) (by omega) (by omega),Af _ (by omega) (by omega)];omega
theorem tP_ok {s:B8} (hl:s.length<=1000000) {st:St} {K:Int->Int->Int->Int->Int->St->Prop} (hk:∀st',Al st st'->KT K (tmP s) st'):CallT PR Dc [.str s] [.agg [.int .i64,.int .i64,.int .i64,.int .i64],.one (.int .i64)] st K:=by
 refine On s st K (YD (r:=st.nb) (f:=st.nb+1) (s:=s) ?_ fun n1 y mo d h mi sc nn sg oh om st1 T a1 a2 a3 a4 a5 a6 a7 a8 a9 a10 a11 e1 m1 hF=>?_)
 ·refine⟨⟨?_,?_,hl⟩,?_,?_,?_⟩
  ·simp[St.push];omega
  ·simp[St.push]
  ·simp[St.push]
  ·simp[St.push,fcT]
  ·omega
 ·have E:Al st st1:=StX.ext (((Al.refl st).push _ _).push _ _) e1 (by
   rintro i (rfl | rfl)
   ·exact Nat.le_refl _
   ·exact Nat.le_succ _)
  obtain⟨hF1,hF2⟩:=hF
  have cell:∀i v,(fcT y mo d h mi sc nn sg oh om)[i]? =some v->Ad st1 [] (.t (.box (st.nb+1) i)) 0=some v:=fun i v hv=>by
   simp only[Ad,m1.2.2.1,Nat.add_zero];exact hv
  have c0:=cell 0 _ rfl
  have c1:=cell 1 _ rfl
  have c2:=cell 2 _ rfl
  have c3:=cell 3 _ rfl
  have c4:=cell 4 _ rfl
  have c5:=cell 5 _ rfl
  have c6:=cell 6 _ rfl
  have c7:=cell 7 _ rfl
  have c8:=cell 8 _ rfl
  have c9:=cell 9 _ rfl
  clear cell
  obtain⟨hr,t,hb,_,ht⟩:=m1.1.get
  have k0:Ad st1 [] (.t (.box st.nb 0)) 0=some (.str t):=by simp[Ad,hb]
  have k1:Ad st1 [] (.t (.box st.nb 1)) 0=some (.bool T.isNone):=by simp[Ad,hb]
  have bad:T≠some []->K 0 0 0 0 3 st1:=fun hT=>by
   have:=hk st1 E
   rw[hF2 hT]at this;exact this
  refine Ac k1 (Ap (Aj (fun g=>bad fun e=>by rw[e]at g;cases g) fun g=>Ac k0 (Ak (Aa (fun g1=>bad fun e=>g1 (ht [] e)) fun g1=>?_))))
  have hT:T=some []:=by
   cases T with
   | none=>cases g
   | some x=>rw[<-ht x rfl,Decidable.not_not.1 g1]
  have hV:=hF1 hT
  have hk1:=hk st1 E
  rw[hV]at hk1
  clear hF1 hF2 hV hk bad
  unfold KT P6 at hk1
  have tail:(n1≠2->okD y mo d)->∀D:Int,D=(if n1=2 then 0 else((K9 y mo d:Nat):Int))->okC h mi sc/\oh<=23/\om<=59->K (n1:Nat) D (FZ h mi sc nn:Nat) (if sg=45 then-((oh*60+om:Nat):Int)else((oh*60+om:Nat):Int)) 0 st1:=fun h0 D hD h1=>by
   subst hD
   rw[if_pos ⟨h0,h1⟩]at hk1;exact hk1
  have out:(¬(okC h mi sc/\oh<=23/\om<=59)∨¬(n1≠2->okD y mo d))->K 0 0 0 0 2 st1:=fun hn=>by
   rw[if_neg (fun g=>by
    rcases hn with hn | hn
    ·exact hn g.2
    ·exact hn g.1)]at hk1
   exact hk1
  have end_:(n1≠2->okD y mo d)->∀D:Int,D=(if n1=2 then 0 else((K9 y mo d:Nat):Int))->okC h mi sc/\oh<=23/\om<=59->BIf (decide (((sg:Nat):Int)=45)) (K (n1:Nat) D (FZ h mi sc nn:Nat) (i64.wrap (0-((oh*60+om:Nat):Int))) 0 st1) (K (n1:Nat) D (FZ h mi sc nn:Nat) ((oh*60+om:Nat):Int) 0 st1):=fun h0 D hD h1=>by
   have:=tail h0 D hD h1
   refine Aa (fun g=>?_) fun g=>?_
   ·rw[if_pos (by omega)]at this
    rw[Af _ (by omega) (by omega),show(0:Int)-((oh*60+om:Nat):Int)= -((oh*60+om:Nat):Int) by omega];exact this
   ·rw[if_neg (by omega)]at this;exact this
  have okc:∀{a b c:Nat},¬(23:Int)<(a:Nat)->¬(59:Int)<(b:Nat)->¬(59:Int)<(c:Nat)->okC a b c:=fun x y z=>⟨by omega,by omega,by omega⟩
  refine Aa (fun g2=>?_) fun g2=>?_
  ·refine Ac c0 (AB (Ac c1 (AB (Ac c2 (AB (cday_ok (by omega) (by omega) (by omega) ?_))))))
   by_cases hD:okD y mo d
   ·rw[if_pos hD,if_pos hD]
    refine Aa (fun g=>absurd rfl g) fun _=>Ac c3 (AB (Aa (fun g=>out (.inl fun k=>by have:=k.1.1;omega)) fun k1=>Ac c4 (AB (Aa (fun g=>out (.inl fun k=>by have:=k.1.2.1;omega)) fun k2=>Ac c5 (AB (Aa (fun g=>out (.inl fun k=>by have:=k.1.2.2;omega)) fun k3=>Ac c8 (AB (Aa (fun g=>out (.inl fun k=>by have:=k.2.1;omega)) fun k4=>Ac c9 (AB (Aa (fun g=>out (.inl fun k=>by have:=k.2.2;omega)) fun k5=>?_))))))))))
    refine Ac c3 (AB (Ac c4 (AB (Ac c5 (AB (Ac c6 (AB (Ac c8 (AB (Ac c9 (AB (Ac c7 (AB ?_)))))))))))))
    rw[VF a5 a6 a7 a8,Za a10 a11]
    exact end_ (fun _=>hD) _ (by rw[if_neg (by omega)]) ⟨okc k1 k2 k3,by omega,by omega⟩
   ·rw[if_neg hD,if_neg hD]
    exact Aa (fun _=>out (.inr fun k=>hD (k (by omega)))) fun g=>absurd (by decide) g
  ·refine Ac c3 (AB (Aa (fun g=>out (.inl fun k=>by have:=k.1.1;omega)) fun k1=>Ac c4 (AB (Aa (fun g=>out (.inl fun k=>by have:=k.1.2.1;omega)) fun k2=>Ac c5 (AB (Aa (fun g=>out (.inl fun k=>by have:=k.1.2.2;omega)) fun k3=>Ac c8 (AB (Aa (fun g=>out (.inl fun k=>by have:=k.2.1;omega)) fun k4=>Ac c9 (AB (Aa (fun g=>out (.inl fun k=>by have:=k.2.2;omega)) fun k5=>?_))))))))))
   refine Ac c3 (AB (Ac c4 (AB (Ac c5 (AB (Ac c6 (AB (Ac c8 (AB (Ac c9 (AB (Ac c7 (AB ?_)))))))))))))
   rw[VF a5 a6 a7 a8,Za a10 a11]
   exact end_ (fun h=>absurd (by omega) h) _ (by rw[if_pos (by omega)]) ⟨okc k1 k2 k3,by omega,by omega⟩
def HY (form s:B8):Prop:=form.length<=s.length/\∀i,i<form.length->if form.getD i 0=100 then AK (s.getD i 0)else s.getD i 0=form.getD i 0
instance (form s:B8):Decidable (HY form s):=inferInstanceAs (Decidable (_/\_))
theorem Mq {s form:B8} (hl:s.length<=100000000) {st:St} {K:Bool->St->Prop} (hk:K (decide (HY form s)) st):CallT PR Bf [.str s,.str form] [.one .bool] st K:=by
 have no:¬HY form s->K false st:=fun h=>by rw[decide_eq_false h]at hk;exact hk
 refine J0 s form st K (Aa (fun g=>no fun h=>by have:=h.1;omega) fun g=>?_)
 refine⟨fun i s' f' st'=>s=s'/\form=f'/\st=st'/\∃k:Nat,i=k/\k<=form.length/\∀j,j<k->if form.getD j 0=100 then AK (s.getD j 0)else s.getD j 0=form.getD j 0,fun i _ _ _=>(form.length-i).toNat,⟨rfl,rfl,rfl,0,rfl,Nat.zero_le _,fun j h=>absurd h (Nat.not_lt_zero _)⟩,?_⟩
 rintro _ _ _ _ ⟨rfl,rfl,rfl,k,rfl,hk1,hd⟩
 rw[Int.toNat_natCast,Af _ (by omega) (by omega)]
 have next:(if form.getD k 0=100 then AK (s.getD k 0)else s.getD k 0=form.getD k 0)->∀j,j<k+1->if form.getD j 0=100 then AK (s.getD j 0)else s.getD j 0=form.getD j 0:=fun h j hj=>by
  by_cases hjk:j=k
  ·subst hjk;exact h
  ·exact hd j (by omega)
 have nxt:= @next
 refine Aa (fun g1=>⟨⟨by omega,g1⟩,Aa (fun g2=>⟨⟨by omega,by omega⟩,Aa (fun g3=>no fun h=>?_) fun g3=>⟨⟨by omega,by omega⟩,Aa (fun g4=>no fun h=>?_) fun g4=>⟨⟨by omega,g1⟩,Aa (fun g5=>absurd g2 g5) fun _=>⟨⟨rfl,rfl,rfl,k+1,by omega,by omega,nxt ?_⟩,by dsimp only;omega⟩⟩⟩⟩) fun g2=>⟨⟨by omega,g1⟩,Aa (fun g5=>⟨⟨by omega,by omega⟩,⟨by omega,g1⟩,Aa (fun g6=>no fun h=>?_) fun g6=>⟨⟨rfl,rfl,rfl,k+1,by omega,by omega,nxt ?_⟩,by dsimp only;omega⟩⟩) fun g5=>absurd g2 g5⟩⟩) fun g1=>?_
 ·have:=h.2 k (by omega)
  rw[if_pos ((u8i (k:=100)).1 g2)]at this
  have:=this.1;omega
 ·have:=h.2 k (by omega)
  rw[if_pos ((u8i (k:=100)).1 g2)]at this
  have:=this.2;omega
 ·rw[if_pos ((u8i (k:=100)).1 g2)]
  exact⟨by omega,by omega⟩
 ·have:=h.2 k (by omega)
  rw[if_neg fun e=>g2 ((u8i (k:=100)).2 e)]at this
  exact g6 (by rw[this])
 ·rw[if_neg fun e=>g2 ((u8i (k:=100)).2 e)]
  exact UInt8.toNat_inj.1 (Int.ofNat.inj (Decidable.not_not.1 g6))
 ·have:HY form s:=⟨by omega,fun i hi=>hd i (by omega)⟩
  rw[decide_eq_true this]at hk;exact hk
theorem like_C (s:B8):HY [100,100,58,100,100,58,100,100] s↔Ks s:=by
 constructor
 ·intro h
  exact⟨⟨h.2 0 (by decide),h.2 1 (by decide)⟩,h.2 2 (by decide),⟨h.2 3 (by decide),h.2 4 (by decide)⟩,h.2 5 (by decide),⟨h.2 6 (by decide),h.2 7 (by decide)⟩⟩
 ·rintro⟨⟨h0,h1⟩,h2,⟨h3,h4⟩,h5,⟨h6,h7⟩⟩
  have hl:=Qn h7
  refine⟨hl,fun i hi=>?_⟩
  rcases (by simp at hi;omega:i=0∨i=1∨i=2∨i=3∨i=4∨i=5∨i=6∨i=7)with rfl | rfl | rfl | rfl | rfl | rfl | rfl | rfl
  ·exact h0
  ·exact h1
  ·exact h2
  ·exact h3
  ·exact h4
  ·exact h5
  ·exact h6
  ·exact h7
theorem like_D (s:B8):HY [100,100,100,100,45,100,100,45,100,100] s↔Eg s:=by
 constructor
 ·intro h
  exact⟨⟨h.2 0 (by decide),h.2 1 (by decide)⟩,⟨h.2 2 (by decide),h.2 3 (by decide)⟩,h.2 4 (by decide),⟨h.2 5 (by decide),h.2 6 (by decide)⟩,h.2 7 (by decide),⟨h.2 8 (by decide),h.2 9 (by decide)⟩⟩
 ·rintro⟨⟨h0,h1⟩,⟨h2,h3⟩,h4,⟨h5,h6⟩,h7,⟨h8,h9⟩⟩
  have hl:=Qn h9
  refine⟨hl,fun i hi=>?_⟩
  rcases (by simp at hi;omega:i=0∨i=1∨i=2∨i=3∨i=4∨i=5∨i=6∨i=7∨i=8∨i=9)with rfl | rfl | rfl | rfl | rfl | rfl | rfl | rfl | rfl | rfl
  ·exact h0
  ·exact h1
  ·exact h2
  ·exact h3
  ·exact h4
  ·exact h5
  ·exact h6
  ·exact h7
  ·exact h8
  ·exact h9
theorem Zn (s:B8) (c:UInt8) (hc:c≠100) (hl:s.length=6):HY [c,100,100,58,100,100] s↔(b0 s 0=c/\dd s 1/\b0 s 3=58/\dd s 4):=by
 constructor
 ·intro h
  have h0:=h.2 0 (by simp)
  rw[show([c,100,100,58,100,100]:B8).getD 0 0=c from rfl,if_neg hc]at h0
  exact⟨h0,⟨h.2 1 (by simp),h.2 2 (by simp)⟩,h.2 3 (by simp),⟨h.2 4 (by simp),h.2 5 (by simp)⟩⟩
 ·rintro⟨h0,⟨h1,h2⟩,h3,⟨h4,h5⟩⟩
  refine⟨by rw[hl];simp,fun i hi=>?_⟩
  rcases (by simp at hi;omega:i=0∨i=1∨i=2∨i=3∨i=4∨i=5)with rfl | rfl | rfl | rfl | rfl | rfl
  ·rw[show([c,100,100,58,100,100]:B8).getD 0 0=c from rfl,if_neg hc];exact h0
  ·exact h1
  ·exact h2
  ·exact h3
  ·exact h4
  ·exact h5
theorem EE {l:B8} (hl:l.length<=18) (hd:∀c,c∈l->AK c) {N:Nat} (hN:N=BJ l) {st:St} {K:Int->St->Prop} (hk:K (N:Nat) st):CallT PR At [.str l] [.one (.int .i64)] st K:=by
 subst hN
 refine Ih l st K ⟨fun n i l' st'=>l=l'/\st=st'/\∃k:Nat,i=k/\k<=l.length/\n=(BJ (l.take k):Nat),fun _ i _ _=>(l.length-i).toNat,⟨rfl,rfl,0,rfl,Nat.zero_le _,rfl⟩,?_⟩
 rintro _ _ _ _ ⟨rfl,rfl,k,rfl,hkl,rfl⟩
 rw[Int.toNat_natCast]
 refine Aa (fun g=>⟨⟨by omega,g⟩,?_⟩) fun g=>?_
 ·have hk':k<l.length:=by omega
  have hv:=Ip hd hl k hk'
  have hs:=HQ hk'
  obtain⟨c1,c2⟩:=hd _ (GB hk')
  rw[MN _ (by omega) (by omega),Af (_*10) (by omega) (by omega),Af (((l.getD k 0).toNat:Int)-48) (by omega) (by omega),Af (_+_) (by omega) (by omega),Af _ (by omega) (by omega)]
  exact⟨⟨rfl,rfl,k+1,by omega,by omega,by rw[hs];omega⟩,by dsimp only;omega⟩
 ·have:k=l.length:=by omega
  subst this
  rw[List.take_length];exact hk
theorem LA {s:B8} {k m:Nat} (hm:k+2=m) (h:dd s k):((s.take m).drop k).length<=18/\(∀c,c∈(s.take m).drop k->AK c)/\d2 s k=BJ ((s.take m).drop k):=by
 have e:(s.take m).drop k=(s.drop k).take 2:=by rw[List.drop_take];congr 1;omega
 have f:K7 2 (s.drop k):=(numF2 _).2 ((W5 s k 0).2 h)
 rw[e]
 refine⟨by rw[List.length_take];omega,fun c hc=>?_,by rw[val2 f,Xb];rfl⟩
 obtain⟨i,hi⟩:=List.getElem?_of_mem hc
 have hl:=(List.getElem?_eq_some_iff.1 hi).1
 rw[List.length_take]at hl
 rw[List.getElem?_take,if_pos (by omega)]at hi
 have:=f.2 i (by omega)
 rwa [List.getD,hi]at this
theorem MG {s:B8} {k:Nat} (h:dd s k):d2 s k<100:=by
 obtain⟨⟨h1,h2⟩,h3,h4⟩:=h
 unfold d2 dv
 omega
def KCl (K:Int->B8->Bool->Bool->St->Prop) (r:Option (Nat×Nat×Nat×Nat×B8)) (st:St):Prop:=match r with
 | none=>K 0 [] false false st
 | some (h,m,sc,f,r)=>K (FZ h m sc f:Nat) r true (decide (okC h m sc)) st
theorem ZH {f:B8} (hd:∀c,c∈f->AK c) (hl:f.length<=9):MB f<1000000000:=by
 unfold MB
 have:=KJ (f++List.replicate (9-f.length) 48) fun c hc=>by
  rcases List.mem_append.1 hc with hc | hc
  ·exact hd c hc
  ·rw[List.eq_of_mem_replicate hc];decide
 rw[List.length_append,List.length_replicate,show f.length+(9-f.length)=9 by omega]at this
 exact this
theorem YQ {s:B8} (hl:s.length<=1000000) {st:St} {K:Int->B8->Bool->Bool->St->Prop} (hk:KCl K (GM s) st):CallT PR AL [.str s] [.one (.int .i64),.one .str,.one .bool,.one .bool] st K:=by
 refine GS s st K (Mq (by omega) ?_)
 show BIf (!decide (HY [100,100,58,100,100,58,100,100] s)) _ _
 rw[decide_eq_decide.2 (like_C s)]
 unfold GM at hk
 by_cases fc:Ks s
 ·rw[if_pos fc]at hk
  rw[decide_eq_true fc]
  refine Aj (fun h=>by cases h) fun _=>?_
  have hlen:=Qn fc.2.2.2.2.2
  obtain⟨n1,n2,n3⟩:=LA (k:=0) (m:=2) rfl fc.1
  obtain⟨m1,m2,m3⟩:=LA (k:=3) (m:=5) rfl fc.2.2.1
  obtain⟨p1,p2,p3⟩:=LA (k:=6) (m:=8) rfl fc.2.2.2.2
  rw[List.drop_zero]at n1 n2 n3
  have a1:=MG fc.1
  have a2:=MG fc.2.2.1
  have a3:=MG fc.2.2.2.2
  refine⟨⟨by omega,by omega⟩,⟨by omega,by omega,by omega⟩,⟨by omega,by omega,by omega⟩,EE n1 n2 n3 (EE m1 m2 m3 (EE p1 p2 p3 ⟨⟨by omega,by omega⟩,?_⟩))⟩
  rw[show Int.toNat (8:Int)=8 from rfl,show Int.toNat (0:Int)=0 from rfl]
  generalize d2 s 0=h at*
  generalize d2 s 3=m at*
  generalize d2 s 6=sc at*
  clear n1 n2 n3 m1 m2 m3 p1 p2 p3
  --what is returned
  have ret:∀(f:Nat) (r:B8),f<1000000000->K (FZ h m sc f:Nat) r true (decide (okC h m sc)) st->BIf (decide (((h:Nat):Int)<=23)) (BIf (decide (((m:Nat):Int)<=59)) (K (i64.wrap ((i64.wrap ((i64.wrap ((i64.wrap ((i64.wrap ((i64.wrap (((h:Nat):Int)*60))+((m:Nat):Int)))*60))+((sc:Nat):Int)))*1000000000))+((f:Nat):Int))) r true (decide (((sc:Nat):Int)<=59)) st) (K (i64.wrap ((i64.wrap ((i64.wrap ((i64.wrap ((i64.wrap ((i64.wrap (((h:Nat):Int)*60))+((m:Nat):Int)))*60))+((sc:Nat):Int)))*1000000000))+((f:Nat):Int))) r true false st)) (K (i64.wrap ((i64.wrap ((i64.wrap ((i64.wrap ((i64.wrap ((i64.wrap (((h:Nat):Int)*60))+((m:Nat):Int)))*60))+((sc:Nat):Int)))*1000000000))+((f:Nat):Int))) r true false st):=fun f r hf hk'=>by
   rw[VF a1 a2 a3 hf]
   refine Aa (fun g1=>Aa (fun g2=>?_) fun g2=>?_) fun g1=>?_
   ·have:decide (okC h m sc)=decide (((sc:Nat):Int)<=59):=decide_eq_decide.2 ⟨fun k=>by have:=k.2.2;omega,fun k=>⟨by omega,by omega,by omega⟩⟩
    rw[this]at hk';exact hk'
   ·rw[decide_eq_false fun k:okC h m sc=>by have:=k.2.1;omega]at hk';exact hk'
   ·rw[decide_eq_false fun k:okC h m sc=>by have:=k.1;omega]at hk';exact hk'
  have h8:(s.drop 8).getD 0 0=b0 s 8:=by rw[show(s.drop 8).getD 0 0=b0 (s.drop 8) 0 from rfl,Gf]
  rw[h8]
  have plain:b0 s 8≠46->K (FZ h m sc 0:Nat) (s.drop 8) true (decide (okC h m sc)) st:=fun h=>by rw[if_neg h]at hk;exact hk
  refine Aa (fun g=>⟨⟨by omega,g⟩,Aa (fun g1=>?_) fun g1=>ret 0 _ (by decide) (plain fun e=>g1 ((u8i (k:=46)).2 e))⟩) fun g=>ret 0 _ (by decide) (plain fun e=>?_)
  ·have g46:=(u8i (k:=46)).1 g1
   rw[if_pos g46]at hk
   have hd9:s.drop 9=(s.drop 8).drop 1:=by rw[List.drop_drop]
   rw[hd9]at hk
   have hl8:(s.drop 8).length<=1000000:=by rw[List.length_drop];omega
   have hfin:∀n,s.drop (9+n)=(s.drop 8).drop (1+n):=fun n=>by rw[List.drop_drop];congr 1;omega
   rw[hfin]at hk
   have hpos:0<(s.drop 8).length:=by omega
   generalize s.drop 8=t at*
   clear hfin hd9
   have hrl:=DX (t.drop 1)
   rw[List.length_drop]at hrl
   have hrd:=GJ (t.drop 1)
   refine⟨fun n t' h' m' sc' st'=>t=t'/\((h:Nat):Int)=h'/\((m:Nat):Int)=m'/\((sc:Nat):Int)=sc'/\st=st'/\∃j:Nat,n=((1+j:Nat):Int)/\1+j<=t.length/\∀i,i<j->AK ((t.drop 1).getD i 0),fun n _ _ _ _ _=>(t.length-n).toNat,⟨rfl,rfl,rfl,rfl,rfl,0,rfl,by omega,fun j h=>absurd h (Nat.not_lt_zero _)⟩,?_⟩
   rintro _ _ _ _ _ _ ⟨rfl,rfl,rfl,rfl,rfl,j,rfl,hj,hd⟩
   rw[Int.toNat_natCast]
   have hget:(t.drop 1).getD j 0=t.getD (1+j) 0:=Gf t 1 j
   have run:(1+j=t.length∨¬AK (t.getD (1+j) 0))->(Au (t.drop 1)).length=j:=fun hs=>H6 (t.drop 1) j (by rw[List.length_drop];omega) hd (by
    rcases hs with hs | hs
    ·left;rw[List.length_drop];omega
    ·right;rw[hget];exact hs)
   have tail:(1+j=t.length∨¬AK (t.getD (1+j) 0))->BIf (decide (((1+j:Nat):Int)<2)) (K 0 [] false false st) (BIf (decide (10<((1+j:Nat):Int))) (K 0 [] false false st) ((0<=(1:Int)/\(1:Int)<=((1+j:Nat):Int)/\((1+j:Nat):Int)<=((t.length:Nat):Int))/\((List.drop (Int.toNat (1:Int)) (List.take (1+j) t)).length+Fz.length<=9223372036854775807/\((0<=(9:Int)/\(9:Int)<=(((List.drop (Int.toNat (1:Int)) (List.take (1+j) t)++Fz).length:Nat):Int))/\
     CallT PR At [.str (List.take (Int.toNat (9:Int)) (List.drop (Int.toNat (1:Int)) (List.take (1+j) t)++Fz))] [.one (.int .i64)] st fun n4 st6=>((0<=((1+j:Nat):Int)/\((1+j:Nat):Int)<=((t.length:Nat):Int))/\BIf (decide (((h:Nat):Int)<=23)) (BIf (decide (((m:Nat):Int)<=59)) (K (i64.wrap ((i64.wrap ((i64.wrap ((i64.wrap ((i64.wrap ((i64.wrap (((h:Nat):Int)*60))+((m:Nat):Int)))*60))+((sc:Nat):Int)))*1000000000))+n4)) (List.drop (1+j) t) true (decide (((sc:Nat):Int)<=59)) st6) (K (i64.wrap ((i64.wrap ((i64.wrap ((i64.wrap ((i64.wrap ((i64.wrap (((h:Nat):Int)*60))+((m:Nat):Int)))*60))+((sc:Nat):Int)))*1000000000))+n4)) (List.drop (1+j) t) true false st6)) (K (i64.wrap ((i64.wrap ((i64.wrap ((i64.wrap ((i64.wrap ((i64.wrap (((h:Nat):Int)*60))+((m:Nat):Int)))*60))+((sc:Nat):Int)))*1000000000))+n4)) (List.drop (1+j) t) true false st6)))))):=fun hs=>by
    have hr:=run hs
    have htk:List.drop (Int.toNat (1:Int)) (List.take (1+j) t)=Au (t.drop 1):=by
     show(t.take (1+j)).drop 1=_
     rw[List.drop_take,Nat.add_sub_cancel_left,<-hr,Ep]
    rw[htk]
    rw[hr]at hk
    generalize Au (t.drop 1)=f at*
    refine Aa (fun g2=>?_) fun g2=>Aa (fun g3=>?_) fun g3=>⟨⟨by omega,by omega,by omega⟩,?_,⟨by omega,?_⟩,?_⟩
    ·rw[if_pos (.inl (List.length_eq_zero_iff.1 (by omega)))]at hk;exact hk
    ·rw[if_pos (.inr (by omega))]at hk;exact hk
    ·show f.length+9<=_;omega
    ·rw[List.length_append];show(9:Int)<=((f.length+9:Nat):Int);omega
    ·rw[if_neg (by rintro(e | e);rw[e]at hr;simp at hr;omega;omega)]at hk
     have hlt:=ZH hrd (by omega)
     have he:(f++Fz).take 9=f++List.replicate (9-f.length) 48:=by
      rw[List.take_append,List.take_of_length_le (by omega)]
      congr 1
      show(List.replicate 9 (48:UInt8)).take _=_
      rw[List.take_replicate];congr 1;omega
     have hN:MB f=BJ ((f++Fz).take (Int.toNat (9:Int))):=by
      show _=BJ ((f++Fz).take 9)
      rw[he];rfl
     refine EE (N:=MB f) ?_ ?_ hN ⟨⟨by omega,by omega⟩,ret _ _ hlt hk⟩
     ·show((f++Fz).take 9).length<=18;rw[List.length_take];omega
     ·show ∀c,c∈(f++Fz).take 9->AK c
      rw[he]
      intro c hc
      rcases List.mem_append.1 hc with hc | hc
      ·exact hrd c hc
      ·rw[List.eq_of_mem_replicate hc];decide
   refine Aa (fun g2=>⟨⟨by omega,g2⟩,Aa (fun g3=>⟨⟨by omega,g2⟩,Aa (fun g4=>?_) fun g4=>?_⟩) fun g3=>?_⟩) fun g2=>?_
   ·rw[Af _ (by omega) (by omega)]
    refine⟨⟨rfl,rfl,rfl,rfl,rfl,j+1,by omega,by omega,fun i hi=>?_⟩,by dsimp only;omega⟩
    by_cases hij:i=j
    ·subst hij;rw[hget];exact⟨by omega,by omega⟩
    ·exact hd i (by omega)
   ·exact tail (.inr fun h=>g4 (by have:=h.2;omega))
   ·exact tail (.inr fun h=>g3 (by have:=h.1;omega))
   ·exact tail (.inl (by omega))
  ·have:=MK (by decide) e
   rw[List.length_drop]at g
   omega
 ·rw[if_neg fc]at hk
  rw[decide_eq_false fc]
  exact Aj (fun _=>hk) fun h=>by cases h
def KOf (K:Int->Bool->Bool->St->Prop) (r:Option (Bool×Nat×Nat)) (st:St):Prop:=match r with
 | none=>K 0 false false st
 | some (ls,oh,om)=>K (if ls then-((oh*60+om:Nat):Int)else((oh*60+om:Nat):Int)) true (decide (oh<=23/\om<=59)) st
theorem rto_ok {s:B8} (hl:s.length<=1000000) {st:St} {K:Int->Bool->Bool->St->Prop} (hk:KOf K (Oz s) st):CallT PR AR [.str s] [.one (.int .i64),.one .bool,.one .bool] st K:=by
 unfold Oz at hk
 refine Gm s st K (Aa (fun g=>?_) fun g=>Aa (fun g2=>?_) fun g2=>Aa (fun g3=>?_) fun g3=>?_)
 ·rw[if_pos (.inl g)]at hk;exact hk
 ·rw[if_pos (.inr g2)]at hk;exact hk
 ·have nz:¬(s=[90]∨s=[122]):=by rintro(h | h);exact g h;exact g2 h
  rw[if_neg nz,if_neg fun h=>by have:=h.1;omega]at hk;exact hk
 ·have nz:¬(s=[90]∨s=[122]):=by rintro(h | h);exact g h;exact g2 h
  rw[if_neg nz]at hk
  have h6:s.length=6:=by omega
  have tail:∀c:UInt8,b0 s 0=c->(c=43∨c=45)->dd s 1->b0 s 3=58->dd s 4->((0<=(1:Int)/\(1:Int)<=3/\(3:Int)<=((s.length:Nat):Int))/\((0<=(4:Int)/\(4:Int)<=6/\(6:Int)<=((s.length:Nat):Int))/\
    CallT PR At [.str (List.drop (Int.toNat (1:Int)) (List.take (Int.toNat (3:Int)) s))] [.one (.int .i64)] st fun n1 st3=>CallT PR At [.str (List.drop (Int.toNat (4:Int)) (List.take (Int.toNat (6:Int)) s))] [.one (.int .i64)] st3 fun n2 st4=>((0<=(0:Int)/\(0:Int)<((s.length:Nat):Int))/\
     BIf (decide (((List.getD s (Int.toNat (0:Int)) 0).toNat:Int)=45)) (BIf (decide (n1<=23)) (K (i64.wrap (0-i64.wrap (i64.wrap (n1*60)+n2))) true (decide (n2<=59)) st4) (K (i64.wrap (0-i64.wrap (i64.wrap (n1*60)+n2))) true false st4)) (BIf (decide (n1<=23)) (K (i64.wrap (i64.wrap (n1*60)+n2)) true (decide (n2<=59)) st4) (K (i64.wrap (i64.wrap (n1*60)+n2)) true false st4))))):=fun c h0 hc f1 f3 f4=>by
   obtain⟨n1,n2,n3⟩:=LA (k:=1) (m:=3) rfl f1
   obtain⟨m1,m2,m3⟩:=LA (k:=4) (m:=6) rfl f4
   have a1:=MG f1
   have a2:=MG f4
   rw[if_pos ⟨h6,(by rcases hc with rfl | rfl;exact .inl h0;exact .inr h0),f1,f3,f4⟩]at hk
   refine⟨⟨by omega,by omega,by omega⟩,⟨by omega,by omega,by omega⟩,EE n1 n2 n3 (EE m1 m2 m3 ⟨⟨by omega,by omega⟩,?_⟩)⟩
   generalize d2 s 1=oh at*
   generalize d2 s 4=om at*
   have hw:i64.wrap (i64.wrap (((oh:Nat):Int)*60)+((om:Nat):Int))=((oh*60+om:Nat):Int):=Za a1 a2
   rw[hw]
   change K (if decide (b0 s 0=45)=true then-((oh*60+om:Nat):Int)else((oh*60+om:Nat):Int)) true (decide (oh<=23/\om<=59)) st at hk
   have hin:∀z:Int,K z true (decide (oh<=23/\om<=59)) st->BIf (decide (((oh:Nat):Int)<=23)) (K z true (decide (((om:Nat):Int)<=59)) st) (K z true false st):=fun z hz=>Aa (fun g=>by
    rw[decide_eq_decide.2 (show(oh<=23/\om<=59)↔((om:Nat):Int)<=59 from⟨fun h=>by omega,fun h=>⟨by omega,by omega⟩⟩)]at hz;exact hz) fun g=>by
    rw[decide_eq_false fun h:oh<=23/\om<=59=>by omega]at hz;exact hz
   refine Aa (fun g=>hin _ ?_) fun g=>hin _ ?_
   ·have e:b0 s 0=45:=(u8i (k:=45)).1 g
    rw[if_pos (by simpa using e)]at hk
    rw[Af _ (by omega) (by omega),show(0:Int)-((oh*60+om:Nat):Int)= -((oh*60+om:Nat):Int) by omega];exact hk
   ·have e:¬b0 s 0=45:=fun e=>g ((u8i (k:=45)).2 e)
    rw[if_neg (by simpa using e)]at hk;exact hk
  have L1:=Zn s 43 (by decide) h6
  have L2:=Zn s 45 (by decide) h6
  refine Mq (by omega) (Aj (fun b1=>Mq (by omega) (Aj (fun b2=>?_) fun b2=>?_)) fun b1=>?_)
  ·have x1:¬HY [43,100,100,58,100,100] s:=by have h:=b1;simp at h;exact h
   have x2:¬HY [45,100,100,58,100,100] s:=by have h:=b2;simp at h;exact h
   rw[if_neg]at hk
   ·exact hk
   ·rintro⟨_,h | h,h2,h3,h4⟩
    ·exact x1 (L1.2 ⟨h,h2,h3,h4⟩)
    ·exact x2 (L2.2 ⟨h,h2,h3,h4⟩)
  ·have x2:HY [45,100,100,58,100,100] s:=by have h:=b2;simp at h;exact h
   obtain⟨y1,y2,y3,y4⟩:=L2.1 x2
   exact tail 45 y1 (.inr rfl) y2 y3 y4
  ·have x1:HY [43,100,100,58,100,100] s:=by have h:=b1;simp at h;exact h
   obtain⟨y1,y2,y3,y4⟩:=L1.1 x1
   exact tail 43 y1 (.inl rfl) y2 y3 y4
theorem Vq {y:Nat} (h1:1<=y) (h2:y<=9999) {st:St} {K:Int->St->Prop} (hk:K (yrS y:Nat) st):CallT PR CT [.int .i64 (y:Nat)] [.one (.int .i64)] st K:=by
 refine Ij _ st K ⟨fun n i y' st'=>((y:Nat):Int)=y'/\st=st'/\∃j:Nat,i=j/\1<=j/\j<=y/\n=(yrS j:Nat),fun _ i _ _=>(y-i).toNat,⟨rfl,rfl,1,rfl,by omega,by omega,rfl⟩,?_⟩
 rintro _ _ _ _ ⟨rfl,rfl,j,rfl,hj1,hj2,rfl⟩
 have hy:yrS j<=4000000:=by unfold yrS;omega
 refine Aa (fun g=>LG hj1 (by omega) ?_) fun g=>?_
 ·have:=KQ j 12
  have:=Fn j 12
  rw[Af _ (by omega) (by omega),Af _ (by omega) (by omega)]
  exact⟨⟨rfl,rfl,j+1,by omega,by omega,by omega,by rw[JJ hj1];omega⟩,by dsimp only;omega⟩
 ·have:j=y:=by omega
  subst this;exact hk
theorem rDay_ok {y m d:Nat} (hy:y<=100000) (hm:m<=1000) (hd:d<=1000) {st:St} {K:Int->Int->St->Prop} (hk:K (if okD y m d then(K9 y m d:Nat)else 0) (if okD y m d then 0 else 2) st):
  CallT PR D7 [.int .i64 (y:Nat),.int .i64 (m:Nat),.int .i64 (d:Nat)] [.one (.int .i64),.one (.int .i64)] st K:=by
 refine K5 _ _ _ st K (Aa (fun g=>?_) fun g=>HV (by omega) (Aa (fun g2=>?_) fun g2=>?_))
 ·have hn:¬okD y m d:=fun h=>by have:=h.2.2.2.2.1;omega
  rw[if_neg hn,if_neg hn]at hk;exact hk
 ·have hn:¬okD y m d:=fun h=>by
   obtain⟨a1,a2,a3,a4,a5,a6⟩:=h
   rw[EG a1 a2 a3 a4]at g2
   omega
  rw[if_neg hn,if_neg hn]at hk;exact hk
 ·have hr:1<=y/\y<=9999/\1<=m/\m<=12:=by
   by_cases h:1<=y/\y<=9999/\1<=m/\m<=12
   ·exact h
   ·rw[show VG y m=0 from if_neg h]at g2
    omega
  obtain⟨a1,a2,a3,a4⟩:=hr
  rw[EG a1 a2 a3 a4]at g2
  have ok:okD y m d:=⟨a1,a2,a3,a4,by omega,by omega⟩
  rw[if_pos ok,if_pos ok]at hk
  have hyr:yrS y<=4000000:=by unfold yrS;omega
  refine Vq a1 a2 ⟨fun n i y' m' d' st'=>((y:Nat):Int)=y'/\((m:Nat):Int)=m'/\((d:Nat):Int)=d'/\st=st'/\∃j:Nat,i=j/\1<=j/\j<=m/\n=((yrS y+EH y j:Nat):Int),fun _ i _ _ _ _=>(m-i).toNat,⟨rfl,rfl,rfl,rfl,1,rfl,by omega,by omega,rfl⟩,?_⟩
  rintro _ _ _ _ _ _ ⟨rfl,rfl,rfl,rfl,j,rfl,hj1,hj2,rfl⟩
  have hms:=KQ y j
  refine Aa (fun g3=>HV (by omega) ?_) fun g3=>?_
  ·have hmd:=Fn y j
   rw[EG a1 a2 hj1 (by omega),Af _ (by omega) (by omega),Af _ (by omega) (by omega)]
   exact⟨⟨rfl,rfl,rfl,rfl,j+1,by omega,by omega,by omega,by rw[DS y hj1];omega⟩,by dsimp only;omega⟩
  ·have:j=m:=by omega
   subst this
   rw[Af (((yrS y+EH y j:Nat):Int)+((d:Nat):Int)) (by omega) (by omega),Af _ (by omega) (by omega)]
   unfold K9 at hk
   rw[show((yrS y+EH y j:Nat):Int)+((d:Nat):Int)-1=((yrS y+EH y j+(d-1):Nat):Int) by omega]
   exact hk
theorem four_at {s:B8} (h1:dd s 0) (h2:dd s 2):(s.take 4).length<=18/\(∀c,c∈s.take 4->AK c)/\d2 s 0*100+d2 s 2=BJ (s.take 4):=by
 have f:K7 4 s:=(Uc _).2 ⟨h1,h2⟩
 refine⟨by rw[List.length_take];omega,fun c hc=>?_,(val4 f).symm⟩
 obtain⟨i,hi⟩:=List.getElem?_of_mem hc
 have hl:=(List.getElem?_eq_some_iff.1 hi).1
 rw[List.length_take]at hl
 rw[List.getElem?_take,if_pos (by omega)]at hi
 have:=f.2 i (by omega)
 rwa [List.getD,hi]at this
theorem rtP_ok {s:B8} (hl:s.length<=1000000) {st:St} {K:Int->Int->Int->Int->Int->St->Prop} (hk:KT K (tmP s) st):CallT PR Dr [.str s] [.agg [.int .i64,.int .i64,.int .i64,.int .i64],.one (.int .i64)] st K:=by
 refine Js s st K (Mq (by omega) ?_)
 show BIf (!decide (HY [100,100,100,100,45,100,100,45,100,100] s)) _ _
 rw[decide_eq_decide.2 (like_D s)]
 unfold KT tmP at hk
 by_cases fd:Eg s
 ·rw[if_pos fd]at hk
  rw[decide_eq_true fd]
  refine Aj (fun h=>by cases h) fun _=>?_
  have hlen:=Qn fd.2.2.2.2.2.2
  obtain⟨n1,n2,n3⟩:=four_at fd.1 fd.2.1
  obtain⟨m1,m2,m3⟩:=LA (k:=5) (m:=7) rfl fd.2.2.2.1
  obtain⟨p1,p2,p3⟩:=LA (k:=8) (m:=10) rfl fd.2.2.2.2.2
  have a0:=MG fd.1
  have a1:=MG fd.2.1
  have a2:=MG fd.2.2.2.1
  have a3:=MG fd.2.2.2.2.2
  refine⟨⟨by omega,by omega⟩,⟨by omega,by omega,by omega⟩,⟨by omega,by omega,by omega⟩,EE n1 n2 n3 (EE m1 m2 m3 (EE p1 p2 p3 (rDay_ok (by omega) (by omega) (by omega) ⟨⟨by omega,by omega⟩,?_⟩)))⟩
  rw[show Int.toNat (10:Int)=10 from rfl,show Int.toNat (0:Int)=0 from rfl]
  generalize d2 s 0*100+d2 s 2=y at*
  generalize d2 s 5=mo at*
  generalize d2 s 8=d at*
  clear n1 n2 n3 m1 m2 m3 p1 p2 p3
  have ht:(s.drop 10).length<=1000000:=by rw[List.length_drop];omega
  generalize s.drop 10=t at*
  unfold tmD at hk
  generalize hn5:(if okD y mo d then((K9 y mo d:Nat):Int)else 0)=n5
  generalize hn6:(if okD y mo d then(0:Int)else 2)=n6
  have ok:okD y mo d->n5=(K9 y mo d:Nat)/\n6=0:=fun h=>by rw[if_pos h]at hn5 hn6;exact⟨hn5.symm,hn6.symm⟩
  have nok:¬okD y mo d->n6=2:=fun h=>by rw[if_neg h]at hn6;exact hn6.symm
  have way:t≠ []->(b0 t 0=84∨b0 t 0=116∨b0 t 0=32)->((0<=(1:Int)/\(1:Int)<=((t.length:Nat):Int))/\CallT PR AL [.str (List.drop (Int.toNat (1:Int)) t)] [.one (.int .i64),.one .str,.one .bool,.one .bool] st fun n7 s2 b4 b5 st7=>BIf (!b4) (K 0 0 0 0 3 st7) (BIf (decide (s2≠([]:B8))) (CallT PR AR [.str s2] [.one (.int .i64),.one .bool,.one .bool] st7 fun n8 b6 b7 st8=>BIf (!b6) (K 0 0 0 0 3 st8) (BIf b5 (BIf (decide (n6≠0)) (K 0 0 0 0 2 st8) (BIf (!b7) (K 0 0 0 0 2 st8) (K 4 n5 n7 n8 0 st8))) (BIf (decide (n6≠0)) (K 0 0 0 0 2 st8) (K 0 0 0 0 2 st8)))) (BIf (decide (n6≠0)) (K 0 0 0 0 2 st7) (BIf (!b5) (K 0 0 0 0 2 st7) (K 3 n5 n7 0 0 st7))))):=fun hne fo=>by
   rw[if_neg hne,if_pos fo]at hk
   have hpos:=List.length_pos_iff.2 hne
   refine⟨⟨by omega,by omega⟩,YQ (by rw[List.length_drop];omega) ?_⟩
   show KCl _ (GM (t.drop 1)) st
   have hcl:∀h m sc f r',GM (t.drop 1)=some (h,m,sc,f,r')->r'.length<=1000000:=fun h m sc f r' he=>by
    unfold GM at he
    split at he
    ·split at he
     ·split at he
      ·cases he
      ·simp only[Option.some.injEq,Prod.mk.injEq]at he
       rw[<-he.2.2.2.2];simp only[List.length_drop];omega
     ·simp only[Option.some.injEq,Prod.mk.injEq]at he
      rw[<-he.2.2.2.2];simp only[List.length_drop];omega
    ·cases he
   cases hc:GM (t.drop 1)with
   | none=>
    rw[hc]at hk
    exact hk
   | some p=>
    obtain⟨h,m,sc,f,r'⟩:=p
    have hr':=hcl _ _ _ _ _ hc
    rw[hc]at hk
    dsimp only at hk
    unfold tmO at hk
    refine Aa (fun g=>rto_ok hr' ?_) fun g=>?_
    ·rw[if_neg g]at hk
     cases ho:Oz r' with
     | none=>
      rw[ho]at hk
      exact hk
     | some q=>
      obtain⟨ls,oh,om⟩:=q
      rw[ho]at hk
      dsimp only at hk
      refine Aa (fun gc=>Aa (fun g6=>?_) fun g6=>Aj (fun g7=>?_) fun g7=>?_) fun gc=>?_
      ·rw[if_neg fun k=>g6 (ok k.1).2]at hk;exact hk
      ·have:¬(oh<=23/\om<=59):=by have h:=g7;simp at h;omega
       rw[if_neg fun k=>this k.2.2]at hk;exact hk
      ·have hin:oh<=23/\om<=59:=by have h:=g7;simp at h;exact h
       have hD:okD y mo d:=Decidable.byContradiction fun h=>by have:=nok h;omega
       rw[if_pos ⟨hD,gc,hin⟩]at hk
       rw[(ok hD).1];exact hk
      ·rw[if_neg fun k=>gc k.2.1]at hk
       exact Aa (fun _=>hk) fun _=>hk
    ·have hr:r'=[]:=Decidable.not_not.1 g
     rw[if_pos hr]at hk
     subst hr
     refine Aa (fun g6=>?_) fun g6=>Aj (fun g7=>?_) fun g7=>?_
     ·rw[if_neg fun k=>g6 (ok k.1).2]at hk;exact hk
     ·have:¬okC h m sc:=by have h:=g7;simp at h;exact h
      rw[if_neg fun k=>this k.2]at hk;exact hk
     ·have hin:okC h m sc:=by have h:=g7;simp at h;exact h
      have hD:okD y mo d:=Decidable.byContradiction fun h=>by have:=nok h;omega
      rw[if_pos ⟨hD,hin⟩]at hk
      rw[(ok hD).1];exact hk
  refine Aa (fun g=>?_) fun g=>?_
  ·rw[if_pos g]at hk
   refine Aa (fun g6=>?_) fun g6=>?_
   ·have hn:¬okD y mo d:=fun h=>g6 (ok h).2
    rw[if_neg hn]at hk
    rw[nok hn];exact hk
   ·have hD:okD y mo d:=Decidable.byContradiction fun h=>by have:=nok h;omega
    rw[if_pos hD]at hk
    rw[(ok hD).1];exact hk
  ·have hpos:=List.length_pos_iff.2 g
   refine⟨⟨by omega,by omega⟩,Aa (fun g1=>⟨⟨by omega,by omega⟩,Aa (fun g2=>⟨⟨by omega,by omega⟩,Aa (fun g3=>?_) fun g3=>way g (.inr (.inr ((u8i (k:=32)).1 (Decidable.not_not.1 g3))))⟩) fun g2=>way g (.inr (.inl ((u8i (k:=116)).1 (Decidable.not_not.1 g2))))⟩) fun g1=>way g (.inl ((u8i (k:=84)).1 (Decidable.not_not.1 g1)))⟩
   rw[if_neg g,if_neg]at hk
   ·exact hk
   ·rintro(h | h | h)
    ·exact g1 ((u8i (k:=84)).2 h)
    ·exact g2 ((u8i (k:=116)).2 h)
    ·exact g3 ((u8i (k:=32)).2 h)
 ·rw[if_neg fd]at hk
  rw[decide_eq_false fd]
  refine Aj (fun _=>YQ hl ?_) fun h=>by cases h
  cases hc:GM s with
  | none=>
   rw[hc]at hk
   exact hk
  | some p=>
   obtain⟨h,m,sc,f,r'⟩:=p
   rw[hc]at hk
   dsimp only at hk
   refine Aa (fun g=>?_) fun g=>Aj (fun g7=>?_) fun g7=>?_
   ·rw[if_neg g]at hk;exact hk
   ·have:¬okC h m sc:=by have h:=g7;simp at h;exact h
    rw[if_pos (Decidable.not_not.1 g),if_neg this]at hk;exact hk
   ·have hin:okC h m sc:=by have h:=g7;simp at h;exact h
    rw[if_pos (Decidable.not_not.1 g),if_pos hin]at hk;exact hk
end Go.TVF
section
namespace Go.TVF
open Go.IntKind(i64 u8)
open Go Go.Proofs Go.RowKit
theorem Sim.grown {g:Ghost} {st:St} {loc:List (Option (List TV))} {w w':World} (s:Sim g st loc w) (h:Below w.heap.size w w'):Sim g st loc w'/\Ext g w g w':=
 s.world h.size (s.below.trans (h.mono s.fits)) h.block
end Go.TVF
end
namespace Go.TVF
open Go.IntKind(i64 u8)
open Go Go.Proofs
def WD (c:Int):Bool:=decide (97<=c/\c<=122∨65<=c/\c<=90∨48<=c/\c<=57∨c=95∨c=45∨c=43∨c=46∨c=58)
def spaceB (c:Int):Bool:=decide (c=32∨c=9)
theorem WJ {st:St} {b:Nat} {l xs:List TV} {k:St->Prop} (hb:st.box b= .cells l) (hl:0+xs.length<=l.length) (hk:k (st.put b (.cells (setAll l 0 xs)))):stB st (.box b 0) xs k:=⟨l,hb,hl,hk⟩
def twl (p:Int->Bool):B8->Nat
 | []=>0
 | c::r=>if p (c.toNat:Int)then twl p r+1 else 0
def Mx (c:Int):Bool:=decide (97<=c/\c<=122∨65<=c/\c<=90)
def Ku (c:Int):Bool:=decide (48<=c/\c<=57)
theorem UD {c:Int} {st:St} {K:Bool->St->Prop} (hk:K (Ku c) st):CallT PR Cc [.int .u8 c] [.one (.bool)] st K:=by
 refine Jl c st K ?_
 unfold Ku at hk
 repeat' (refine Aa (fun _=>?_) fun _=>?_)
 all_goals first | exact B1 (decide_eq_true (by omega)).symm hk | exact B1 (decide_eq_false (by omega)).symm hk | exact B1 (decide_eq_decide.2 (by omega)) hk
def patB:List (Option UInt8)->B8->Bool
 | [],_=>true
 | _::_,[]=>false
 | none::ps,c::cs=>Ku (c.toNat:Int)&&patB ps cs
 | some a::ps,c::cs=>decide (c=a)&&patB ps cs
def mkPat (d:UInt8) (p:B8):List (Option UInt8):=p.map fun c=>if c=d then none else some c
def hexD (c:Nat):Option Nat:=if 48<=c/\c<=57 then some (c-48)else if 97<=c/\c<=102 then some (c-87)else if 65<=c/\c<=70 then some (c-55)else none
def hexS:Nat->B8->Nat->Except Int Nat
 | 0,_,acc=> .ok acc
 | k+1,[],acc=> .error 4
 | k+1,c::cs,acc=>match hexD c.toNat with
  | none=> .error 3
  | some d=>hexS k cs (acc*16+d)
def escS (l:B8):Except Int (Nat×Nat):=
 match hexS 4 l 0 with
 | .error e=> .error e
 | .ok n=>
  if 56320<=n/\n<=57343 then .error 5
  else if n<55296∨57343<n then .ok (n,4)
  else if l.length<=4 then .error 4
  else if bt l 4≠92 then .error 5
  else if l.length<=5 then .error 4
  else if bt l 5≠117 then .error 5
  else match hexS 4 (l.drop 6) 0 with
   | .error e=> .error e
   | .ok m=>if m<56320∨57343<m then .error 5 else .ok (65536+(n-55296)*1024+(m-56320),10)
def simE (c:Nat):Option UInt8:=if c=34 then some 34 else if c=92 then some 92 else if c=47 then some 47 else if c=98 then some 8 else if c=102 then some 12 else if c=110 then some 10 else if c=114 then some 13 else if c=116 then some 9 else none
def qF:Nat->Nat->B8->B8->Nat->Except Int (B8×Nat)
 | 0,_,_,_,_=> .error 4
 | f+1,m,l,acc,n=>
  if l.length=0 then .error 4
  else if bt l 0=m then .ok (acc,n+1)
  else if ul l=0∨bt l 0<32 then .error 5
  else if bt l 0≠92∨m=39 then qF f m (l.drop (ul l)) (acc++l.take (ul l)) (n+ul l)
  else if l.length<=1 then .error 4
  else if bt l 1=117 then match escS (l.drop 2)with
   | .error e=> .error e
   | .ok p=>qF f m (l.drop (2+p.2)) (acc++Gb p.1) (n+(2+p.2))
  else match simE (bt l 1)with
   | none=> .error 3
   | some c=>qF f m (l.drop 2) (acc++[c]) (n+2)
def wlen (l:B8):Nat:=if twl WD l=10/\patB (mkPat 100 [100,100,100,100,45,100,100,45,100,100,32,100,100,58]) l=true then 11+twl WD (l.drop 11)else twl WD l
def cF:Nat->B8->Nat->Option Nat
 | 0,_,_=>none
 | f+1,l,k=>if l.length=0 then some k else if bt l 0=10 then some k else if 1<l.length/\bt l 0=13/\bt l 1=10 then some k
  else if ul l=0 then none else cF f (l.drop (ul l)) (k+ul l)
def tokC (c c1:Nat) (s:B8) (i:Nat):Except Int (Int×Nat):=
 if c=32∨c=9 then .ok (1,i+twl spaceB (s.drop i))
 else if c=10 then .ok (2,i+1)
 else if c=13 then(if s.length=i+1 then .error 4 else if c1=10 then .ok (2,i+2)else .error 3)
 else if c=35 then(match cF (s.length+1) (s.drop i) i with | none=> .error 5 | some k=> .ok (3,k))
 else if c=91∨c=93∨c=123∨c=125∨c=44∨c=61 then .ok (4,i+1)
 else if c=34∨c=39 then(match qF (s.length+1) c (s.drop (i+1)) [] (i+1)with | .error e=> .error e | .ok p=> .ok (5,p.2))
 else if WD (c:Int)=true then .ok (6,i+wlen (s.drop i))else .error 3
def tokS (s:B8) (i:Nat):Except Int (Int×Nat):=tokC (bt (s.drop i) 0) (bt (s.drop i) 1) s i
def nxt (s:B8) (at':Int):Except Int (Int×B8×Int):=
 if at'<0∨(s.length:Int)<at' then .error 1 else if at'=(s.length:Int)then .error 7
 else match tokS s at'.toNat with | .error e=> .error e | .ok p=> .ok (p.1,(s.drop at'.toNat).take (p.2-at'.toNat),at')
theorem H3 (s:B8) (k:Nat):(s.drop k).getD 0 0=s.getD k 0:=by simp[List.getD]
theorem So {s:B8} {k:Nat} (hl:s.length<=1000000000) (hk0:k<=s.length) {I:Int} (hI:I=(k:Nat)) {st:St} {K:Int->St->Prop} (hk:K ((k+(Au (s.drop k)).length:Nat):Int) st):CallT PR BT [.str s,.int .i64 I] [.one (.int .i64)] st K:=by
 subst hI
 refine K6 s _ st K ⟨fun n s' st'=>s=s'/\st=st'/\∃j:Nat,n=((k+j:Nat):Int)/\k+j<=s.length/\∀i,i<j->AK (s.getD (k+i) 0),fun n _ _=>(s.length-n).toNat,⟨rfl,rfl,0,rfl,by omega,fun j h=>absurd h (Nat.not_lt_zero _)⟩,?_⟩
 rintro _ _ _ ⟨rfl,rfl,j,rfl,hj1,hd⟩
 rw[Int.toNat_natCast]
 have fin:(k+j=s.length∨¬AK (s.getD (k+j) 0))->K ((k+j:Nat):Int) st:=fun h=>by
  have:=H6 (s.drop k) j (by rw[List.length_drop];omega) (fun i hi=>by have:=hd i hi;simpa [List.getD]using this) (by
   rcases h with h | h
   ·left;rw[List.length_drop];omega
   ·right;simpa [List.getD]using h)
  rw[this]at hk;exact hk
 refine Aa (fun g=>⟨⟨by omega,g⟩,Aa (fun g1=>⟨⟨by omega,g⟩,Aa (fun g2=>?_) fun g2=>fin (.inr fun h=>g2 (by have:=h.2;omega))⟩) fun g1=>fin (.inr fun h=>g1 (by have:=h.1;omega))⟩) fun g=>fin (.inl (by omega))
 rw[Af _ (by omega) (by omega)]
 refine⟨⟨rfl,rfl,j+1,by omega,by omega,fun i hi=>?_⟩,by dsimp only;omega⟩
 by_cases hij:i=j
 ·subst hij;exact⟨by omega,by omega⟩
 ·exact hd i (by omega)
theorem Tx:∀(s:B8) (k:Nat),k<=s.length->(∀j,j<k->s.getD j 0=48)->(k=s.length∨s.getD k 0≠48)->A6 s=s.drop k
 | [],k,_,_,_=>by simp[A6]
 | a::s,0,_,_,h=>by
  have:a≠48:=by
   rcases h with h | h
   ·simp at h
   ·exact h
  rw[J9 this];rfl
 | a::s,k+1,h1,h2,h3=>by
  have ha:a=48:=h2 0 (by omega)
  subst ha
  have:=LC 1 s
  rw[show List.replicate 1 (48:UInt8)++s=48::s from rfl]at this
  rw[this,List.drop_succ_cons]
  exact Tx s k (by simpa using h1) (fun j hj=>h2 (j+1) (by omega)) (by
   rcases h3 with h3 | h3
   ·exact .inl (by simpa using h3)
   ·exact .inr h3)
theorem Tw {s:B8} (hl:s.length<=1000000000) {st:St} {K:B8->St->Prop} (hk:K (A6 s) st):CallT PR Ch [.str s] [.one .str] st K:=by
 refine JB s st K ⟨fun n s' st'=>s=s'/\st=st'/\∃k:Nat,n=k/\k<=s.length/\∀j,j<k->s.getD j 0=48,fun n _ _=>(s.length-n).toNat,⟨rfl,rfl,0,rfl,Nat.zero_le _,fun j h=>absurd h (Nat.not_lt_zero _)⟩,?_⟩
 rintro _ _ _ ⟨rfl,rfl,k,rfl,hk1,hd⟩
 rw[Int.toNat_natCast]
 have fin:(k=s.length∨s.getD k 0≠48)->K (s.drop k) st:=fun h=>by rw[Tx s k hk1 hd h]at hk;exact hk
 refine Aa (fun g=>⟨⟨by omega,g⟩,Aa (fun g1=>?_) fun g1=>⟨⟨by omega,by omega⟩,fin (.inr fun h=>g1 (u8i (k:=48) |>.2 h))⟩⟩) fun g=>⟨⟨by omega,by omega⟩,fin (.inl (by omega))⟩
 rw[Af _ (by omega) (by omega)]
 refine⟨⟨rfl,rfl,k+1,by omega,by omega,fun j hj=>?_⟩,by dsimp only;omega⟩
 by_cases hjk:j=k
 ·subst hjk;exact(u8i (k:=48)).1 g1
 ·exact hd j (by omega)
theorem XA {l:B8} (hl:l.length<=18) (hd:∀c,c∈l->AK c) (h0:l.getD 0 0≠48) {st:St} {K:Int->Int->St->Prop} (hk:K (BJ l:Nat) 0 st):CallT PR Dv [.str l] [.one (.int .i64),.one (.int .i64)] st K:=by
 refine JA l st K (WO (by omega) ?_)
 have hno:decide (KF l)=true:=decide_eq_true ⟨by omega,hd,fun _=>h0⟩
 rw[hno]
 refine Aj (fun h=>by cases h) fun _=>Aa (fun g=>by omega) fun _=>Aa (fun g=>by omega) fun _=>?_
 refine⟨fun n i l' st'=>l=l'/\st=st'/\∃k:Nat,i=k/\k<=l.length/\n=(BJ (l.take k):Nat),fun _ i _ _=>(l.length-i).toNat,⟨rfl,rfl,0,rfl,Nat.zero_le _,rfl⟩,?_⟩
 rintro _ _ _ _ ⟨rfl,rfl,k,rfl,hkl,rfl⟩
 rw[Int.toNat_natCast]
 refine Aa (fun g=>⟨⟨by omega,g⟩,?_⟩) fun g=>?_
 ·have hk':k<l.length:=by omega
  have hv:=Ip hd hl k hk'
  have hs:=HQ hk'
  have hc:=hd _ (GB hk')
  obtain⟨c1,c2⟩:=hc
  rw[Af (10*_) (by omega) (by omega),Af ((List.getD l k 0).toNat:Int) (by omega) (by omega),Af (_+_) (by omega) (by omega),Af _ (by omega) (by omega),Af _ (by omega) (by omega)]
  exact⟨⟨rfl,rfl,k+1,by omega,by omega,by rw[hs];omega⟩,by dsimp only;omega⟩
 ·have:k=l.length:=by omega
  subst this
  rw[List.take_length]at*;exact hk
theorem Y2 {l:B8} (hl:l.length<=1000000) (hd:∀c,c∈l->AK c) {st:St} {K:Int->St->Prop} (hk:K ((if (A6 l).length<=9 then BJ l else 1000000000:Nat):Int) st):CallT PR Ds [.str l] [.one (.int .i64)] st K:=by
 refine Jv l st K (Tw (by omega) (Aa (fun g=>?_) fun g=>?_))
 ·rw[if_neg (by omega)]at hk;exact hk
 ·rw[if_pos (by omega)]at hk
  refine XA (by omega) (fun c hc=>hd c (It l c hc)) (J8 l) ?_
  rw[Gr];exact hk
theorem XQ {neg:Bool} {s:B8} {ex:Int} (hl:s.length<=2000000) (h1: -3000000000000<=ex) (h2:ex<=3000000000000) {st:St} {K:Bool->B8->Int->Int->St->Prop} (hk:KD K (dcN neg (A6 s) ex) st):
  CallT PR CU [.bool neg,.str s,.int .i64 ex] [.agg [.bool,.str,.int .i64],.one (.int .i64)] st K:=by
 refine In neg s ex st K (Tw (by omega) ?_)
 have hsl:=Iu s
 generalize A6 s=t at*
 unfold KD dcN at hk
 refine Aa (fun g=>by rw[if_pos g]at hk;exact hk) fun g=>Q7 (by omega) ?_
 rw[if_neg g]at hk
 have ht:=OP t
 have e2:i64.wrap ((t.length:Int)-(BR t:Nat))=((t.length-BR t:Nat):Int):=by rw[Af _ (by omega) (by omega)];omega
 rw[e2,Int.toNat_natCast,Af (ex+_) (by omega) (by omega)]
 have hlen:(t.take (t.length-BR t)).length=t.length-BR t:=by rw[List.length_take];omega
 rw[hlen]
 refine⟨⟨by omega,by omega⟩,Aa (fun g1=>?_) fun g1=>Aa (fun g2=>?_) fun g2=>Aa (fun g3=>?_) fun g3=>Aa (fun g4=>?_) fun g4=>?_⟩
 ·rw[if_pos (by omega)]at hk;exact hk
 ·rw[if_pos (by omega)]at hk;exact hk
 ·rw[if_pos (by omega)]at hk;exact hk
 ·rw[if_pos (by omega)]at hk;exact hk
 ·rw[if_neg (by omega)]at hk;exact hk
theorem Es {s:B8} {k:Nat} {c:UInt8} (hc:c≠0) (h:s.getD k 0=c):k<s.length:=by
 by_cases hk:k<s.length
 ·exact hk
 ·rw[show s.getD k 0=0 by simp[List.getD,Nat.le_of_not_lt hk]]at h
  exact absurd h.symm hc
theorem rP_ok {s:B8} (hl:s.length<=1000000) {st:St} {K:Bool->B8->Int->Int->St->Prop} (hk:KD K (dcP s) st):CallT PR Du [.str s] [.agg [.bool,.str,.int .i64],.one (.int .i64)] st K:=by
 refine Jx s st K ⟨fun i s1 _ _ _ st'=>s=s1/\st=st'/\∃j:Nat,i=j/\j<=1/\j<=s.length/\dcP s=dcQ (decide (i=1)) (s.drop j),?_,?_⟩
 ·have no:¬s.getD 0 0=45->dcP s=dcQ (decide ((0:Int)=1)) (s.drop 0):=fun h=>by unfold dcP;rw[if_neg h];rfl
  refine Aa (fun g=>⟨⟨by omega,g⟩,Aa (fun g1=>⟨rfl,rfl,1,rfl,by omega,by omega,?_⟩) fun g1=>⟨rfl,rfl,0,rfl,by omega,by omega,no fun h=>g1 (u8i (k:=45) |>.2 h)⟩⟩) fun g=>⟨rfl,rfl,0,rfl,by omega,by omega,no fun h=>?_⟩
  ·unfold dcP;rw[if_pos (show s.getD 0 0=45 from(u8i (k:=45)).1 g1)];rfl
  ·have:=Es (by decide) h;omega
 rintro i _ _ _ _ _ ⟨rfl,rfl,j,rfl,hj1,hjl,h1⟩
 rw[h1]at hk
 clear h1
 generalize decide (((j:Nat):Int)=1)=neg at*
 have hrl:=DX (s.drop j)
 rw[List.length_drop]at hrl
 refine So (by omega) hjl rfl ?_
 have hdr:s.drop (j+(Au (s.drop j)).length)=(s.drop j).drop (Au (s.drop j)).length:=by rw[List.drop_drop]
 have htk:(s.take (j+(Au (s.drop j)).length)).drop j=Au (s.drop j):=by rw[List.drop_take,Nat.add_sub_cancel_left];exact Ep _
 have hdg:=GJ (s.drop j)
 have hlen:(Au (s.drop j)).length=(Au (s.drop j)).length:=rfl
 generalize ha:Au (s.drop j)=a at*
 refine⟨fun s2 i2 neg2 k2 _ _ _ st'=>s=s2/\((j:Nat):Int)=i2/\neg=neg2/\((j+a.length:Nat):Int)=k2/\st=st'/\dcQ neg (s.drop j)=dcF neg a (s.drop (j+a.length)),Aa (fun g=>?_) fun g=>?_,?_⟩
 ·have:a=[]:=List.length_eq_zero_iff.1 (by omega)
  unfold KD dcQ at hk
  rw[ha,if_pos (.inl this)]at hk;exact hk
 ·have hpos:j<s.length:=by omega
  rw[Int.toNat_natCast]
  have hne:a≠ []:=fun h=>g (by rw[h];simp)
  refine⟨⟨by omega,by omega⟩,Aa (fun g3=>?_) fun g3=>⟨rfl,rfl,rfl,rfl,rfl,?_⟩⟩
  ·have h48:(s.drop j).getD 0 0=48:=by rw[H3];exact(u8i (k:=48)).1 g3
   rw[Af _ (by omega) (by omega)]
   refine Aa (fun g4=>?_) fun g4=>⟨rfl,rfl,rfl,rfl,rfl,?_⟩
   ·unfold KD dcQ at hk
    rw[ha,if_pos (.inr ⟨by omega,h48⟩)]at hk;exact hk
   ·unfold dcQ
    rw[ha,if_neg (by rintro(h | ⟨h,_⟩);exact hne h;omega),hdr]
  ·unfold dcQ
   rw[ha,if_neg (by rintro(h | ⟨_,h⟩);exact hne h;exact g3 (by rw[H3]at h;exact(u8i (k:=48)).2 h)),hdr]
 rintro _ _ _ _ _ _ _ _ ⟨rfl,rfl,rfl,rfl,rfl,h2⟩
 rw[h2]at hk
 have hka:j+a.length<=s.length:=by omega
 rw[Int.toNat_natCast,Int.toNat_natCast,htk]
 have hal:a.length<=1000000:=by omega
 have hjk:j<=j+a.length:=Nat.le_add_right _ _
 have hak:a.length<=j+a.length:=Nat.le_add_left _ _
 generalize hkk:j+a.length=k at*
 clear h2 htk hdr hkk ha hlen hrl
 refine⟨⟨by omega,by omega,by omega⟩,?_⟩
 refine⟨fun k3 all ex s3 neg3 _ _ _ st'=>s=s3/\neg=neg3/\st=st'/\ -1000000<=ex/\ex<=0/\all.length<=1000000/\(∀c,c∈all->AK c)/\∃m:Nat,k3=m/\m<=s.length/\dcF neg a (s.drop k)=dcE neg all ex (s.drop m),?_,?_⟩
 ·refine⟨fun b s3 neg3 k3 dg ex _ _ _ st'=>s=s3/\neg=neg3/\((k:Nat):Int)=k3/\a=dg/\(0:Int)=ex/\st=st'/\b=decide ((s.drop k).getD 0 0=46),Aa (fun g=>⟨⟨by omega,g⟩,rfl,rfl,rfl,rfl,rfl,rfl,?_⟩) fun g=>⟨rfl,rfl,rfl,rfl,rfl,rfl,?_⟩,?_⟩
  ·rw[H3];exact decide_eq_decide.2 (u8i (k:=46))
  ·refine(decide_eq_false fun h=>?_).symm
   rw[H3]at h
   have:=Es (by decide) h;omega
  rintro b _ _ _ _ _ _ _ _ _ ⟨rfl,rfl,rfl,rfl,rfl,rfl,rfl⟩
  refine Aa (fun g=>?_) fun g=>⟨rfl,rfl,rfl,by omega,by omega,hal,hdg,k,rfl,hka,?_⟩
  ·have g46:s.getD k 0=46:=by rw[<-H3];exact g
   have hkl:=Es (by decide) g46
   have hf1:=DX (s.drop (k+1))
   rw[List.length_drop]at hf1
   have htk:(s.take (k+1+(Au (s.drop (k+1))).length)).drop (k+1)=Au (s.drop (k+1)):=by rw[List.drop_take,Nat.add_sub_cancel_left];exact Ep _
   have hdf:=GJ (s.drop (k+1))
   rw[Af (((k:Nat):Int)+1) (by omega) (by omega)]
   refine So (k:=k+1) (by omega) (by omega) (by omega) ?_
   have hd1:(s.drop k).drop 1=s.drop (k+1):=by rw[List.drop_drop]
   generalize hf:Au (s.drop (k+1))=f at*
   refine Aa (fun g2=>?_) fun g2=>?_
   ·have:f=[]:=List.length_eq_zero_iff.1 (by omega)
    unfold KD dcF at hk
    rw[if_pos g,hd1,hf,if_pos this]at hk;exact hk
   ·rw[show(((k:Nat):Int)+1).toNat=k+1 by omega,Int.toNat_natCast,htk,Af _ (by omega) (by omega)]
    refine⟨⟨by omega,by omega,by omega⟩,by omega,rfl,rfl,rfl,by omega,by omega,by rw[List.length_append];omega,fun c hc=>?_,k+1+f.length,rfl,by omega,?_⟩
    ·rcases List.mem_append.1 hc with hc | hc
     ·exact hdg c hc
     ·exact hdf c hc
    ·unfold dcF
     rw[if_pos g,hd1,hf,if_neg (fun e=>g2 (by rw[e];simp)),List.drop_drop]
     rw[show((k:Nat):Int)+1-((k+1+f.length:Nat):Int)= -(f.length:Nat) by omega,show k+(1+f.length)=k+1+f.length by omega]
  ·unfold dcF;rw[if_neg g]
 rintro _ all ex _ _ _ _ _ _ ⟨rfl,rfl,rfl,x1,x2,x3,x5,m,rfl,hm,h3⟩
 rw[h3]at hk
 clear h3 hdg hal hka hak
 refine⟨fun k7 ex7 s7 neg7 dg7 _ _ _ st'=>s=s7/\neg=neg7/\all=dg7/\st=st'/\ -3000000000<=ex7/\ex7<=3000000000/\∃p:Nat,k7=p/\p<=s.length/\dcE neg all ex (s.drop m)=(if p<s.length then RM else dcN neg (A6 all) ex7),?_,?_⟩
 ·refine⟨fun b s5 neg5 k5 dg5 ex5 _ _ _ st'=>s=s5/\neg=neg5/\((m:Nat):Int)=k5/\all=dg5/\ex=ex5/\st=st'/\b=decide ((s.drop m).getD 0 0=101∨(s.drop m).getD 0 0=69),Aa (fun g=>?_) fun g=>⟨rfl,rfl,rfl,rfl,rfl,rfl,?_⟩,?_⟩
  ·rw[H3,Int.toNat_natCast]
   refine⟨⟨by omega,g⟩,Aa (fun g1=>⟨rfl,rfl,rfl,rfl,rfl,rfl,?_⟩) fun g1=>⟨⟨by omega,g⟩,rfl,rfl,rfl,rfl,rfl,rfl,?_⟩⟩
   ·exact(decide_eq_true (.inl ((u8i (k:=101)).1 g1))).symm
   ·refine decide_eq_decide.2 ⟨fun h=> .inr ((u8i (k:=69)).1 h),fun h=>?_⟩
    rcases h with h | h
    ·exact absurd ((u8i (k:=101)).2 h) g1
    ·exact(u8i (k:=69)).2 h
  ·refine(decide_eq_false fun h=>?_).symm
   rw[H3]at h
   rcases h with h | h
   ·have:=Es (by decide) h;omega
   ·have:=Es (by decide) h;omega
  rintro b _ _ _ _ _ _ _ _ _ ⟨rfl,rfl,rfl,rfl,rfl,rfl,rfl⟩
  refine Aa (fun g=>?_) fun g=>⟨rfl,rfl,rfl,rfl,by omega,by omega,m,rfl,hm,?_⟩
  ·have hml:m<s.length:=by
    rw[H3]at g
    rcases g with h | h
    ·exact Es (by decide) h
    ·exact Es (by decide) h
   have hne:s.drop m≠ []:=fun e=>by have:=congrArg List.length e;rw[List.length_drop]at this;simp at this;omega
   rw[Af (((m:Nat):Int)+1) (by omega) (by omega),show(((m:Nat):Int)+1).toNat=m+1 by omega]
   have hd1:(s.drop m).drop 1=s.drop (m+1):=by rw[List.drop_drop]
   have hd2:(s.drop m).drop 2=s.drop (m+1+1):=by rw[List.drop_drop]
   have hE:dcE neg all ex (s.drop m)=if s.getD (m+1) 0=45 then dcX neg all ex true (s.drop (m+1+1))else if s.getD (m+1) 0=43 then dcX neg all ex false (s.drop (m+1+1))else dcX neg all ex false (s.drop (m+1)):=by
    unfold dcE
    rw[if_neg hne,if_pos g,hd1,hd2,H3]
   refine⟨fun down s6 neg6 k6 dg6 ex6 _ _ _ st'=>s=s6/\neg=neg6/\(((m+1:Nat):Nat):Int)=k6/\all=dg6/\ex=ex6/\st=st'/\down=decide (s.getD (m+1) 0=45),Aa (fun g1=>⟨⟨by omega,g1⟩,rfl,rfl,by omega,rfl,rfl,rfl,decide_eq_decide.2 (u8i (k:=45))⟩) fun g1=>⟨rfl,rfl,by omega,rfl,rfl,rfl,(decide_eq_false fun h=>by have:=Es (by decide) h;omega).symm⟩,?_⟩
   rintro down _ _ _ _ _ _ _ _ _ ⟨rfl,rfl,rfl,rfl,rfl,rfl,rfl⟩
   rw[Int.toNat_natCast]
   refine⟨fun k8 s8 neg8 dg8 ex8 down8 _ _ _ st'=>s=s8/\neg=neg8/\all=dg8/\ex=ex8/\st=st'/\∃q:Nat,k8=q/\q<=s.length/\dcE neg all ex (s.drop m)=dcX neg all ex down8 (s.drop q),?_,?_⟩
   ·refine Aa (fun g1=>⟨⟨by omega,g1⟩,Aa (fun g2=>⟨rfl,rfl,rfl,rfl,rfl,m+1+1,?_,by omega,?_⟩) fun g2=>⟨⟨by omega,g1⟩,Aa (fun g3=>⟨rfl,rfl,rfl,rfl,rfl,m+1+1,?_,by omega,?_⟩) fun g3=>⟨rfl,rfl,rfl,rfl,rfl,m+1,rfl,by omega,?_⟩⟩⟩) fun g1=>⟨rfl,rfl,rfl,rfl,rfl,m+1,rfl,by omega,?_⟩
    ·rw[Af _ (by omega) (by omega)];omega
    ·have g2':=(u8i (k:=45)).1 g2
     rw[hE,if_pos g2',decide_eq_true g2']
    ·rw[Af _ (by omega) (by omega)];omega
    ·have g2':¬s.getD (m+1) 0=45:=fun h=>g2 ((u8i (k:=45)).2 h)
     rw[hE,if_neg g2',if_pos ((u8i (k:=43)).1 g3),decide_eq_false g2']
    ·have g2':¬s.getD (m+1) 0=45:=fun h=>g2 ((u8i (k:=45)).2 h)
     rw[hE,if_neg g2',if_neg (fun h=>g3 ((u8i (k:=43)).2 h)),decide_eq_false g2']
    ·have g2':¬s.getD (m+1) 0=45:=fun h=>by have:=Es (by decide) h;omega
     rw[hE,if_neg g2',if_neg (fun h=>by have:=Es (by decide) h;omega),decide_eq_false g2']
   rintro _ _ _ _ _ less _ _ _ _ ⟨rfl,rfl,rfl,rfl,rfl,q,rfl,hq,h5⟩
   rw[h5]at hk⊢
   refine So (by omega) hq rfl ?_
   have hf1:=DX (s.drop q)
   rw[List.length_drop]at hf1
   have htk:(s.take (q+(Au (s.drop q)).length)).drop q=Au (s.drop q):=by rw[List.drop_take,Nat.add_sub_cancel_left];exact Ep _
   have hdf:=GJ (s.drop q)
   refine Aa (fun g1=>?_) fun g1=>?_
   ·unfold KD dcX at hk
    rw[if_pos]at hk
    ·exact hk
    ·by_cases h0:s.drop q=[]
     ·exact .inl h0
     ·refine .inr fun h=>h0 (List.length_eq_zero_iff.1 (by omega))
   ·rw[Int.toNat_natCast,Int.toNat_natCast,htk]
    refine⟨⟨by omega,by omega,by omega⟩,Y2 (by omega) hdf ?_⟩
    have key:∀z:Int,z=(if less then ex-((if (A6 (Au (s.drop q))).length<=9 then BJ (Au (s.drop q))else 1000000000:Nat):Int)else ex+((if (A6 (Au (s.drop q))).length<=9 then BJ (Au (s.drop q))else 1000000000:Nat):Int))->dcX neg all ex less (s.drop q)=(if q+(Au (s.drop q)).length<s.length then RM else dcN neg (A6 all) z):=by
     intro z hz
     unfold dcX
     by_cases hfull:q+(Au (s.drop q)).length<s.length
     ·rw[if_pos hfull,if_pos (.inr (by rw[List.length_drop];omega))]
     ·have hall:Au (s.drop q)=s.drop q:=by
       have:=NM (s.drop q)
       have h0:(s.drop q).drop (Au (s.drop q)).length=[]:=List.drop_of_length_le (by rw[List.length_drop];omega)
       rw[h0,List.append_nil]at this
       exact this.symm
      rw[if_neg hfull,if_neg (by rintro(h | h);exact g1 (by rw[h];simp[Au]);exact h (by rw[hall])),hz]
      have hd5:∀c,c∈s.drop q->AK c:=by rw[<-hall];exact hdf
      rw[hall]
      by_cases h9:(A6 (s.drop q)).length<=9
      ·rw[if_pos h9]
      ·rw[if_neg h9]
       have hf:=Tm (k:=9) hd5 (by omega)
       exact(W7 (n:=((1000000000:Nat):Int)) (m:=(BJ (s.drop q):Nat)) (by have:=Iu all;omega) (by omega) (by omega) (by omega) (by omega) less).symm
    have hb:(if (A6 (Au (s.drop q))).length<=9 then BJ (Au (s.drop q))else 1000000000)<=1000000000:=by
     split
     ·rename_i h9
      have:=Q0 hdf h9
      omega
     ·exact Nat.le_refl _
    generalize (if (A6 (Au (s.drop q))).length<=9 then BJ (Au (s.drop q))else 1000000000)=N at*
    refine Aj (fun hb1=>⟨rfl,rfl,rfl,rfl,?_,?_,_,rfl,by omega,key _ ?_⟩) fun hb1=>⟨rfl,rfl,rfl,rfl,?_,?_,_,rfl,by omega,key _ ?_⟩
    ·rw[Af (0-_) (by omega) (by omega),Af _ (by omega) (by omega)];omega
    ·rw[Af (0-_) (by omega) (by omega),Af _ (by omega) (by omega)];omega
    ·rw[Af (0-_) (by omega) (by omega),Af _ (by omega) (by omega),if_pos hb1];omega
    ·rw[Af _ (by omega) (by omega)];omega
    ·rw[Af _ (by omega) (by omega)];omega
    ·rw[Af _ (by omega) (by omega),hb1];rfl
  ·unfold dcE
   by_cases hm2:m<s.length
   ·rw[if_pos hm2,if_neg (fun e=>by have:=congrArg List.length e;rw[List.length_drop]at this;simp at this;omega),if_neg g]
   ·rw[if_neg hm2,if_pos (List.drop_of_length_le (by omega))]
 rintro _ ex7 _ _ _ _ _ _ _ ⟨rfl,rfl,rfl,rfl,y1,y2,p,rfl,hp,h4⟩
 rw[h4]at hk
 unfold KD at hk
 refine Aa (fun g=>?_) fun g=>?_
 ·rw[if_pos (by omega)]at hk;exact hk
 ·rw[if_neg (by omega)]at hk
  exact XQ (by omega) (by omega) (by omega) hk
end Go.TVF
