/- What the laws below rest on: a framework for Go programs, and contracts of the functions that they reach. -/
import Derived.Test.YtbbjecpcjdmfgaaGreatDoorSbD
set_option maxRecDepth 20000
set_option linter.unusedVariables false
set_option linter.unusedSimpArgs false
namespace Go.TVF
open Go.IntKind(i64 u8)
open Go Go.Proofs
theorem A7.stx {b:Nat} {a c d:St} (h:A7 a c) (k:StX (fun i=>i=b) c d) (hb:a.nb<=b):A7 a d:=
 ⟨Nat.le_trans h.1 k.nb,fun i hi=>(k.box i (Nat.lt_of_lt_of_le hi h.1) (by omega)).trans (h.2 i hi)⟩
theorem NP {d n:Nat} {s:Sc} {l:List Vl} {f:List Fd} (h1:¬48<d) (h2:¬65536<=n) (h3:Da s l f=0):B5 d n (.mk s l f)=ET (Bq (d+1) (n+1) l) fun m=>BG (d+1) m f:=by
 unfold B5;rw[if_neg h1,if_neg h2,if_neg (fun h=>h h3)]
theorem LE {d n:Nat} {s:Sc} {l:List Vl} {f:List Fd} (h1:¬48<d) (h2:¬65536<=n) (h3:Da s l f≠0):B5 d n (.mk s l f)=(n,Da s l f):=by
 unfold B5;rw[if_neg h1,if_neg h2,if_pos h3]
theorem GH (d n:Nat) (v:Vl) (r:List Vl):Bq d n (v::r)=ET (B5 d n v) fun m=>Bq d m r:=by rw[Bq]
theorem LG (d n:Nat) (k:B8) (v:Vl) (r:List Fd):BG d n (.mk k v::r)=ET (B5 d n v) fun m=>BG d m r:=by rw[BG,Jm]
theorem Pu:U8 []:=by unfold U8;rw[KE];rfl
theorem Tr:∀(N:Nat) (v:Vl),v.sz<=N->N<=2000000->∀{st0 st:St} {cs:List TV} {b d n:Nat} {D:Int} {K:Int->St->Prop},VlR st0 v cs->A7 st0 st->st0.nb<=b->b<st.nb->st.box b= .cells [.int .i64 (n:Nat)]->n<=65536->D=(d:Int)->d<=100->
  (∀st' (m:Nat),StX (fun i=>i=b) st st'->st'.box b= .cells [.int .i64 (m:Nat)]->((B5 d n v).2=0->m=(B5 d n v).1/\m<=65536)->K ((B5 d n v).2:Nat) st')->CallT PR CR [.agg cs,.int .i64 D,.box b 0] [.one (.int .i64)] st K:=by
 intro N
 induction N with
 | zero=>intro v h;have:=v.sz_pos;omega
 | succ N ih=>
 intro v hN hN2 st0 st cs b d n D K h hke hb0 hb hbx hn hD hd hk
 subst hD
 cases v with
 | mk s l f=>
 have hsz:(Vl.mk s l f).sz=1+s.bytes.length+s.text.length+s.dg.length+Bw l+Bu f:=by unfold Vl.sz;rfl
 have hll:=BJ l
 have hfl:=By f
 unfold VlR at h
 obtain⟨ub,ul,uf,xl,xf,rfl,h1,h2,h3,h4,h5⟩:=h
 refine KH _ _ _ _ _ _ _ _ _ _ _ _ _ (d:Int) b st K ?_
 refine Ad (x:= .int .i64 (n:Nat)) (by simp[Ac,hbx]) (Cj ?_)
 rw[Aj _ (by omega) (by omega)]
 refine⟨_,hbx,by simp,?_⟩
 obtain⟨st1,hst1⟩:∃st1,st1=st.put b (.cells (setAll [.int .i64 (n:Nat)] 0 [.int .i64 ((n:Int)+1)])):=⟨_,rfl⟩
 rw[<-hst1]
 have e1:StX (fun i=>i=b) st st1:=by rw[hst1];exact StX.put (S:=fun i=>i=b) rfl _
 have hb1:st1.box b= .cells [.int .i64 ((n+1:Nat):Int)]:=by rw[hst1];simp[St.put,setAll]
 have hke1:=hke.stx e1 hb0
 refine⟨fun dp p kd bo ng dg ex tk td tn tz tx u1 u2 u3 st'=>dp=d/\p= .box b 0/\ul=u2/\uf=u3/\¬48<d/\¬65536<=n/\Da s l f=Cf [] f/\StX (fun i=>i=b) st st'/\st'.box b= .cells [.int .i64 ((n+1:Nat):Int)],?_,?_⟩
 ·--the value but for the values in it
  refine Ab (fun g=>?_) fun g=>?_
  ·have hc:B5 d n (.mk s l f)=(n,9):=by unfold B5;rw[if_pos (by omega)]
   have:=hk st1 (n+1) e1 hb1 (by rw[hc];intro h;cases h)
   rw[hc]at this;exact this
  refine Ad (x:= .int .i64 ((n+1:Nat):Int)) (by simp[Ac,hb1]) (Cj (Ab (fun g2=>?_) fun g2=>?_))
  ·have hc:B5 d n (.mk s l f)=(n,10):=by unfold B5;rw[if_neg (by omega),if_pos (by omega)]
   have:=hk st1 (n+1) e1 hb1 (by rw[hc];intro h;cases h)
   rw[hc]at this;exact this
  have hg1:¬48<d:=by omega
  have hg2:¬65536<=n:=by omega
  --an error of the value itself
  have err:∀st',StX (fun i=>i=b) st st'->st'.box b= .cells [.int .i64 ((n+1:Nat):Int)]->Da s l f≠0->K ((Da s l f:Nat):Int) st':=fun st' e' hb' ho=>by
   have hc:=LE hg1 hg2 ho
   have:=hk st' (n+1) e' hb' (by rw[hc];intro h;exact absurd h ho)
   rw[hc]at this;exact this
  refine⟨fun q dp p kd bo ng dg ex tk td tn tz tx u1 u2 u3 st'=>dp=d/\p= .box b 0/\kd=s.kind/\ng=s.neg/\dg=s.dg/\ex=s.ex/\tk=s.tk/\td=s.td/\tn=s.tn/\tz=s.tz/\tx=s.text/\ub=u1/\ul=u2/\uf=u3/\q= !decide (Gb s l f)/\st1=st',?_,?_⟩
  ·refine Ab (fun g3=>?_) fun g3=>Ab (fun g4=>?_) fun g4=>?_
   ·exact⟨rfl,rfl,rfl,rfl,rfl,rfl,rfl,rfl,rfl,rfl,rfl,rfl,rfl,rfl,by rw[decide_eq_false fun o=>by have:=o.k0;omega];rfl,rfl⟩
   ·exact⟨rfl,rfl,rfl,rfl,rfl,rfl,rfl,rfl,rfl,rfl,rfl,rfl,rfl,rfl,by rw[decide_eq_false fun o=>by have:=o.k7;omega];rfl,rfl⟩
   ·exact S7 (s:=s) (l:=l) (f:=f) h1.isSl h2.isSl h4.isSl h1.lenS h2.lenS h4.lenS ⟨rfl,rfl,rfl,rfl,rfl,rfl,rfl,rfl,rfl,rfl,rfl,rfl,rfl,rfl,exB_eq (by omega) (by omega),rfl⟩
  rintro q _ _ _ bo _ _ _ _ _ _ _ _ _ _ _ _ ⟨rfl,rfl,rfl,rfl,rfl,rfl,rfl,rfl,rfl,rfl,rfl,rfl,rfl,rfl,rfl,rfl⟩
  by_cases ho:Gb s l f
  case neg=>
   refine As (fun _=>?_) fun h=>by rw[decide_eq_false ho]at h;cases h
   have h6:Da s l f=6:=by unfold Da;rw[if_neg ho]
   have:=err st1 e1 hb1 (by rw[h6];decide)
   rw[h6]at this;exact this
  refine As (fun h=>by rw[decide_eq_true ho]at h;cases h) fun _=>?_
  have hdec:s.kind≠2->DA s.neg s.dg s.ex:=fun hk2=>by
   obtain⟨q1,q2,q3⟩:=ho.nu hk2
   rw[q2];exact HJ.2 ⟨q1,q3⟩
  refine⟨fun q dp p kd bo ng dg ex tk td tn tz tx u1 u2 u3 st'=>dp=d/\p= .box b 0/\kd=s.kind/\tx=s.text/\ub=u1/\ul=u2/\uf=u3/\q= !(decide (DA s.neg s.dg s.ex)&&decide (s.kind=3->De s.tk s.td s.tn s.tz))/\st1=st',?_,?_⟩
  ·refine Ab (fun g3=>O9 (by omega) ?_) fun g3=>Ab (fun g4=>Ng ?_) fun g4=>?_
   ·by_cases hq:DA s.neg s.dg s.ex
    ·refine As (fun h=>by rw[decide_eq_true hq]at h;cases h) fun _=>Ab (fun g4=>by omega) fun g4=>?_
     exact⟨rfl,rfl,rfl,rfl,rfl,rfl,rfl,by rw[decide_eq_true hq,decide_eq_true fun h=>absurd h g4];rfl,rfl⟩
    ·refine As (fun h=>?_) fun h=>by rw[decide_eq_false hq]at h;cases h
     exact⟨rfl,rfl,rfl,rfl,rfl,rfl,rfl,by rw[decide_eq_false hq];rfl,rfl⟩
   ·exact⟨rfl,rfl,rfl,rfl,rfl,rfl,rfl,by rw[decide_eq_true (hdec g3),decide_eq_decide.2 (show(s.kind=3->De s.tk s.td s.tn s.tz)↔_ from⟨fun h=>h g4,fun h _=>h⟩)];rfl,rfl⟩
   ·exact⟨rfl,rfl,rfl,rfl,rfl,rfl,rfl,by rw[decide_eq_true (hdec g3),decide_eq_true fun h=>absurd h g4];rfl,rfl⟩
  rintro q _ _ _ bo2 ng2 dg2 ex2 tk2 td2 tn2 tz2 _ _ _ _ _ ⟨rfl,rfl,rfl,rfl,rfl,rfl,rfl,rfl,rfl⟩
  by_cases hq:DA s.neg s.dg s.ex
  case neg=>
   refine As (fun _=>?_) fun h=>by rw[decide_eq_false hq]at h;cases h
   have h6:Da s l f=2:=by unfold Da;rw[if_pos ho,if_neg hq]
   have:=err st1 e1 hb1 (by rw[h6];decide)
   rw[h6]at this;exact this
  by_cases hq2:s.kind=3->De s.tk s.td s.tn s.tz
  case neg=>
   refine As (fun _=>?_) fun h=>by rw[decide_eq_true hq,decide_eq_false hq2]at h;cases h
   have h6:Da s l f=2:=by unfold Da;rw[if_pos ho,if_pos hq,if_neg hq2]
   have:=err st1 e1 hb1 (by rw[h6];decide)
   rw[h6]at this;exact this
  refine As (fun h=>by rw[decide_eq_true hq,decide_eq_true hq2]at h;cases h) fun _=>?_
  --sizes
  have sizes:U8 s.text->∀(X:Prop),(Da s l f=Cf [] f->X)->BIf (decide (65536<(s.text.length:Int))) (K 10 st1) (need (isSl ub) (BIf (decide (65536<(lenS ub:Int))) (K 10 st1) X)):=fun hu X hX=>by
   have h6:Da s l f=if 65536<s.text.length then 10 else if 65536<s.bytes.length then 10 else Cf [] f:=by unfold Da;rw[if_pos ho,if_pos hq,if_pos hq2,if_pos hu]
   refine Ab (fun g5=>?_) fun g5=>Aa h1.isSl (Ab (fun g6=>?_) fun g6=>?_)
   ·rw[if_pos (by omega)]at h6
    have:=err st1 e1 hb1 (by rw[h6];decide)
    rw[h6]at this;exact this
   ·rw[h1.lenS]at g6
    rw[if_neg (by omega),if_pos (by omega)]at h6
    have:=err st1 e1 hb1 (by rw[h6];decide)
    rw[h6]at this;exact this
   ·rw[h1.lenS]at g6
    rw[if_neg (by omega),if_neg (by omega)]at h6
    exact hX h6
  refine Ab (fun g3=>Mn (by omega) (As (fun g4=>?_) fun g4=>?_)) fun g3=>?_
  ·have hu:¬U8 s.text:=by unfold U8;simpa using g4
   have h6:Da s l f=5:=by unfold Da;rw[if_pos ho,if_pos hq,if_pos hq2,if_neg hu]
   have:=err st1 e1 hb1 (by rw[h6];decide)
   rw[h6]at this;exact this
  ·exact sizes (by unfold U8;simpa using g4) _ fun h6=>⟨rfl,rfl,rfl,rfl,hg1,hg2,h6,e1,hb1⟩
  ·exact sizes (by rw[ho.tx g3];exact Pu) _ fun h6=>⟨rfl,rfl,rfl,rfl,hg1,hg2,h6,e1,hb1⟩
 ·rintro _ _ kd bo ng dg ex tk td tn tz tx u1 _ _ st2 ⟨rfl,rfl,rfl,rfl,hg1,hg2,h6,e2,hb2⟩
  have hke2:=hke.stx e2 hb0
  refine keys_ok hke2 h4 h5 (by omega) fun st3 e3=>?_
  have e23:=e2.trans (StX.of e3)
  have hb3:st3.box b= .cells [.int .i64 ((n+1:Nat):Int)]:=(e3.box b (by have:=e2.nb;omega)).trans hb2
  refine Ab (fun g=>?_) fun g=>Aa h2.isSl ?_
  ·have ho:Da s l f≠0:=by rw[h6];omega
   have hc:=LE hg1 hg2 ho
   have:=hk st3 (n+1) e23 hb3 (by rw[hc];intro h;exact absurd h ho)
   rw[hc,h6]at this;exact this
  have hone:Da s l f=0:=by rw[h6];omega
  have hC:=NP hg1 hg2 hone
  refine⟨fun i dp p u m kd bo ng dg ex tk td tn tz tx u1 u2 u3 st'=>dp=d/\p= .box b 0/\ul=u/\m=(l.length:Int)/\uf=u3/\∃k c:Nat,i=k/\k<=l.length/\c<=65536/\StX (fun i=>i=b) st st'/\st'.box b= .cells [.int .i64 ((c:Nat):Int)]/\Bq (d+1) (n+1) l=Bq (d+1) c (l.drop k),
   fun i _ _ _ _ _ _ _ _ _ _ _ _ _ _ _ _ _ _=>(l.length-i).toNat,⟨rfl,rfl,rfl,by rw[h2.lenS],rfl,0,n+1,rfl,Nat.zero_le _,by omega,e23,hb3,rfl⟩,?_⟩
  rintro _ _ _ _ _ kd bo ng dg ex tk td tn tz tx u1 u2 _ st4 ⟨rfl,rfl,rfl,rfl,rfl,k,c,rfl,hkl,hc,e4,hb4,hE⟩
  have hke4:=hke.stx e4 hb0
  refine Ab (fun g3=>?_) fun g3=>?_
  ·refine JU hke4 h2 h3 rfl (by omega) fun s' l' f' ub1 ul1 uf1 gw hw on=>Aa on ?_
   have hwsz:=Cr gw
   rw[E4 gw,GH]at hE
   rw[Aj _ (by omega) (by omega)]
   refine ih _ (by omega) (by omega) (d:=d+1) hw hke4 hb0 (by have:=e4.nb;omega) hb4 hc (by omega) (by omega) fun st5 m e5 hb5 hm=>?_
   have e45:=e4.trans e5
   refine Ab (fun g4=>?_) fun g4=>?_
   ·have hne:(B5 (d+1) c (.mk s' l' f')).2≠0:=by omega
    rw[Hz hne]at hE
    have hc2:B5 d n (.mk s l f)=B5 (d+1) c (.mk s' l' f'):=by rw[hC,hE,Hz hne]
    have:=hk st5 m e45 hb5 (by rw[hc2];intro h;exact absurd h hne)
    rw[hc2]at this;exact this
   ·have hz:(B5 (d+1) c (.mk s' l' f')).2=0:=by omega
    rw[BZ hz]at hE
    obtain⟨hm1,hm2⟩:=hm hz
    rw[Aj _ (by omega) (by omega)]
    exact⟨⟨rfl,rfl,rfl,rfl,rfl,k+1,m,by omega,by omega,hm2,e45,hb5,by rw[hE,hm1]⟩,by dsimp only;omega⟩
  ·have hkk:k=l.length:=by omega
   subst hkk
   rw[List.drop_length]at hE
   have hE2:Bq (d+1) (n+1) l=(c,0):=by rw[hE,Bq]
   rw[hE2,BZ rfl]at hC
   refine Aa h4.isSl ?_
   refine⟨fun i dp p u m st'=>dp=d/\p= .box b 0/\uf=u/\m=(f.length:Int)/\∃k c2:Nat,i=k/\k<=f.length/\c2<=65536/\StX (fun i=>i=b) st st'/\st'.box b= .cells [.int .i64 ((c2:Nat):Int)]/\BG (d+1) c f=BG (d+1) c2 (f.drop k),
    fun i _ _ _ _ _=>(f.length-i).toNat,⟨rfl,rfl,rfl,by rw[h4.lenS],0,c,rfl,Nat.zero_le _,hc,e4,hb4,rfl⟩,?_⟩
   rintro _ _ _ _ _ st5 ⟨rfl,rfl,rfl,rfl,k,c2,rfl,hkf,hc2,e5,hb5,hF⟩
   have hke5:=hke.stx e5 hb0
   refine Ab (fun g4=>?_) fun g4=>?_
   ·refine O6 hke5 h4 h5 rfl (by omega) fun key s' l' f' ub1 ul1 uf1 gw hw on=>Aa on ?_
    have hwsz:=Cg gw
    have hwk:(Fd.mk key (.mk s' l' f')).sz=key.length+(Vl.mk s' l' f').sz:=by unfold Fd.sz;rfl
    rw[E4 gw,LG]at hF
    rw[Aj _ (by omega) (by omega)]
    refine ih (.mk s' l' f') (by omega) (by omega) (d:=d+1) hw hke5 hb0 (by have:=e5.nb;omega) hb5 hc2 (by omega) (by omega) fun st6 m e6 hb6 hm=>?_
    have e56:=e5.trans e6
    refine Ab (fun g5=>?_) fun g5=>?_
    ·have hne:(B5 (d+1) c2 (.mk s' l' f')).2≠0:=by omega
     rw[Hz hne]at hF
     have hc3:B5 d n (.mk s l f)=B5 (d+1) c2 (.mk s' l' f'):=by rw[hC];exact hF
     have:=hk st6 m e56 hb6 (by rw[hc3];intro h;exact absurd h hne)
     rw[hc3]at this;exact this
    ·have hz:(B5 (d+1) c2 (.mk s' l' f')).2=0:=by omega
     rw[BZ hz]at hF
     obtain⟨hm1,hm2⟩:=hm hz
     rw[Aj _ (by omega) (by omega)]
     exact⟨⟨rfl,rfl,rfl,rfl,k+1,m,by omega,by omega,hm2,e56,hb6,by rw[hF,hm1]⟩,by dsimp only;omega⟩
   ·have hkk:k=f.length:=by omega
    subst hkk
    rw[List.drop_length]at hF
    have hF2:B5 d n (.mk s l f)=(c2,0):=by rw[hC];show BG (d+1) c f=_;rw[hF,BG]
    have:=hk st5 c2 e5 hb5 (by rw[hF2];exact fun _=>⟨rfl,hc2⟩)
    rw[hF2]at this;exact this
section
theorem Jq {v:Vl} (hN:v.sz<=2000000) {st0 st:St} {cs:List TV} {K:Int->St->Prop} (h:VlR st0 v cs) (hke:A7 st0 st) (hk:∀st',Ah st st'->K (AP v:Nat) st'):
  CallT PR AB [.agg cs] [.one (.int .i64)] st K:=by
 have h0:=h
 cases v with
 | mk s l f=>
 unfold VlR at h0
 obtain⟨ub,ul,uf,xl,xf,rfl,_⟩:=h0
 have he:Ah st (st.push (.cells [.int .i64 0]) (some 3)):=(Ah.refl st).push _ _
 refine KJ _ _ _ _ _ _ _ _ _ _ _ _ _ st K ⟨[.int .i64 0],by simp[St.push],by simp,?_⟩
 obtain⟨st1,hst1⟩:∃st1,st1=(st.push (.cells [.int .i64 0]) (some 3)).put st.nb (.cells (setAll [.int .i64 0] 0 [.int .i64 0])):=⟨_,rfl⟩
 rw[<-hst1]
 have e1:Ah st st1:=by rw[hst1];exact StX.ext he (StX.put (S:=fun i=>i=st.nb) rfl _) (fun i hi=>by rw[hi];exact Nat.le_refl _)
 have hb1:st1.box st.nb= .cells [.int .i64 ((0:Nat):Int)]:=by rw[hst1];simp[St.put,setAll]
 exact Tr 2000000 _ hN (by omega) (d:=1) h (hke.trans e1.keeps) hke.1 (by rw[hst1];simp[St.put,St.push]) hb1 (by omega) rfl (by omega) fun st2 m e2 hb2 _=>hk st2 (StX.ext e1 e2 (fun i hi=>by rw[hi];exact Nat.le_refl _))
theorem one_ok {s:Sc} {l:List Vl} {f:List Fd} (hN:(Vl.mk s l f).sz<=2000000) {st0 st:St} {ub ul uf:TV} {K:Int->St->Prop} (h:VlR st0 (.mk s l f) (AA s ub ul uf)) (hke:A7 st0 st) (hk:∀st',Ah st st'->K (Da s l f:Nat) st'):
  CallT PR Dc [.agg (AA s ub ul uf)] [.one (.int .i64)] st K:=by
 have hsz:(Vl.mk s l f).sz=1+s.bytes.length+s.text.length+s.dg.length+Bw l+Bu f:=by unfold Vl.sz;rfl
 unfold VlR at h
 obtain⟨ub',ul',uf',xl,xf,hcs,h1,h2,h3,h4,h5⟩:=h
 simp only[AA,List.cons.injEq,and_true,true_and]at hcs
 obtain⟨rfl,rfl,rfl⟩:=hcs
 refine HQ _ _ _ _ _ _ _ _ _ _ _ _ _ st K (own_ok h1.isSl h2.isSl h4.isSl h1.lenS h2.lenS h4.lenS ?_)
 have kk:∀(c:Nat) (st':St),Da s l f=c->Ah st st'->K (c:Int) st':=fun c st' hc e=>by rw[<-hc];exact hk st' e
 by_cases ho:Gb s l f
 case neg=>exact As (fun _=>kk 6 st (by unfold Da;rw[if_neg ho]) (Ah.refl _)) fun h=>by rw[decide_eq_false ho]at h;cases h
 refine As (fun h=>by rw[decide_eq_true ho]at h;cases h) fun _=>rDec_ok (by omega) ?_
 by_cases hq:DA s.neg s.dg s.ex
 case neg=>exact As (fun _=>kk 2 st (by unfold Da;rw[if_pos ho,if_neg hq]) (Ah.refl _)) fun h=>by rw[decide_eq_false hq]at h;cases h
 refine As (fun h=>by rw[decide_eq_true hq]at h;cases h) fun _=>?_
 have rest:(s.kind=3->De s.tk s.td s.tn s.tz)->CallT PR A1 [.str s.text] [.one (.bool)] st (fun (b4:Bool) (st4:St)=>BIf (!b4) (K 5 st4) (BIf (decide (65536<(s.text.length:Int))) (K 10 st4) (need (isSl ub) (BIf (decide (65536<(lenS ub:Int))) (K 10 st4) (
   CallT PR Bo [uf] [.one (.int .i64)] st4 fun (n1:Int) (st5:St)=>K n1 st5))))):=by
  intro hq2
  refine Mr (by omega) fun st1 e1=>?_
  by_cases hu:U8 s.text
  case neg=>exact As (fun _=>kk 5 st1 (by unfold Da;rw[if_pos ho,if_pos hq,if_pos hq2,if_neg hu]) e1) fun h=>absurd (by unfold U8;simpa using h) hu
  have h6:Da s l f=if 65536<s.text.length then 10 else if 65536<s.bytes.length then 10 else Cf [] f:=by unfold Da;rw[if_pos ho,if_pos hq,if_pos hq2,if_pos hu]
  refine As (fun h=>absurd hu (by unfold U8;simpa using h)) fun _=>Ab (fun g5=>?_) fun g5=>Aa h1.isSl (Ab (fun g6=>?_) fun g6=>?_)
  ·exact kk 10 st1 (by rw[h6,if_pos (by omega)]) e1
  ·rw[h1.lenS]at g6
   exact kk 10 st1 (by rw[h6,if_neg (by omega),if_pos (by omega)]) e1
  ·rw[h1.lenS]at g6
   exact Keys_ok (hke.trans e1.keeps) h4 h5 (by omega) fun st2 e2=>kk _ st2 (by rw[h6,if_neg (by omega),if_neg (by omega)]) (e1.trans e2)
 refine Ab (fun g3=>Sp ?_) fun g3=>rest fun h=>absurd h g3
 by_cases hq2:De s.tk s.td s.tn s.tz
 ·exact As (fun h=>by rw[decide_eq_true hq2]at h;cases h) fun _=>rest fun _=>hq2
 ·exact As (fun _=>kk 2 st (by unfold Da;rw[if_pos ho,if_pos hq,if_neg fun h=>hq2 (h g3)]) (Ah.refl _)) fun h=>by rw[decide_eq_false hq2]at h;cases h
def B9 (s:Sc) (l:List Vl) (f:List Fd):List Vl:=if s.kind=7 then f.map Fd.val else l
theorem MT (d:Nat):∀(f:List Fd) (n:Nat),BG d n f=Bq d n (f.map Fd.val)
 | [],n=>by simp[BG,Bq]
 | .mk k v::r,n=>by
  rw[LG,List.map_cons,GH]
  have:(fun m=>BG d m r)=fun m=>Bq d m (r.map Fd.val):=funext fun m=>MT d r m
  rw[this];rfl
theorem R9 (x:Nat×Nat):ET x (fun m=>(m,0))=x:=by
 unfold ET;split
 ·rename_i h;exact Prod.ext rfl h.symm
 ·rfl
theorem RT {d n:Nat} {s:Sc} {l:List Vl} {f:List Fd} (ho:Gb s l f):(ET (Bq (d+1) (n+1) l) fun m=>BG (d+1) m f)=Bq (d+1) (n+1) (B9 s l f):=by
 unfold B9
 by_cases h7:s.kind=7
 ·rw[if_pos h7,ho.ls (by omega),Bq,BZ rfl,MT]
 ·rw[if_neg h7,ho.fs h7]
  simp only[BG]
  exact R9 _
mutual
theorem KC:∀(v:Vl) (d n:Nat),n<=65536->(B5 d n v).2=0->(B5 d n v).1<=65536
 | .mk s l f,d,n,hn,h=>by
  unfold B5 at h⊢
  split at h
  ·cases h
  ·rename_i g1
   rw[if_neg g1]
   split at h
   ·cases h
   ·rename_i g2
    rw[if_neg g2]
    split at h
    ·rename_i h1;exact absurd h h1
    ·rename_i g3
     rw[if_neg g3]
     obtain⟨h2,h3⟩:=Bt h
     rw[BZ h2]
     exact Pl f _ _ (Ph l _ _ (by omega) h2) h3
theorem Ph:∀(l:List Vl) (d n:Nat),n<=65536->(Bq d n l).2=0->(Bq d n l).1<=65536
 | [],d,n,hn,_=>by unfold Bq;exact hn
 | v::r,d,n,hn,h=>by
  unfold Bq at h⊢
  obtain⟨h2,h3⟩:=Bt h
  rw[BZ h2]
  exact Ph r _ _ (KC v _ _ hn h2) h3
theorem chkD_le:∀(x:Fd) (d n:Nat),n<=65536->(Jm d n x).2=0->(Jm d n x).1<=65536
 | .mk k v,d,n,hn,h=>by unfold Jm at h⊢;exact KC v _ _ hn h
theorem Pl:∀(l:List Fd) (d n:Nat),n<=65536->(BG d n l).2=0->(BG d n l).1<=65536
 | [],d,n,hn,_=>by unfold BG;exact hn
 | x::r,d,n,hn,h=>by
  unfold BG at h⊢
  obtain⟨h2,h3⟩:=Bt h
  rw[BZ h2]
  exact Pl r _ _ (chkD_le x _ _ hn h2) h3
end
theorem VsR.snoc {st:St} {v:Vl} {cv:List TV}:∀{l:List Vl} {xs:List TV},VsR st l xs->VlR st v cv->VsR st (l++[v]) (xs++cv)
 | [],xs,h,hv=>by
  unfold VsR at h
  subst h
  show VsR st [v] _
  unfold VsR
  exact⟨cv,[],by simp,hv,by unfold VsR;rfl⟩
 | w::r,xs,h,hv=>by
  unfold VsR at h
  obtain⟨a,b,rfl,h1,h2⟩:=h
  show VsR st (w::(r++[v])) _
  unfold VsR
  exact⟨a,b++cv,by simp,h1,VsR.snoc h2 hv⟩
theorem QP {s:Sc} {l:List Vl} {f:List Fd} (hN:(Vl.mk s l f).sz<=2000000) {st0 st:St} {ub ul uf:TV} {K:TV->St->Prop} (h:VlR st0 (.mk s l f) (AA s ub ul uf)) (hke:A7 st0 st)
  (hk:∀u xl st',Ah st st'->SlR st' 13 u (B9 s l f).length xl->VsR st' (B9 s l f) xl->K u st'):CallT PR B4 [.agg (AA s ub ul uf)] [.one .tv] st K:=by
 have hsz:(Vl.mk s l f).sz=1+s.bytes.length+s.text.length+s.dg.length+Bw l+Bu f:=by unfold Vl.sz;rfl
 have hfl:=By f
 unfold VlR at h
 obtain⟨ub',ul',uf',xl,xf,hcs,h1,h2,h3,h4,h5⟩:=h
 simp only[AA,List.cons.injEq,and_true,true_and]at hcs
 obtain⟨rfl,rfl,rfl⟩:=hcs
 refine G8 _ _ _ _ _ _ _ _ _ _ _ _ _ st K (Ab (fun g=>?_) fun g=>?_)
 ·have e:B9 s l f=l:=by unfold B9;rw[if_neg g]
  rw[e]at hk
  exact hk ul xl st (Ah.refl _) (h2.keep hke) (VsR.keep hke h3)
 ·have e:B9 s l f=f.map Fd.val:=by unfold B9;rw[if_pos (by omega)]
  rw[e,List.length_map]at hk
  refine⟨fun o i kd bo ng dg ex tk td tn tz tx u1 u2 u3 st'=>uf=u3/\∃(k:Nat) (xs:List TV),i=k/\k<=f.length/\Ah st st'/\Own st.nt 13 st' o k xs/\VsR st ((f.take k).map Fd.val) xs,fun _ i _ _ _ _ _ _ _ _ _ _ _ _ _ _=>(f.length-i).toNat,
   ⟨rfl,0,[],rfl,Nat.zero_le _,Ah.refl _,Own.nil _ _ _,by simp only[List.take_zero,List.map_nil];unfold VsR;rfl⟩,?_⟩
  rintro o _ kd bo ng dg ex tk td tn tz tx u1 u2 _ st1 ⟨rfl,k,xs,rfl,hkf,e1,ho,hv⟩
  refine Aa h4.isSl (Ab (fun g2=>?_) fun g2=>?_)
  ·rw[h4.lenS]at g2
   refine Mm (hke.trans e1.keeps) h4 h5 rfl (by omega) fun key s' l' f' ub1 ul1 uf1 gw hw on=>Aa on ?_
   refine Hu e1 rfl ho (by omega) (fun h=>by cases h) fun v2 st2 e2 _ ho2=>?_
   rw[Aj _ (by omega) (by omega)]
   refine⟨⟨rfl,k+1,_,by omega,by omega,e2,ho2,?_⟩,by dsimp only;omega⟩
   rw[A0 gw,List.map_append]
   exact VsR.snoc hv (VlR.keep hke hw)
  ·rw[h4.lenS]at g2
   have hkk:k=f.length:=by omega
   subst hkk
   rw[List.take_length]at hv
   exact hk o xs st1 e1 (.of_rd ho.rd) (VsR.keep e1.keeps hv)
theorem QO {s:Sc} {l:List Vl} {f:List Fd} {k:Nat} {w:Vl} (h:(B9 s l f)[k]? =some w):w.sz+1<=(Vl.mk s l f).sz:=by
 have hsz:(Vl.mk s l f).sz=1+s.bytes.length+s.text.length+s.dg.length+Bw l+Bu f:=by unfold Vl.sz;rfl
 unfold B9 at h
 split at h
 ·rw[List.getElem?_map]at h
  obtain⟨d,hd,rfl⟩:=Option.map_eq_some_iff.1 h
  have:=Cg hd
  cases d;unfold Fd.sz at this;simp only[Fd.val];omega
 ·have:=Cr h;omega
theorem OR {s:Sc} {l:List Vl} {f:List Fd}:(B9 s l f).length<=(Vl.mk s l f).sz:=by
 have hsz:(Vl.mk s l f).sz=1+s.bytes.length+s.text.length+s.dg.length+Bw l+Bu f:=by unfold Vl.sz;rfl
 have:=BJ l
 have:=By f
 unfold B9;split
 ·rw[List.length_map];omega
 ·omega
theorem look_ok:∀(N:Nat) (v:Vl),v.sz<=N->N<=2000000->∀{st0 st:St} {cs:List TV} {d n:Nat} {D:Int} {K:Int->Int->St->Prop},VlR st0 v cs->A7 st0 st->n<=65536->D=(d:Int)->d<=100->
  (∀st',Ah st st'->K ((B5 d n v).1:Nat) ((B5 d n v).2:Nat) st')->CallT PR B3 [.agg cs,.int .i64 D,.int .i64 (n:Nat)] [.one (.int .i64),.one (.int .i64)] st K:=by
 intro N
 induction N with
 | zero=>intro v h;have:=v.sz_pos;omega
 | succ N ih=>
 intro v hN hN2 st0 st cs d n D K h hke hn hD hd hk
 subst hD
 cases v with
 | mk s l f=>
 have hcs:∃ub ul uf,cs=AA s ub ul uf:=by
  have h0:=h
  unfold VlR at h0
  obtain⟨ub,ul,uf,xl,xf,rfl,_⟩:=h0
  exact⟨ub,ul,uf,rfl⟩
 obtain⟨ub,ul,uf,rfl⟩:=hcs
 have kk:∀(x:Nat×Nat) (st':St),B5 d n (.mk s l f)=x->Ah st st'->K (x.1:Nat) (x.2:Nat) st':=fun x st' hx e=>by rw[<-hx];exact hk st' e
 refine G6 _ _ _ _ _ _ _ _ _ _ _ _ _ (d:Int) (n:Int) st K (Ab (fun g=>?_) fun g=>Ab (fun g2=>?_) fun g2=>?_)
 ·exact kk (n,9) st (by unfold B5;rw[if_pos (by omega)]) (Ah.refl _)
 ·exact kk (n,10) st (by unfold B5;rw[if_neg (by omega),if_pos (by omega)]) (Ah.refl _)
 have hg1:¬48<d:=by omega
 have hg2:¬65536<=n:=by omega
 refine one_ok (l:=l) (f:=f) (by omega) h hke fun st1 e1=>Ab (fun g3=>?_) fun g3=>?_
 ·exact kk (n,Da s l f) st1 (LE hg1 hg2 (by omega)) e1
 have hone:Da s l f=0:=by omega
 have ho:Gb s l f:=(JJ.1 hone).own
 have hC:B5 d n (.mk s l f)=Bq (d+1) (n+1) (B9 s l f):=by rw[NP hg1 hg2 hone,RT ho]
 refine QP (l:=l) (f:=f) (by omega) h (hke.trans e1.keeps) fun u xl st2 e2 hu hv=>?_
 have e12:=e1.trans e2
 have hlen:=OR (s:=s) (l:=l) (f:=f)
 rw[Aj ((n:Int)+1) (by omega) (by omega)]
 refine⟨fun c i dp u' st'=>u=u'/\dp=(d:Int)/\∃k m:Nat,i=k/\k<=(B9 s l f).length/\c=(m:Int)/\m<=65536/\Ah st2 st'/\Bq (d+1) (n+1) (B9 s l f)=Bq (d+1) m ((B9 s l f).drop k),fun _ i _ _ _=>((B9 s l f).length-i).toNat,
  ⟨rfl,rfl,0,n+1,rfl,Nat.zero_le _,by omega,by omega,Ah.refl _,rfl⟩,?_⟩
 rintro _ _ _ _ st3 ⟨rfl,rfl,k,m,rfl,hkl,rfl,hm,e3,hE⟩
 refine Aa hu.isSl (Ab (fun g4=>?_) fun g4=>?_)
 ·rw[hu.lenS]at g4
  refine JU e3.keeps hu hv rfl (by omega) fun s' l' f' ub1 ul1 uf1 gw hw on=>?_
  have hwsz:=QO gw
  rw[E4 gw,GH]at hE
  rw[Aj _ (by omega) (by omega)]
  refine ih _ (by omega) (by omega) (d:=d+1) hw e3.keeps hm (by omega) (by omega) fun st4 e4=>?_
  refine Ab (fun g5=>?_) fun g5=>?_
  ·have hne:(B5 (d+1) m (.mk s' l' f')).2≠0:=by omega
   rw[Hz hne]at hE
   exact kk _ st4 (by rw[hC,hE]) (e12.trans (e3.trans e4))
  ·have hz:(B5 (d+1) m (.mk s' l' f')).2=0:=by omega
   rw[BZ hz]at hE
   rw[Aj _ (by omega) (by omega)]
   exact⟨⟨rfl,rfl,k+1,_,by omega,by omega,rfl,KC _ _ _ hm hz,e3.trans e4,hE⟩,by dsimp only;omega⟩
 ·rw[hu.lenS]at g4
  have hkk:k=(B9 s l f).length:=by omega
  subst hkk
  rw[List.drop_length,Bq]at hE
  exact kk (m,0) st3 (by rw[hC,hE]) (e12.trans e3)
theorem Mu {v:Vl} (hN:v.sz<=2000000) {st0 st:St} {cs:List TV} {K:Int->St->Prop} (h:VlR st0 v cs) (hke:A7 st0 st) (hk:∀st',Ah st st'->K (AP v:Nat) st'):
  CallT PR BQ [.agg cs] [.one (.int .i64)] st K:=by
 have h0:=h
 cases v with
 | mk s l f=>
 unfold VlR at h0
 obtain⟨ub,ul,uf,xl,xf,rfl,_⟩:=h0
 exact GQ _ _ _ _ _ _ _ _ _ _ _ _ _ st K (look_ok 2000000 _ hN (by omega) (d:=1) (n:=0) h hke (by omega) rfl (by omega) hk)
end
theorem VlR.cells {st:St} {s:Sc} {l:List Vl} {f:List Fd} {cs:List TV} (h:VlR st (.mk s l f) cs):∃ub ul uf xl xf,cs=AA s ub ul uf/\SlR st 1 ub s.bytes.length (AM s.bytes)/\SlR st 13 ul l.length xl/\VsR st l xl/\SlR st 14 uf f.length xf/\FsR st f xf:=by
 unfold VlR at h
 obtain⟨ub,ul,uf,xl,xf,rfl,h⟩:=h
 exact⟨ub,ul,uf,xl,xf,rfl,h⟩
theorem szs (s:Sc) (l:List Vl) (f:List Fd):(Vl.mk s l f).sz=1+s.bytes.length+s.text.length+s.dg.length+Bw l+Bu f:=by unfold Vl.sz;rfl
theorem szd (k:B8) (v:Vl):(Fd.mk k v).sz=k.length+v.sz:=by unfold Fd.sz;rfl
theorem Lj {st0 st:St} {uf:TV} {xf:List TV} {l:List Fd} (hke:A7 st0 st) (h2:SlR st0 14 uf l.length xf) (h3:FsR st0 l xf) {k:Nat} {d:Fd} (hd:l[k]? =some d):Ac st [] (.t (Au (ixT 14 uf k) 0)) 0=some (.str d.key):=by
 obtain⟨hk,_⟩:=List.getElem?_eq_some_iff.1 hd
 obtain⟨cw,hw,hcw,hcl⟩:=h3.get hd
 have hx:xf[k*14+0]? =some (.str d.key):=by
  cases d with
  | mk key w=>
   unfold FdR at hw
   obtain⟨cs,rfl,_⟩:=hw
   have:=congrArg (fun z=>z[0]?) hcw
   simpa [Fd.key]using this
 exact(h2.keep hke).ldf h3.len hk (by omega) hx
section
mutual
theorem LF:∀(v:Vl) (d n:Nat),(B5 d n v).2=0->(B5 d n v).1=n+v.cnt
 | .mk s l f,d,n,h=>by
  unfold B5 at h⊢
  unfold Vl.cnt
  split at h
  ·cases h
  ·rename_i g1
   rw[if_neg g1]
   split at h
   ·cases h
   ·rename_i g2
    rw[if_neg g2]
    split at h
    ·rename_i h1;exact absurd h h1
    ·rename_i g3
     rw[if_neg g3]
     obtain⟨h2,h3⟩:=Bt h
     rw[BZ h2,MU f _ _ h3,MS l _ _ h2];omega
theorem MS:∀(l:List Vl) (d n:Nat),(Bq d n l).2=0->(Bq d n l).1=n+Az l
 | [],d,n,_=>by unfold Bq Az;rfl
 | v::r,d,n,h=>by
  unfold Bq at h⊢
  unfold Az
  obtain⟨h2,h3⟩:=Bt h
  rw[BZ h2,MS r _ _ h3,LF v _ _ h2];omega
theorem To:∀(x:Fd) (d n:Nat),(Jm d n x).2=0->(Jm d n x).1=n+x.cnt
 | .mk k v,d,n,h=>by unfold Jm at h⊢;unfold Fd.cnt;exact LF v _ _ h
theorem MU:∀(l:List Fd) (d n:Nat),(BG d n l).2=0->(BG d n l).1=n+Ay l
 | [],d,n,_=>by unfold BG Ay;rfl
 | x::r,d,n,h=>by
  unfold BG at h⊢
  unfold Ay
  obtain⟨h2,h3⟩:=Bt h
  rw[BZ h2,MU r _ _ h3,To x _ _ h2];omega
end
theorem EM {v:Vl} (h:AP v=0):v.cnt<=65536:=by
 have h1:=LF v 1 0 h
 have h2:=KC v 1 0 (by omega) h
 omega
theorem Eh {v:Vl} (h:AP v=0):AD v:=NM v 1 0 h
end
theorem IN {α:Type} {l m:List α} {k:Nat} {x y:α} (h:l.take k=m.take k) (hx:l[k]? =some x) (hy:m[k]? =some y) (e:x=y):l.take (k+1)=m.take (k+1):=by
 rw[A0 hx,A0 hy,h,e]
theorem sc_eq {s t:Sc} (h1:s.kind=t.kind) (h2:s.b=t.b) (h3:s.neg=t.neg) (h4:s.dg=t.dg) (h5:s.ex=t.ex) (h6:s.tk=t.tk) (h7:s.td=t.td) (h8:s.tn=t.tn) (h9:s.tz=t.tz) (h10:s.text=t.text) (h11:s.bytes=t.bytes):s=t:=by
 cases s;cases t;simp_all
theorem Same_ok:∀(N:Nat) (v w:Vl),v.sz<=N->w.sz<=2000000->N<=2000000->∀{st0 st:St} {cs ds:List TV} {K:Bool->St->Prop},VlR st0 v cs->VlR st0 w ds->A7 st0 st->(∀r,(r=true↔v=w)->K r st)->
  CallT PR A6 [.agg cs,.agg ds] [.one .bool] st K:=by
 intro N
 induction N with
 | zero=>intro v w h;have:=v.sz_pos;omega
 | succ N ih=>
 intro v w hN hW hN2 st0 st cs ds K h h' hke hk
 cases v with
 | mk s l f=>
 cases w with
 | mk t m g=>
 have hsz:=szs s l f
 have hll:=BJ l
 have hfl:=By f
 have hsz':=szs t m g
 have hll':=BJ m
 have hfl':=By g
 obtain⟨ub,ul,uf,xl,xf,rfl,h1,h2,h3,h4,h5⟩:=h.cells
 obtain⟨wb,wl,wf,yl,yf,rfl,k1,k2,k3,k4,k5⟩:=h'.cells
 have no:(Vl.mk s l f≠Vl.mk t m g)->K false st:=fun hne=>hk false ⟨fun h=>(by cases h),fun h=>absurd h hne⟩
 have inj:Vl.mk s l f=Vl.mk t m g↔s=t/\l=m/\f=g:=by simp
 refine G7 _ _ _ _ _ _ _ _ _ _ _ _ _ _ _ _ _ _ _ _ _ _ _ _ _ _ st K ?_
 refine Ab (fun e=>no fun h=>e (by rw[(inj.1 h).1])) fun e1=>As (fun e=>no fun h=>?_) fun e2=>As (fun e=>no fun h=>?_) fun e3=>As (fun e=>no fun h=>?_) fun e4=>Ab (fun e=>no fun h=>e (by rw[(inj.1 h).1])) fun e5=>?_
 ·rw[(inj.1 h).1]at e;simp at e
 ·rw[(inj.1 h).1]at e;simp at e
 ·rw[(inj.1 h).1]at e;simp at e
 refine Ad (x:= .str s.bytes) (by rw[(h1.keep hke).toBytes];rfl) (Dk (Ad (x:=TV.str t.bytes) (by rw[(k1.keep hke).toBytes];rfl) (Dk ?_)))
 refine Ab (fun e=>no fun h=>e (by rw[(inj.1 h).1])) fun e6=>?_
 have hst:s=t:=by
  simp only[Bool.not_eq_false',Bool.and_eq_true,beq_iff_eq,decide_eq_true_eq,and_true]at e2 e3 e4
  exact sc_eq (Decidable.not_not.1 e1) e2 e3.1 e3.2.1 e3.2.2 e4.1 e4.2.1 e4.2.2.1 e4.2.2.2 (Decidable.not_not.1 e5) (Decidable.not_not.1 e6)
 subst hst
 refine Aa h2.isSl (Aa k2.isSl ?_)
 rw[h2.lenS,k2.lenS]
 refine Ab (fun e=>no fun h=>e (by rw[(inj.1 h).2.1])) fun e7=>Aa h4.isSl (Aa k4.isSl ?_)
 rw[h4.lenS,k4.lenS]
 refine Ab (fun e=>no fun h=>e (by rw[(inj.1 h).2.2])) fun e8=>?_
 have ell:l.length=m.length:=by omega
 have efl:f.length=g.length:=by omega
 refine⟨fun i a1 a2 a3 a4 a5 a6 a7 a8 a9 a10 a11 a12 a13 b1 b2 b3 b4 b5 b6 b7 b8 b9 b10 b11 b12 b13 st'=>ul=a12/\uf=a13/\wl=b12/\wf=b13/\st=st'/\∃k:Nat,i=k/\k<=l.length/\l.take k=m.take k,fun i _ _ _ _ _ _ _ _ _ _ _ _ _ _ _ _ _ _ _ _ _ _ _ _ _ _ _=>(l.length-i).toNat,
  ⟨rfl,rfl,rfl,rfl,rfl,0,rfl,Nat.zero_le _,rfl⟩,?_⟩
 rintro _ a1 a2 a3 a4 a5 a6 a7 a8 a9 a10 a11 _ _ b1 b2 b3 b4 b5 b6 b7 b8 b9 b10 b11 _ _ _ ⟨rfl,rfl,rfl,rfl,rfl,k,rfl,hkl,hE⟩
 refine Aa h2.isSl (Ab (fun q=>?_) fun q=>?_)
 ·rw[h2.lenS]at q
  refine JU hke h2 h3 rfl (by omega) fun s1 l1 f1 ub1 ul1 uf1 gw hw on=>JU hke k2 k3 rfl (by omega) fun s2 l2 f2 ub2 ul2 uf2 gw2 hw2 on2=>?_
  have hwsz:=Cr gw
  have hwsz2:=Cr gw2
  refine ih _ (.mk s2 l2 f2) (by omega) (by omega) (by omega) hw hw2 hke fun r hr=>As (fun hb=>no fun h=>?_) fun hb=>?_
  ·rw[(inj.1 h).2.1,gw2]at gw
   rw[hr.2 (Option.some.inj gw).symm]at hb;cases hb
  ·rw[Aj _ (by omega) (by omega)]
   exact⟨⟨rfl,rfl,rfl,rfl,rfl,k+1,by omega,by omega,IN hE gw gw2 (hr.1 (by simpa using hb))⟩,by dsimp only;omega⟩
 ·rw[h2.lenS]at q
  have hlm:l=m:=by
   have:k=l.length:=by omega
   rw[this,List.take_length,ell,List.take_length]at hE;exact hE
  subst hlm
  refine⟨fun i a1 a2 a3 a4 a5 a6 a7 a8 a9 a10 a11 a12 a13 b1 b2 b3 b4 b5 b6 b7 b8 b9 b10 b11 b12 b13 st'=>uf=a13/\wf=b13/\st=st'/\∃k:Nat,i=k/\k<=f.length/\f.take k=g.take k,fun i _ _ _ _ _ _ _ _ _ _ _ _ _ _ _ _ _ _ _ _ _ _ _ _ _ _ _=>(f.length-i).toNat,
   ⟨rfl,rfl,rfl,0,rfl,Nat.zero_le _,rfl⟩,?_⟩
  rintro _ a1 a2 a3 a4 a5 a6 a7 a8 a9 a10 a11 a12 _ b1 b2 b3 b4 b5 b6 b7 b8 b9 b10 b11 b12 _ _ ⟨rfl,rfl,rfl,k,rfl,hkl,hF⟩
  refine Aa h4.isSl (Ab (fun q=>?_) fun q=>?_)
  ·rw[h4.lenS]at q
   have gd:f[k]? =some f[k]:=List.getElem?_eq_getElem (by omega)
   have gd2:g[k]? =some g[k]:=List.getElem?_eq_getElem (by omega)
   generalize f[k]=d at gd
   generalize g[k]=d2 at gd2
   refine Lk hke h4 h5 rfl gd (Lk hke k4 k5 rfl gd2 (Ab (fun e=>?_) fun e=>?_))
   ·refine⟨Lj hke k4 k5 gd2,Lj hke h4 h5 gd,no fun h=>e ?_⟩
    rw[(inj.1 h).2.2,gd2]at gd
    rw[Option.some.inj gd]
   ·refine Mm hke h4 h5 rfl (by omega) fun key1 s1 l1 f1 ub1 ul1 uf1 gw hw on=>Mm hke k4 k5 rfl (by omega) fun key2 s2 l2 f2 ub2 ul2 uf2 gw2 hw2 on2=>?_
    have hwsz:=Cg gw
    have hwsz2:=Cg gw2
    have hwk:=szd key1 (.mk s1 l1 f1)
    have hwk2:=szd key2 (.mk s2 l2 f2)
    refine ih (.mk s1 l1 f1) (.mk s2 l2 f2) (by omega) (by omega) (by omega) hw hw2 hke fun r hr=>⟨Lj hke k4 k5 gd2,Lj hke h4 h5 gd,As (fun hb=>no fun h=>?_) fun hb=>?_⟩
    ·rw[(inj.1 h).2.2,gw2]at gw
     have:=Option.some.inj gw
     simp only[Fd.mk.injEq]at this
     rw[hr.2 this.2.symm]at hb;cases hb
    ·rw[Aj _ (by omega) (by omega)]
     refine⟨⟨rfl,rfl,rfl,k+1,by omega,by omega,IN hF gw gw2 ?_⟩,by dsimp only;omega⟩
     rw[gd]at gw
     rw[gd2]at gw2
     have q1:=Option.some.inj gw
     have q2:=Option.some.inj gw2
     subst q1 q2
     have:=hr.1 (by simpa using hb)
     simp only[Fd.key,Decidable.not_not]at e
     rw[e,this]
  ·rw[h4.lenS]at q
   have hfg:f=g:=by
    have:k=f.length:=by omega
    rw[this,List.take_length,efl,List.take_length]at hF;exact hF
   exact hk true ⟨fun _=>by rw[hfg],fun _=>rfl⟩
section
def Cl (l:List Vl) (f:List Fd):List Vl:=l++f.map Fd.val
mutual
def JV:Vl->Nat
 | .mk _ l f=>1+max (C8 l) (Ia f)
def C8:List Vl->Nat
 | []=>0
 | v::r=>max (JV v) (C8 r)
def RL:Fd->Nat
 | .mk _ v=>JV v
def Ia:List Fd->Nat
 | []=>0
 | d::r=>max (RL d) (Ia r)
end
theorem HI:∀l m:List Vl,C8 (l++m)=max (C8 l) (C8 m)
 | [],m=>by simp[C8]
 | v::r,m=>by simp only[List.cons_append,C8,HI r m];omega
theorem MP:∀f:List Fd,Ia f=C8 (f.map Fd.val)
 | []=>rfl
 | .mk k v::r=>by simp only[List.map_cons,C8,Ia,MP r,RL,Fd.val]
theorem DT:∀l m:List Vl,Az (l++m)=Az l+Az m
 | [],m=>by simp[Az]
 | v::r,m=>by simp only[List.cons_append,Az,DT r m];omega
theorem MK:∀f:List Fd,Ay f=Az (f.map Fd.val)
 | []=>rfl
 | .mk k v::r=>by simp only[List.map_cons,Az,Ay,MK r,Fd.cnt,Fd.val]
theorem Pc (s:Sc) (l:List Vl) (f:List Fd):(Vl.mk s l f).cnt=1+Az (Cl l f):=by
 unfold Cl Vl.cnt
 rw[DT,<-MK];omega
theorem Ti (s:Sc) (l:List Vl) (f:List Fd):JV (Vl.mk s l f)=1+C8 (Cl l f):=by
 unfold Cl JV
 rw[HI,<-MP]
mutual
theorem Q5:∀v:Vl,JV v<=v.cnt
 | .mk s l f=>by
  unfold JV Vl.cnt
  have:=Lx l
  have:=O8 f
  omega
theorem Lx:∀l:List Vl,C8 l<=Az l
 | []=>by unfold C8;exact Nat.zero_le _
 | v::r=>by
  unfold C8 Az
  have:=Q5 v
  have:=Lx r
  omega
theorem Th:∀d:Fd,RL d<=d.cnt
 | .mk k v=>by unfold RL Fd.cnt;exact Q5 v
theorem O8:∀l:List Fd,Ia l<=Ay l
 | []=>by unfold Ia;exact Nat.zero_le _
 | d::r=>by
  unfold Ia Ay
  have:=Th d
  have:=O8 r
  omega
end
theorem VsR.all_one {st:St}:∀{l:List Vl} {xs:List TV},VsR st l xs->List.all xs Aq=true
 | [],xs,h=>by unfold VsR at h;subst h;rfl
 | .mk s l f::r,xs,h=>by
  unfold VsR at h
  obtain⟨a,b,rfl,h1,h2⟩:=h
  obtain⟨ub,ul,uf,xl,xf,rfl,q1,q2,_,q4,_⟩:=h1.cells
  rw[List.all_append,VsR.all_one h2,Bool.and_true]
  exact C7 q1.one q2.one q4.one
theorem VsR.app {st:St}:∀{l m:List Vl} {xs ys:List TV},VsR st l xs->VsR st m ys->VsR st (l++m) (xs++ys)
 | [],m,xs,ys,h,hm=>by unfold VsR at h;subst h;exact hm
 | v::r,m,xs,ys,h,hm=>by
  unfold VsR at h
  obtain⟨a,b,rfl,h1,h2⟩:=h
  show VsR st (v::(r++m)) _
  unfold VsR
  exact⟨a,b++ys,by simp,h1,VsR.app h2 hm⟩
theorem RR {st0 st:St} {u:TV} {l:List Vl} {xl:List TV} (hke:A7 st0 st) (h:SlR st0 13 u l.length xl) (hv:VsR st0 l xl) (hl:l.length<=2000000) {K:TV->St->Prop} (hk:∀v st',Ah st st'->Own st.nt 13 st' v l.length xl->K v st'):
  CallT PR AW [u] [.one .tv] st K:=by
 have hxl:=hv.len
 refine CK _ st K (Aa h.isSl ?_)
 cases hq:CP u with
 | true=>
  show K .nilSlice st
  have h0:l=[]:=by
   rcases h with(⟨rfl,h1,_⟩ | ⟨tip,rfl⟩) | ⟨b,off,cap,m,rfl,_⟩
   ·exact List.eq_nil_of_length_eq_zero h1
   ·cases hq
   ·cases hq
  subst h0
  have hx0:xl=[]:=List.eq_nil_of_length_eq_zero (by simpa using hxl)
  subst hx0
  exact hk _ st (Ah.refl _) (Own.nil _ _ _)
 | false=>
  refine Ad ((h.keep hke).src hxl) (Aa hv.all_one ?_)
  refine Hu (Ah.refl st) rfl (Own.full st.nt 13 st 0 []) (by simp only;omega) (fun h0=>?_) fun v1 st1 e1 _ ho=>?_
  ·simp only at h0
   exact List.eq_nil_of_length_eq_zero (by rw[hxl,h0,Nat.zero_mul])
  ·rw[List.nil_append,Nat.zero_add]at ho
   exact hk v1 st1 e1 ho
theorem OE {s:Sc} {l:List Vl} {f:List Fd} (hN:(Vl.mk s l f).sz<=2000000) {st0 st:St} {ub ul uf:TV} {K:TV->St->Prop} (h:VlR st0 (.mk s l f) (AA s ub ul uf)) (hke:A7 st0 st)
  (hk:∀u xl st',Ah st st'->SlR st' 13 u (Cl l f).length xl->VsR st' (Cl l f) xl->K u st'):CallT PR D7 [.agg (AA s ub ul uf)] [.one .tv] st K:=by
 have hsz:=szs s l f
 have hll:=BJ l
 have hfl:=By f
 obtain⟨ub',ul',uf',xl,xf,hcs,h1,h2,h3,h4,h5⟩:=h.cells
 simp only[AA,List.cons.injEq,and_true,true_and]at hcs
 obtain⟨rfl,rfl,rfl⟩:=hcs
 have hxl:=h3.len
 refine LQ _ _ _ _ _ _ _ _ _ _ _ _ _ st K (RR hke h2 h3 (by omega) fun v1 st1 e1 ho1=>Aa h4.isSl ?_)
 refine⟨fun o i u n st'=>uf=u/\n=(f.length:Int)/\∃(k:Nat) (xs:List TV),i=k/\k<=f.length/\Ah st st'/\Own st.nt 13 st' o (l.length+k) (xl++xs)/\VsR st0 ((f.take k).map Fd.val) xs,fun _ i _ _ _=>(f.length-i).toNat,
  ⟨rfl,by rw[h4.lenS],0,[],rfl,Nat.zero_le _,e1,by simpa using ho1,by simp only[List.take_zero,List.map_nil];unfold VsR;rfl⟩,?_⟩
 rintro o _ _ _ st2 ⟨rfl,rfl,k,xs,rfl,hkf,e2,ho,hv⟩
 refine Ab (fun g2=>?_) fun g2=>?_
 ·refine O6 (hke.trans e2.keeps) h4 h5 rfl (by omega) fun key s' l' f' ub1 ul1 uf1 gw hw on=>Aa on ?_
  have on2:List.all (AA s' ub1 ul1 uf1) Aq=true:=by
   rw[List.all_cons]at on;exact(Bool.and_eq_true_iff.1 on).2
  refine Aa on2 (Hu e2 rfl ho (by omega) (fun h=>by cases h) fun v2 st3 e3 _ ho2=>?_)
  rw[Aj _ (by omega) (by omega)]
  refine⟨⟨rfl,rfl,k+1,xs++AA s' ub1 ul1 uf1,by omega,by omega,e3,by simpa [AA,Nat.add_assoc]using ho2,?_⟩,by dsimp only;omega⟩
  rw[A0 gw,List.map_append]
  exact VsR.snoc hv hw
 ·have hkk:k=f.length:=by omega
  subst hkk
  rw[List.take_length]at hv
  have hke2:=hke.trans e2.keeps
  refine hk o (xl++xs) st2 e2 ?_ (VsR.keep hke2 (VsR.app h3 hv))
  unfold Cl
  rw[List.length_append,List.length_map]
  exact .of_rd ho.rd
theorem Gf {l:List Vl} {k:Nat} {w:Vl} (h:l[k]? =some w):Az (l.take (k+1))=Az (l.take k)+w.cnt:=by
 rw[A0 h,DT];simp[Az]
theorem Qe {l:List Vl} {k:Nat} {w:Vl} (h:l[k]? =some w):C8 (l.take (k+1))=max (C8 (l.take k)) (JV w):=by
 rw[A0 h,HI];simp[C8]
theorem Dg (l:List Vl) (k:Nat):Az (l.take k)<=Az l:=by
 have:=DT (l.take k) (l.drop k)
 rw[List.take_append_drop]at this;omega
theorem Mi (l:List Vl):l.length<=Az l:=by
 induction l with
 | nil=>exact Nat.zero_le _
 | cons v r ih=>unfold Az;have:=v.cnt_pos;simp only[List.length_cons];omega
theorem H9 (l:List Vl) (k:Nat):C8 (l.take k)<=C8 l:=by
 have:=HI (l.take k) (l.drop k)
 rw[List.take_append_drop]at this;omega
mutual
theorem IA:∀v:Vl,v.cnt<=v.sz
 | .mk s l f=>by
  have:=Ky l
  have:=Kz f
  unfold Vl.cnt;rw[szs];omega
theorem Ky:∀l:List Vl,Az l<=Bw l
 | []=>by unfold Az;exact Nat.zero_le _
 | v::r=>by
  unfold Az Bw
  have:=IA v
  have:=Ky r
  omega
theorem cntd_sz:∀d:Fd,d.cnt<=d.sz
 | .mk k v=>by unfold Fd.cnt Fd.sz;have:=IA v;omega
theorem Kz:∀l:List Fd,Ay l<=Bu l
 | []=>by unfold Ay;exact Nat.zero_le _
 | d::r=>by
  unfold Ay Bu
  have:=cntd_sz d
  have:=Kz r
  omega
end
theorem OS {s:Sc} {l:List Vl} {f:List Fd} {k:Nat} {w:Vl} (h:(Cl l f)[k]? =some w):w.sz+1<=(Vl.mk s l f).sz:=by
 have hsz:=szs s l f
 rcases List.mem_append.1 (Dp h)with h | h
 ·have:=N7 h;omega
 ·obtain⟨d,hd,rfl⟩:=List.mem_map.1 h
  have:=Jf hd
  cases d;rw[szd]at this;simp only[Fd.val];omega
theorem size_ok:∀(N:Nat) (v:Vl),v.sz<=N->N<=2000000->∀{st0 st:St} {cs:List TV} {L:Int} {K:Int->St->Prop},VlR st0 v cs->A7 st0 st->(v.cnt:Int)<=L->L<=100000000->(∀st',Ah st st'->K (v.cnt:Nat) st')->
  CallT PR D6 [.agg cs,.int .i64 L] [.one (.int .i64)] st K:=by
 intro N
 induction N with
 | zero=>intro v h;have:=v.sz_pos;omega
 | succ N ih=>
 intro v hN hN2 st0 st cs L K h hke hL hL2 hk
 cases v with
 | mk s l f=>
 have h0:=h
 obtain⟨ub,ul,uf,xl,xf,rfl,_⟩:=h.cells
 have hC:=Pc s l f
 have hcs:=IA (.mk s l f)
 have hpos:=(Vl.mk s l f).cnt_pos
 have hlen:=Mi (Cl l f)
 refine LP _ _ _ _ _ _ _ _ _ _ _ _ _ L st K (Ab (fun g=>by omega) fun _=>OE (by omega) h0 hke fun u xl st1 e1 hu hv=>Aa hu.isSl ?_)
 refine⟨fun n i le u' m st'=>u=u'/\le=L/\m=((Cl l f).length:Int)/\∃k:Nat,i=k/\k<=(Cl l f).length/\n=((1+Az ((Cl l f).take k):Nat):Int)/\Ah st1 st',fun _ i _ _ _ _=>((Cl l f).length-i).toNat,
  ⟨rfl,rfl,by rw[hu.lenS],0,rfl,Nat.zero_le _,rfl,Ah.refl _⟩,?_⟩
 rintro _ _ _ _ _ st2 ⟨rfl,rfl,rfl,k,rfl,hkl,rfl,e2⟩
 have htk:=Dg (Cl l f) k
 refine Ab (fun g=>?_) fun g=>?_
 ·refine JU e2.keeps hu hv rfl (by omega) fun s' l' f' ub1 ul1 uf1 gw hw on=>Aa on ?_
  have hwsz:=OS (s:=s) gw
  have hwc:=Gf gw
  have htk2:=Dg (Cl l f) (k+1)
  rw[Aj (_-1) (by omega) (by omega)]
  refine ih _ (by omega) (by omega) hw e2.keeps (by omega) (by omega) fun st3 e3=>?_
  rw[Aj _ (by omega) (by omega),Aj _ (by omega) (by omega)]
  exact⟨⟨rfl,rfl,rfl,k+1,by omega,by omega,by omega,e2.trans e3⟩,by dsimp only;omega⟩
 ·have hkk:k=(Cl l f).length:=by omega
  rw[hkk,List.take_length,<-hC]
  exact hk st2 (e1.trans e2)
theorem Size_ok {v:Vl} (hN:v.sz<=2000000) (hC:v.cnt<=65536) {st0 st:St} {cs:List TV} {K:Int->St->Prop} (h:VlR st0 v cs) (hke:A7 st0 st) (hk:∀st',Ah st st'->K (v.cnt:Nat) st'):CallT PR FG [.agg cs] [.one (.int .i64)] st K:=by
 cases v with
 | mk s l f=>
 have h0:=h
 obtain⟨ub,ul,uf,xl,xf,rfl,_⟩:=h.cells
 exact LT _ _ _ _ _ _ _ _ _ _ _ _ _ st K (size_ok 2000000 _ hN (by omega) h0 hke (by omega) (by omega) hk)
theorem deep_ok:∀(N:Nat) (v:Vl),v.sz<=N->N<=2000000->∀{st0 st:St} {cs:List TV} {L:Int} {K:Int->St->Prop},VlR st0 v cs->A7 st0 st->(v.cnt:Int)<=L->L<=100000000->(∀st',Ah st st'->K (JV v:Nat) st')->
  CallT PR D8 [.agg cs,.int .i64 L] [.one (.int .i64)] st K:=by
 intro N
 induction N with
 | zero=>intro v h;have:=v.sz_pos;omega
 | succ N ih=>
 intro v hN hN2 st0 st cs L K h hke hL hL2 hk
 cases v with
 | mk s l f=>
 have h0:=h
 obtain⟨ub,ul,uf,xl,xf,rfl,_⟩:=h.cells
 have hC:=Pc s l f
 have hD:=Ti s l f
 have hcs:=IA (.mk s l f)
 have hpos:=(Vl.mk s l f).cnt_pos
 have hlen:=Mi (Cl l f)
 have hdc:=Lx (Cl l f)
 refine LS _ _ _ _ _ _ _ _ _ _ _ _ _ L st K (Ab (fun g=>?_) fun _=>OE (by omega) h0 hke fun u xl st1 e1 hu hv=>Aa hu.isSl ?_)
 ·have:=hk st (Ah.refl _)
  rw[show JV (.mk s l f)=1 by omega]at this;exact this
 refine⟨fun n i le u' m st'=>u=u'/\le=L/\m=((Cl l f).length:Int)/\∃k:Nat,i=k/\k<=(Cl l f).length/\n=((1+C8 ((Cl l f).take k):Nat):Int)/\Ah st1 st',fun _ i _ _ _ _=>((Cl l f).length-i).toNat,
  ⟨rfl,rfl,by rw[hu.lenS],0,rfl,Nat.zero_le _,rfl,Ah.refl _⟩,?_⟩
 rintro _ _ _ _ _ st2 ⟨rfl,rfl,rfl,k,rfl,hkl,rfl,e2⟩
 have htk:=H9 (Cl l f) k
 refine Ab (fun g=>?_) fun g=>?_
 ·refine JU e2.keeps hu hv rfl (by omega) fun s' l' f' ub1 ul1 uf1 gw hw on=>Aa on ?_
  have hwsz:=OS (s:=s) gw
  have hwc:=Gf gw
  have hwd:=Qe gw
  have htk2:=H9 (Cl l f) (k+1)
  have htk3:=Dg (Cl l f) (k+1)
  rw[Aj (_-1) (by omega) (by omega)]
  refine ih _ (by omega) (by omega) hw e2.keeps (by omega) (by omega) fun st3 e3=>?_
  rw[Aj _ (by omega) (by omega),Aj _ (by omega) (by omega)]
  exact⟨⟨rfl,rfl,rfl,k+1,by omega,by omega,by rw[hwd];omega,e2.trans e3⟩,by dsimp only;omega⟩
 ·have hkk:k=(Cl l f).length:=by omega
  rw[hkk,List.take_length,<-hD]
  exact hk st2 (e1.trans e2)
theorem TE {v:Vl} (hN:v.sz<=2000000) (hC:v.cnt<=65536) {st0 st:St} {cs:List TV} {K:Int->St->Prop} (h:VlR st0 v cs) (hke:A7 st0 st) (hk:∀st',Ah st st'->K (JV v:Nat) st'):CallT PR EX [.agg cs] [.one (.int .i64)] st K:=by
 cases v with
 | mk s l f=>
 have h0:=h
 obtain⟨ub,ul,uf,xl,xf,rfl,_⟩:=h.cells
 exact KI _ _ _ _ _ _ _ _ _ _ _ _ _ st K (deep_ok 2000000 _ hN (by omega) h0 hke (by omega) (by omega) hk)
theorem Rl {s:Sc} {l:List Vl} {f:List Fd} (h:AD (.mk s l f)) {k:Nat} {w:Vl} (hw:(B9 s l f)[k]? =some w):AD w:=by
 unfold AD at h
 obtain⟨_,h2,h3⟩:=h
 have hv:∀{l:List Vl},BW l->∀v,v∈l->AD v:=by
  intro l
  induction l with
  | nil=>intro _ v h;cases h
  | cons a r ih=>
   intro h v hv
   unfold BW at h
   rcases List.mem_cons.1 hv with rfl | hv
   ·exact h.1
   ·exact ih h.2 v hv
 have hf:∀{l:List Fd},BE l->∀d,d∈l->AD d.val:=by
  intro l
  induction l with
  | nil=>intro _ v h;cases h
  | cons a r ih=>
   intro h v hv
   unfold BE at h
   rcases List.mem_cons.1 hv with rfl | hv
   ·cases v;have:=h.1;unfold Ep at this;exact this
   ·exact ih h.2 v hv
 unfold B9 at hw
 split at hw
 ·obtain⟨d,hd,rfl⟩:=List.mem_map.1 (Dp hw)
  exact hf h3 d hd
 ·exact hv h2 _ (Dp hw)
end
def zs (n:Nat):B8:=List.replicate n 48
theorem Bj {T b sz bytes:Nat} {st0 st:St} {v:TV} {n k:Nat} {xs ys:List TV} {K:TV->St->Prop} (e:Ah st0 st) (hb:b=st0.nt) (h:Own b sz st v n xs) (hby:(n+k)*bytes<=140737488355328) (hys:k=0->ys=[])
  (hK:∀v' st',Ah st0 st'->A7 st st'->Own b sz st' v' (n+k) (xs++ys)->K v' st'):Bl T sz bytes v k ys st K:=by
 subst hb
 have kk:∀st':St,st'.nb=st.nb->st'.box=st.box->A7 st st':=fun st' a b=>⟨Nat.le_of_eq a.symm,fun i _=>by rw[b]⟩
 rcases h with⟨rfl,rfl,rfl⟩ | ⟨tip,rfl,ht⟩
 ·simp only[Bl]
  cases k with
  | zero=>rw[hys rfl]at hK;exact hK _ _ e (kk _ rfl rfl) (.nil _ _ _)
  | succ m=>
   simp only[Ag]
   refine⟨by simpa using hby,hK _ _ (e.fresh _) (kk _ rfl rfl) ?_⟩
   simp only[List.nil_append,Nat.zero_add]
   exact Own.fresh _ _ e.nt
 ·simp only[Bl,Nat.beq_refl]
  refine⟨hby,?_⟩
  rcases ht with rfl | ⟨id,rfl,h1,h2,h3⟩
  ·cases k with
   | zero=>rw[hys rfl]at hK;simp only[List.append_nil]at hK;exact hK _ _ e (kk _ rfl rfl) (Own.full _ _ _ _ _)
   | succ m=>exact hK _ _ (e.fresh _) (kk _ rfl rfl) (Own.fresh _ _ e.nt)
  ·exact⟨h3,hK _ _ ((e.retire h1).fresh _) (kk _ rfl rfl) (Own.fresh (st:=st.retire id) _ _ e.nt)⟩
theorem FsR.snoc {st:St} {d:Fd} {cd:List TV} {l:List Fd} {xs:List TV} (h:FsR st l xs) (hd:FdR st d cd):FsR st (l++[d]) (xs++cd):=by
 obtain⟨cks,rfl,hall⟩:=h.chunks
 have:=FsR.of_chunks (hall.snoc hd)
 simpa using this
theorem Bg (st:St):A7 St.zero st:=⟨Nat.zero_le _,fun i hi=>absurd hi (Nat.not_lt_zero _)⟩
section
mutual
def lvV:Vl->Nat
 | .mk _ l f=>1+max (CN l) (Cz f)
def CN:List Vl->Nat
 | []=>0
 | v::r=>max (lvV v) (CN r)
def lvD:Fd->Nat
 | .mk _ v=>lvV v
def Cz:List Fd->Nat
 | []=>0
 | d::r=>max (lvD d) (Cz r)
end
theorem QM {l:List Vl} {n:Nat}:CN l<=n↔∀v,v∈l->lvV v<=n:=by
 induction l with
 | nil=>unfold CN;simp
 | cons x r ih=>unfold CN;rw[Nat.max_le,ih];simp
end
theorem kb {s:Sc} {k:Nat} (h:s.kind=(k:Nat)) (hk:k<=7):s.kind.toNat.toUInt8.toNat=k:=by
 rw[h,Int.toNat_natCast,QG _ (by omega)]
section
mutual
theorem NO:∀(v:Vl) (d n:Nat),(B5 d n v).2=0->lvV v<=49-d
 | .mk s l f,d,n,h=>by
  unfold B5 at h
  split at h
  ·cases h
  split at h
  ·cases h
  split at h
  ·rename_i h1;exact absurd h h1
  ·obtain⟨h1,h2⟩:=Bt h
   have:=Pg l (d+1) (n+1) h1
   have:=Pk f (d+1) _ h2
   unfold lvV;omega
theorem Pg:∀(l:List Vl) (d n:Nat),(Bq d n l).2=0->CN l<=49-d
 | [],d,n,h=>by unfold CN;omega
 | v::r,d,n,h=>by
  unfold Bq at h
  obtain⟨h1,h2⟩:=Bt h
  have:=NO v d n h1
  have:=Pg r d _ h2
  unfold CN;omega
theorem chkD_lv:∀(x:Fd) (d n:Nat),(Jm d n x).2=0->lvD x<=49-d
 | .mk k v,d,n,h=>by unfold Jm at h;unfold lvD;exact NO v d n h
theorem Pk:∀(f:List Fd) (d n:Nat),(BG d n f).2=0->Cz f<=49-d
 | [],d,n,h=>by unfold Cz;omega
 | x::r,d,n,h=>by
  unfold BG at h
  obtain⟨h1,h2⟩:=Bt h
  have:=chkD_lv x d n h1
  have:=Pk r d _ h2
  unfold Cz;omega
end
end
section
theorem IF (l m:List Vl):Bw (l++m)=Bw l+Bw m:=by
 induction l with
 | nil=>simp[Bw]
 | cons v r ih=>simp only[List.cons_append,Bw,ih];omega
theorem Jg (l m:List Fd):Bu (l++m)=Bu l+Bu m:=by
 induction l with
 | nil=>simp[Bu]
 | cons v r ih=>simp only[List.cons_append,Bu,ih];omega
theorem EL (l m:List Fd):Ay (l++m)=Ay l+Ay m:=by
 induction l with
 | nil=>simp[Ay]
 | cons v r ih=>simp only[List.cons_append,Ay,ih];omega
theorem Mh {l:List Vl} {k:Nat} {w:Vl} (h:l[k]? =some w):Bw (l.take (k+1))=Bw (l.take k)+w.sz:=by
 rw[List.take_add_one,h,IF];simp[Bw]
theorem MJ {l:List Fd} {k:Nat} {w:Fd} (h:l[k]? =some w):Bu (l.take (k+1))=Bu (l.take k)+w.sz:=by
 rw[List.take_add_one,h,Jg];simp[Bu]
theorem Lo {l:List Fd} {k:Nat} {w:Fd} (h:l[k]? =some w):Ay (l.take (k+1))=Ay (l.take k)+w.cnt:=by
 rw[List.take_add_one,h,EL];simp[Ay]
theorem Rj (s:Sc) (l:List Vl) (f:List Fd):(Vl.mk s l f).cnt=1+Az l+Ay f:=by unfold Vl.cnt;rfl
theorem fcnt (k:B8) (v:Vl):(Fd.mk k v).cnt=v.cnt:=by unfold Fd.cnt;rfl
def RmOk (v:Vl) (n r:Int):Prop:=r= -1∨(0<=r/\(v.sz:Int)+3000+r*12001<=n*12001/\(v.cnt:Int)+r<=n)
theorem Ru:∀(N:Nat) (v:Vl),v.sz<=N->∀{st:St} {cs:List TV} {D n:Int} {K:Int->St->Prop},VlR St.zero v cs-> -1000<=D->D<=1000-> -1<=n->n<=1000->(∀r,RmOk v n r->K r st)->
  CallT PR A5 [.agg cs,.int .i64 D,.int .i64 n,.int .i64 3000] [.one (.int .i64)] st K:=by
 intro N
 induction N with
 | zero=>intro v h;have:=v.sz_pos;omega
 | succ N ih=>
 intro v hN st cs D n K h hD1 hD2 hn1 hn2 hk
 cases v with
 | mk s l f=>
 have hsz:=szs s l f
 have hct:=Rj s l f
 obtain⟨ub,ul,uf,xl,xf,rfl,h1,h2,h3,h4,h5⟩:=h.cells
 have no:K (-1) st:=hk _ (.inl rfl)
 refine G5 _ _ _ _ _ _ _ _ _ _ _ _ _ D n 3000 st K (Ab (fun _=>no) fun g1=>Ab (fun _=>no) fun g2=>Ab (fun _=>no) fun g3=>Aa h1.isSl (Ab (fun _=>no) fun g4=>Ab (fun _=>no) fun g5=>Aa h2.isSl (Ab (fun _=>no) fun g6=>Aa h4.isSl (Ab (fun _=>no) fun g7=>?_))))
 rw[h1.lenS]at g4
 rw[h2.lenS]at g6
 rw[h4.lenS]at g7
 rw[Aj (n-1) (by omega) (by omega)]
 refine⟨fun zn zi zd zb k bo ng dg ex tk td tn tz tx u0 u1 u2 st'=>ul=u1/\uf=u2/\D=zd/\3000=zb/\st=st'/\∃k:Nat,zi=(k:Int)/\k<=l.length/\ -1<=zn/\zn<=n-1/\(0<=zn->(Bw (l.take k):Int)+zn*12001<=(n-1)*12001/\(Az (l.take k):Int)+zn<=n-1),
  fun _ zi _ _ _ _ _ _ _ _ _ _ _ _ _ _ _ _=>(l.length-zi).toNat,⟨rfl,rfl,rfl,rfl,rfl,0,rfl,Nat.zero_le _,by omega,by omega,fun _=>by rw[List.take_zero];simp[Bw,Az]⟩,?_⟩
 rintro zn _ _ _ _ _ _ _ _ _ _ _ _ _ _ _ _ _ ⟨rfl,rfl,rfl,rfl,rfl,k,rfl,hkl,z1,z2,z3⟩
 refine Aa h2.isSl (Ab (fun g=>Ab (fun g0=>?_) fun g0=>?q1) fun g=>?q2)
 ·rw[h2.lenS]at g
  refine JU (Bg _) h2 h3 rfl (by omega) fun s' l' f' ub1 ul1 uf1 gw hw on=>?_
  have hwsz:=Cr gw
  have e1:=Mh gw
  have e2:=Gf gw
  obtain⟨z4,z5⟩:=z3 g0
  rw[Aj ((k:Int)+1) (by omega) (by omega),Aj (D-1) (by omega) (by omega)]
  refine ih _ (by omega) hw (by omega) (by omega) (by omega) (by omega) fun r hr=>⟨⟨rfl,rfl,rfl,rfl,rfl,k+1,by omega,by omega,?_,?_,?_⟩,by dsimp only;omega⟩
  ·rcases hr with hr | hr<;>omega
  ·rcases hr with hr | hr
   ·omega
   ·have:=Vl.sz_pos (.mk s' l' f');omega
  ·intro hr0
   rcases hr with hr | hr
   ·omega
   ·rw[e1,e2];omega
 case q1 | q2=>
  have zz:zn= -1∨(Bw l:Int)+zn*12001<=(n-1)*12001/\(Az l:Int)+zn<=n-1:=by
   by_cases hz:0<=zn
   ·right
    have hkk:k=l.length:=by
     first
      | (exfalso;exact g0 hz)
      | (rw[h2.lenS]at g;omega)
    rw[hkk,List.take_of_length_le (Nat.le_refl _)]at z3
    exact z3 hz
   ·left;omega
  refine⟨fun yn zi zd zb k bo ng dg ex tk td tn tz tx u0 u1 u2 st'=>uf=u2/\D=zd/\3000=zb/\st=st'/\∃k:Nat,zi=(k:Int)/\k<=f.length/\ -1<=yn/\yn<=n-1/\(0<=yn->(Bw l:Int)+Bu (f.take k)+yn*12001<=(n-1)*12001/\(Az l:Int)+Ay (f.take k)+yn<=n-1),
   fun _ zi _ _ _ _ _ _ _ _ _ _ _ _ _ _ _ _=>(f.length-zi).toNat,⟨rfl,rfl,rfl,rfl,0,rfl,Nat.zero_le _,by omega,by omega,fun hz=>by rw[List.take_zero];simp only[Bu,Ay];omega⟩,?_⟩
  rintro yn _ _ _ _ _ _ _ _ _ _ _ _ _ _ _ _ _ ⟨rfl,rfl,rfl,rfl,k2,rfl,hkl2,y1,y2,y3⟩
  have fin:(k2=f.length∨¬0<=yn)->K yn st:=by
   intro hor
   refine hk _ ?_
   by_cases hy:0<=yn
   ·rcases hor with hor | hor
    ·obtain⟨y4,y5⟩:=y3 hy
     rw[hor,List.take_of_length_le (Nat.le_refl _)]at y4 y5
     exact .inr ⟨hy,by rw[hsz];omega,by rw[hct];omega⟩
    ·exact absurd hy hor
   ·exact .inl (by omega)
  refine Aa h4.isSl (Ab (fun g8=>Ab (fun g9=>?_) fun g9=>fin (.inr g9)) fun g8=>fin (.inl (by rw[h4.lenS]at g8;omega)))
  rw[h4.lenS]at g8
  have hlt:k2<f.length:=by omega
  obtain⟨dd,hdd⟩:∃d,f[k2]? =some d:=⟨_,List.getElem?_eq_getElem hlt⟩
  obtain⟨key,w⟩:=dd
  obtain⟨s',l',f'⟩:=w
  have hky:=Lj (st:=st) (Bg st) h4 h5 hdd
  refine⟨⟨by omega,by rw[h4.lenZ];omega⟩,Aa (h4.isPtr hlt) (Ad hky (Dk (Ab (fun _=>no) fun g10=>?_)))⟩
  refine Mm (Bg _) h4 h5 rfl hlt fun key' s' l' f' ub1 ul1 uf1 gw hw on=>?_
  rw[hdd]at gw
  cases gw
  have hwsz:=Cg hdd
  have e1:=MJ hdd
  have e2:=Lo hdd
  have e3:=szd key (.mk s' l' f')
  have e4:=fcnt key (.mk s' l' f')
  obtain⟨y4,y5⟩:=y3 g9
  have g10:¬3000<(key.length:Int):=g10
  rw[Aj ((k2:Int)+1) (by omega) (by omega),Aj (D-1) (by omega) (by omega)]
  refine ih _ (by omega) hw (by omega) (by omega) (by omega) (by omega) fun r hr=>⟨⟨rfl,rfl,rfl,rfl,k2+1,by omega,by omega,?_,?_,?_⟩,by dsimp only;omega⟩
  ·rcases hr with hr | hr<;>omega
  ·rcases hr with hr | hr
   ·omega
   ·have:=Vl.sz_pos (.mk s' l' f');omega
  ·intro hr0
   rcases hr with hr | hr
   ·omega
   ·rw[e1,e2];omega
theorem N5:∀(N:Nat) (v:Vl),v.sz<=N->N<=2000000->∀{st:St} {cs:List TV} {K:Int->St->Prop},VlR St.zero v cs->(∀w:Int,(v.cnt:Int)+w=v.sz->K w st)->
  CallT PR Bd [.agg cs] [.one (.int .i64)] st K:=by
 intro N
 induction N with
 | zero=>intro v h;have:=v.sz_pos;omega
 | succ N ih=>
 intro v hN hN2 st cs K h hk
 cases v with
 | mk s l f=>
 have hsz:=szs s l f
 have hct:=Rj s l f
 have hll:=BJ l
 have hfl:=By f
 have hc1:=Ky l
 have hc2:=Kz f
 obtain⟨ub,ul,uf,xl,xf,rfl,h1,h2,h3,h4,h5⟩:=h.cells
 refine Gg _ _ _ _ _ _ _ _ _ _ _ _ _ st K (Aa h1.isSl ?_)
 refine⟨fun zn zi k bo ng dg ex tk td tn tz tx u0 u1 u2 st'=>ul=u1/\uf=u2/\st=st'/\∃k:Nat,zi=(k:Int)/\k<=l.length/\zn+(Az (l.take k):Int)=(s.bytes.length:Int)+s.text.length+s.dg.length+Bw (l.take k),
  fun _ zi _ _ _ _ _ _ _ _ _ _ _ _ _ _=>(l.length-zi).toNat,⟨rfl,rfl,rfl,0,rfl,Nat.zero_le _,?_⟩,?_⟩
 ·rw[h1.lenS,Aj ((s.text.length:Int)+(s.bytes.length:Nat)) (by omega) (by omega),Aj _ (by omega) (by omega),List.take_zero]
  simp only[Az,Bw];omega
 rintro zn _ _ _ _ _ _ _ _ _ _ _ _ _ _ _ ⟨rfl,rfl,rfl,k,rfl,hkl,z1⟩
 have b1:=Dg l k
 have b2:Bw (l.take k)<=Bw l:=by
  conv=>rhs;rw[<-List.take_append_drop k l,IF]
  omega
 have b3:=Ky (l.take k)
 refine Aa h2.isSl (Ab (fun g=>?_) fun g=>?_)
 ·rw[h2.lenS]at g
  refine JU (Bg _) h2 h3 rfl (by omega) fun s' l' f' ub1 ul1 uf1 gw hw on=>?_
  have hwsz:=Cr gw
  have e1:=Mh gw
  have e2:=Gf gw
  have e3:=IA (.mk s' l' f')
  rw[Aj ((k:Int)+1) (by omega) (by omega)]
  refine ih _ (by omega) (by omega) hw fun r hr=>⟨⟨rfl,rfl,rfl,k+1,by omega,by omega,?_⟩,by dsimp only;omega⟩
  rw[Aj _ (by omega) (by omega),e1,e2];omega
 ·have hkk:k=l.length:=by rw[h2.lenS]at g;omega
  rw[hkk,List.take_of_length_le (Nat.le_refl _)]at z1
  refine⟨fun yn zi k bo ng dg ex tk td tn tz tx u0 u1 u2 st'=>uf=u2/\st=st'/\∃k:Nat,zi=(k:Int)/\k<=f.length/\yn+(Az l:Int)+Ay (f.take k)=(s.bytes.length:Int)+s.text.length+s.dg.length+Bw l+Bu (f.take k),
   fun _ zi _ _ _ _ _ _ _ _ _ _ _ _ _ _=>(f.length-zi).toNat,⟨rfl,rfl,0,rfl,Nat.zero_le _,by rw[List.take_zero];simp only[Ay,Bu];omega⟩,?_⟩
  rintro yn _ _ _ _ _ _ _ _ _ _ _ _ _ _ _ ⟨rfl,rfl,k2,rfl,hkl2,y1⟩
  have b4:Ay (f.take k2)<=Ay f:=by
   conv=>rhs;rw[<-List.take_append_drop k2 f,EL]
   omega
  have b5:Bu (f.take k2)<=Bu f:=by
   conv=>rhs;rw[<-List.take_append_drop k2 f,Jg]
   omega
  have b6:=Kz (f.take k2)
  refine Aa h4.isSl (Ab (fun g8=>?_) fun g8=>?_)
  case refine_2=>
   have hkk2:k2=f.length:=by rw[h4.lenS]at g8;omega
   rw[hkk2,List.take_of_length_le (Nat.le_refl _)]at y1
   exact hk _ (by rw[hsz,hct];omega)
  rw[h4.lenS]at g8
  have hlt:k2<f.length:=by omega
  obtain⟨dd,hdd⟩:∃d,f[k2]? =some d:=⟨_,List.getElem?_eq_getElem hlt⟩
  obtain⟨key,w⟩:=dd
  obtain⟨s',l',f'⟩:=w
  have hky:∀st,Ac st [] (.t (Au (ixT 14 uf k2) 0)) 0=some (.str key):=fun st=>Lj (st:=st) (Bg st) h4 h5 hdd
  refine⟨⟨by omega,by rw[h4.lenZ];omega⟩,Aa (h4.isPtr hlt) (Ad (hky _) (Dk ?_))⟩
  refine Mm (Bg _) h4 h5 rfl hlt fun key' s' l' f' ub1 ul1 uf1 gw hw on=>?_
  rw[hdd]at gw
  cases gw
  have hwsz:=Cg hdd
  have e1:=MJ hdd
  have e2:=Lo hdd
  have e3:=szd key (.mk s' l' f')
  have e4:=fcnt key (.mk s' l' f')
  have e5:=IA (.mk s' l' f')
  rw[Aj ((k2:Int)+1) (by omega) (by omega)]
  refine ih _ (by omega) (by omega) hw fun r hr=>⟨hky _,⟨rfl,rfl,k2+1,by omega,by omega,?_⟩,by dsimp only;omega⟩
  rw[Aj (yn+_) (by omega) (by omega),Aj _ (by omega) (by omega),e1,e2];omega
theorem PC {v:Vl} {cs:List TV} {st:St} {K:Bool->St->Prop} (h:VlR St.zero v cs) (hk:∀b:Bool,(b=true->v.sz<=20150/\v.cnt<=150)->K b st):
  CallT PR CB [.agg cs] [.one .bool] st K:=by
 have h0:=h
 obtain⟨s,l,f⟩:=v
 obtain⟨ub,ul,uf,xl,xf,rfl,_⟩:=h.cells
 refine GP _ _ _ _ _ _ _ _ _ _ _ _ _ st K (Ru _ _ (Nat.le_refl _) h0 (by decide) (by decide) (by decide) (by decide) fun r hr=>Ab (fun g=>?_) fun g=>hk false (fun h=>by cases h))
 rcases hr with hr | ⟨hr0,hr1,hr2⟩
 ·omega
 refine N5 2000000 _ (by omega) (Nat.le_refl _) h0 fun w hw=>hk _ fun hb=>?_
 rw[decide_eq_true_eq]at hb
 omega
mutual
theorem NN:∀(v:Vl) (d n:Nat),AD v->d+lvV v<=49->n+v.cnt<=65536->B5 d n v=(n+v.cnt,0)
 | .mk s l f,d,n,h,h1,h2=>by
  unfold AD at h
  obtain⟨g1,g2,g3⟩:=h
  unfold lvV at h1
  unfold Vl.cnt at h2⊢
  have e1:=Pf l (d+1) (n+1) g2 (by omega) (by omega)
  have e2:=Pj f (d+1) (n+1+Az l) g3 (by omega) (by omega)
  rw[NP (by omega) (by omega) (JJ.2 g1),e1,BZ rfl]
  show BG (d+1) (n+1+Az l) f=_
  rw[e2]
  congr 1;omega
theorem Pf:∀(l:List Vl) (d n:Nat),BW l->(l≠ []->d+CN l<=49)->n+Az l<=65536->Bq d n l=(n+Az l,0)
 | [],d,n,_,_,_=>by unfold Bq Az;rfl
 | v::r,d,n,h,h1,h2=>by
  unfold BW at h
  have h1:=h1 (by simp)
  unfold CN at h1
  unfold Az at h2⊢
  have e1:=NN v d n h.1 (by omega) (by omega)
  have e2:=Pf r d (n+v.cnt) h.2 (fun _=>by omega) (by omega)
  rw[GH,e1,BZ rfl]
  show Bq d (n+v.cnt) r=_
  rw[e2]
  congr 1;omega
theorem chkD_of:∀(x:Fd) (d n:Nat),Ep x->d+lvD x<=49->n+x.cnt<=65536->Jm d n x=(n+x.cnt,0)
 | .mk k v,d,n,h,h1,h2=>by
  unfold Ep at h
  unfold lvD at h1
  unfold Fd.cnt at h2⊢
  unfold Jm
  exact NN v d n h h1 h2
theorem Pj:∀(l:List Fd) (d n:Nat),BE l->(l≠ []->d+Cz l<=49)->n+Ay l<=65536->BG d n l=(n+Ay l,0)
 | [],d,n,_,_,_=>by unfold BG Ay;rfl
 | x::r,d,n,h,h1,h2=>by
  unfold BE at h
  have h1:=h1 (by simp)
  unfold Cz at h1
  unfold Ay at h2⊢
  have e1:=chkD_of x d n h.1 (by omega) (by omega)
  have e2:=Pj r d (n+x.cnt) h.2 (fun _=>by omega) (by omega)
  unfold BG
  rw[e1,BZ rfl]
  show BG d (n+x.cnt) r=_
  rw[e2]
  congr 1;omega
end
theorem Ts {v:Vl} (h:AD v) (hl:lvV v<=48) (hc:v.cnt<=65536):AP v=0:=by
 unfold AP
 rw[NN v 1 0 h (by omega) (by omega)]
theorem OU:∀(f:List Fd) (seen:List B8),LO f->(∀d,d∈f->d.key∉seen/\U8 d.key/\d.key.length<=1024)->Cf seen f=0
 | [],seen,_,_=>rfl
 | d::r,seen,hn,h=>by
  obtain⟨h1,h2,h3⟩:=h d (.head _)
  unfold Cf
  unfold LO at hn
  rw[List.map_cons,List.nodup_cons]at hn
  rw[if_pos h2,if_neg (by omega),if_neg h1]
  refine OU r _ hn.2 fun x hx=>?_
  obtain⟨g1,g2,g3⟩:=h x (.tail _ hx)
  refine⟨fun hm=>?_,g2,g3⟩
  rcases List.mem_cons.1 hm with he | hm
  ·exact hn.1 (he▸List.mem_map.2 ⟨x,hx,rfl⟩)
  ·exact g1 hm
end
section
open Go.RowKit (Below)
def St.upto (st' st:St):St:={st' with nb:=st.nb,box:=st.box}
def Ghost.upto (g:Ghost) (w:World) (n:Nat):Ghost:=
 {g with nb:=n,S:=fun a=>g.S a∨∃b,n<=b/\b<g.nb/\a.block=g.bk b/\a.spot=none/\∃v,w.cell? a=some v}
theorem R7 {st st':St} (e:Ah st st'):Ah st (st'.upto st):=⟨Nat.le_refl _,fun _ _=>rfl,e.nt,e.live,e.ty,e.bt⟩
theorem Rel.lower {g g1:Ghost} {w w1:World} {x:TV} {u0:Value} (h:Rel g w x u0):∀{u:Value},Rel g1 w1 x u->Rel (g1.upto w1 g.nb) w1 x u:=by
 induction h with
 | undef=>intro u h;cases h;exact .undef
 | junk v=>intro u h;exact .junk u
 | int k n=>intro u h;cases h;exact .int k n
 | bool b=>intro u h;cases h;exact .bool b
 | str l=>intro u h;cases h;exact .str l
 | nilPtr=>intro u h;cases h;exact .nilPtr
 | nilSlice=>intro u h;cases h;exact .nilSlice
 | nilMap=>intro u h;cases h;exact .nilMap
 | nilFunc=>intro u h;cases h;exact .nilFunc
 | nilIface=>intro u h;cases h;exact .nilIface
 | list sz tip n xs b o cap us hl hn hc hr ht ih=>
  intro u h
  cases h with
  | list _ _ _ _ b1 o1 cap1 us1 hl1 hn1 hc1 hr1 ht1=>
   exact .list sz tip n xs b1 o1 cap1 us1 hl1 hn1 (fun i hi=>⟨.inl (hc1 i hi).1,(hc1 i hi).2⟩) (fun i hi=>ih i hi (hr1 i hi)) ht1
  | listE _ _ a ht1=>exact .listE sz tip a ht1
 | listE sz tip a ht=>
  intro u h
  cases h with
  | list _ _ _ _ b1 o1 cap1 us1 hl1 hn1 hc1 hr1 ht1=>
   exact .list sz tip 0 [] b1 o1 cap1 us1 hl1 hn1 (fun i hi=>absurd hi (Nat.not_lt_zero _)) (fun i hi=>absurd hi (Nat.not_lt_zero _)) ht1
  | listE _ _ a ht1=>exact .listE sz tip a ht1
 | ms sz b off n cap h hn=>
  intro u h1
  cases h1
  exact .ms (g:=g1.upto w1 g.nb) sz b off n cap h hn
 | box b off h=>
  intro u h1
  cases h1
  exact .box (g:=g1.upto w1 g.nb) b off h
 | rptr xs b o us hc hr ih=>
  intro u h
  cases h with
  | rptr _ b1 o1 us1 hc1 hr1=>exact .rptr xs b1 o1 us1 (fun i hi=>⟨.inl (hc1 i hi).1,(hc1 i hi).2⟩) fun i hi=>ih i hi (hr1 i hi)
 | agg xs vs hl hr ih=>
  intro u h
  cases h with
  | agg _ vs1 hl1 hr1=>exact .agg xs vs1 hl1 fun i hi=>ih i hi (hr1 i hi)
 | tuple xs vs hl hr ih=>
  intro u h
  cases h with
  | tuple _ vs1 hl1 hr1=>exact .tuple xs vs1 hl1 fun i hi=>ih i hi (hr1 i hi)
 | func f xs vs hl hr ih=>
  intro u h
  cases h with
  | func _ _ vs1 hl1 hr1=>exact .func f xs vs1 hl1 fun i hi=>ih i hi (hr1 i hi)
 | iface t v u0 h ih=>
  intro u h1
  cases h1 with
  | iface _ _ u1 h2=>exact .iface t v u1 (ih h2)
 | map b h=>
  intro u h1
  cases h1
  exact .map (g:=g1.upto w1 g.nb) b h
 | sptr v a n cap hc h ih=>
  intro u h1
  cases h1 with
  | sptr _ a1 n1 cap1 hc1 h2=>exact .sptr v a1 n1 cap1 hc1 (ih h2)
theorem AE.lower {g g1:Ghost} {w w1:World} {xs:List TV} {us0 us:List Value} (h0:AE g w xs us0) (h:AE g1 w1 xs us):AE (g1.upto w1 g.nb) w1 xs us:=
 ⟨h.1,fun i hi=>(h0.2 i hi).lower (h.2 i hi)⟩
theorem FO.lower {g g1:Ghost} {w w1:World} {b b1:Nat} {o:Jr} (h0:FO g w b o) (h:FO g1 w1 b1 o):FO (g1.upto w1 g.nb) w1 b1 o:=by
 cases o with
 | dead=>trivial
 | cells l=>
  obtain⟨cs0,_,hr0⟩:=h0
  obtain⟨cs,hc,hr⟩:=h
  exact⟨cs,hc,hr0.lower hr⟩
 | iter s pos=>exact h
 | map es=>
  obtain⟨ms0,c0,_,_,hm0⟩:=h0
  obtain⟨ms,c,hc,hl,hm⟩:=h
  refine⟨ms,c,hc,hl,fun i k v hi=>?_⟩
  obtain⟨e0,_,_,h3⟩:=hm0 i k v hi
  obtain⟨e,g1,g2,g3⟩:=hm i k v hi
  exact⟨e,g1,g2,h3.lower g3⟩
 | pmap es=>
  obtain⟨ms0,c0,_,_,hm0⟩:=h0
  obtain⟨ms,c,hc,hl,hm⟩:=h
  refine⟨ms,c,hc,hl,fun i k v hi=>?_⟩
  obtain⟨hk0,e0,_,_,h3⟩:=hm0 i k v hi
  obtain⟨hk,e,g1,g2,g3⟩:=hm i k v hi
  exact⟨hk0,e,g1,g2,h3.lower g3⟩
theorem Sim.upto {g g':Ghost} {st st':St} {w w':World} (s:Sim g st [] w) (s':Sim g' st' [] w') (e:Ext g w g' w') (x:Ah st st'):Sim (g'.upto w' st.nb) (st'.upto st) [] w'/\Ext g w (g'.upto w' st.nb) w':=by
 have hnb:st.nb<=g'.nb:=by rw[s'.nb];exact x.nb
 have dom:∀k,Dom (st'.upto st) [] k->Dom st' [] k:=fun k hk=>by
  cases k with
  | box b=>exact Nat.lt_of_lt_of_le (show b<st.nb from hk) x.nb
  | loc i=>exact hk
 have domO:∀k,Dom (st'.upto st) [] k->Dom st [] k:=fun k hk=>by
  cases k with
  | box b=>exact hk
  | loc i=>exact hk
 refine⟨⟨rfl,s'.nt,s'.below,s'.fits,fun k hk=>?_,fun k k' h h' he=>s'.inj k k' (dom k h) (dom k' h') (by cases k<;>cases k'<;>exact he),fun k hk=>?_,s'.own,fun id b l h hid=>?_,s'.spApart,s'.spLt,fun a ha=>?_,fun b hb=>?_,s'.spTop,s'.spTy,fun b T hb ht=>?_,s'.glob⟩,?_⟩
 ·have h0:=s.obj k (domO k hk)
  have h1:=s'.obj k (dom k hk)
  cases k with
  | box b=>
   have hb:b<st.nb:=hk
   have h1':FO g' w' (g'.bk b) (st.box b):=by rw[<-x.box b hb];exact h1
   have h2:=FO.lower (g:=g) (w:=w) (b:=g.at (.box b)) h0 h1'
   rw[s.nb]at h2
   exact h2
  | loc i=>obtain⟨l,hl⟩:=hk;simp at hl
 ·have:=s'.lo k (dom k hk)
  cases k<;>exact this
 ·obtain⟨h1,h2,h3,h4,h5⟩:=s'.spCell id b l h hid
  exact⟨h1,h2,h3,fun k hk=>by have:=h4 k (dom k hk);cases k<;>exact this,h5⟩
 ·rcases ha with ha | ⟨b,h1,h2,h3,h4,h5⟩
  ·obtain⟨q1,q2,q3,q4⟩:=s'.sCell a ha
   exact⟨q1,q2,fun k hk=>by have:=q3 k (dom k hk);cases k<;>exact this,q4⟩
  ·have hd:Dom st' [] (.box b):=by show b<st'.nb;rw[<-s'.nb];exact h2
   refine⟨h4,h5,fun k hk hc=>?_,fun id l h hid _=>?_⟩
   ·cases k with
    | box b'=>
     have hb':b'<st.nb:=hk
     have:=s'.inj (.box b') (.box b) (dom _ hk) hd (by rw[h3]at hc;exact hc)
     cases this
     omega
    | loc i=>obtain⟨l,hl⟩:=hk;simp at hl
   ·have:=(s'.spCell id a.block l h hid).2.2.2.1 (.box b) hd
    exact this h3.symm
 ·obtain⟨h1,h2,h3,h4⟩:=s'.protOk b hb
  refine⟨h1,fun k hk=>by have:=h2 k (dom k hk);cases k<;>exact this,h3,fun a ha=>?_⟩
  rcases ha with ha | ⟨c,q1,q2,q3,q4,q5⟩
  ·exact h4 a ha
  ·rw[q3]
   exact h2 (.box c) (by show c<st'.nb;rw[<-s'.nb];exact q2)
 ·have hb':b<st.nb:=hb
  exact s'.bTy b T (Nat.lt_of_lt_of_le hb' x.nb) ht
 ·exact⟨e.base,e.w0,e.size,by show g.nb<=st.nb;rw[s.nb];exact Nat.le_refl _,e.bk,e.nt,e.sp,fun a ha=>⟨.inl (e.S a ha).1,(e.S a ha).2⟩,e.prot,e.protEq⟩
def FN (st st':St) (r r':TV):Prop:=∀(g':Ghost) (w':World) (u:Value),Sim g' st' [] w'->Rel g' w' r u->Rel (g'.upto w' st.nb) w' r' u
theorem Df.settle {P:Program} {f:FuncId} {args:List TV} {st:St} {R:TV->St->Prop} (h:Df P f args st fun r st'=>Ah st st'/\∃r',FN st st' r r'/\R r' (st'.upto st)):Df P f args st R:=by
 refine⟨fun g w vargs s hr=>(h.run g w vargs s hr).mono ?_⟩
 rintro v w' ⟨r,st',g',⟨x,r',hs,hR⟩,s',hrel,e⟩
 obtain⟨s2,e2⟩:=Sim.upto s s' e x
 exact⟨r',st'.upto st,g'.upto w' st.nb,hR,s2,hs g' w' v s' hrel,e2⟩
theorem CallT.settle {P:Program} {f:FuncId} {args:List TV} {sh:List RTy} {st:St} {K:FunR sh (St->Prop)} (h:CallT P f args sh st (E7 sh fun r st'=>Ah st st'/\∃r',FN st st' r r'/\Em sh r' K fun p=>p (st'.upto st))):CallT P f args sh st K:=
 Df.settle (Df.mono h fun r st' hd=>Jk (F:=fun r st'=>Ah st st'/\∃r',FN st st' r r'/\Em sh r' K fun p=>p (st'.upto st)) (k:=fun p=>p st') hd)
def EK (st st':St) (xs xs':List TV):Prop:=xs'.length=xs.length/\∀(g':Ghost) (w':World),Sim g' st' [] w'->∀us,AE g' w' xs us->AE (g'.upto w' st.nb) w' xs' us
theorem AE.split {g:Ghost} {w:World} {a b:List TV} {us:List Value} (h:AE g w (a++b) us):AE g w a (us.take a.length)/\AE g w b (us.drop a.length):=by
 have h1:=h.take a.length
 have h2:=h.drop a.length
 rw[List.take_left]at h1
 rw[List.drop_left]at h2
 exact⟨h1,h2⟩
theorem EK.nil (st st':St):EK st st' [] []:=⟨rfl,fun g' w' _ us h=>⟨h.1,fun i hi=>absurd hi (Nat.not_lt_zero _)⟩⟩
theorem EK.app {st st':St} {a b a' b':List TV} (h:EK st st' a a') (k:EK st st' b b'):EK st st' (a++b) (a'++b'):=by
 refine⟨by rw[List.length_append,List.length_append,h.1,k.1],fun g' w' s us hr=>?_⟩
 obtain⟨h1,h2⟩:=hr.split
 have:=(h.2 g' w' s _ h1).append (k.2 g' w' s _ h2)
 rw[List.take_append_drop]at this
 exact this
theorem EK.one {st st':St} {x x':TV} (h:FN st st' x x'):EK st st' [x] [x']:=by
 refine⟨rfl,fun g' w' s us hr=>?_⟩
 refine⟨hr.1,fun i hi=>?_⟩
 match i,hi with
 | 0,_=>exact h g' w' _ s (hr.2 0 (by simp))
theorem DV (st st':St) (k:IntKind) (n:Int):FN st st' (.int k n) (.int k n):=fun g' w' u _ h=>by cases h;exact .int k n
theorem J1 (st st':St) (b:Bool):FN st st' (.bool b) (.bool b):=fun g' w' u _ h=>by cases h;exact .bool b
theorem Ik (st st':St) (l:B8):FN st st' (.str l) (.str l):=fun g' w' u _ h=>by cases h;exact .str l
theorem EK.bytes (st st':St) (l:B8):EK st st' (AM l) (AM l):=by
 refine⟨rfl,fun g' w' s us hr=>⟨hr.1,fun i hi=>?_⟩⟩
 have h:=hr.2 i hi
 have e:∀x,x∈AM l->∃b:UInt8,x=Jn b:=fun x hx=>by
  unfold AM at hx
  obtain⟨b,_,rfl⟩:=List.mem_map.1 hx
  exact⟨b,rfl⟩
 obtain⟨b,hb⟩:=e _ (List.getElem_mem hi)
 rw[hb]at h⊢
 unfold Jn at h⊢
 rw[h.int_inv]
 exact .int _ _
theorem CY.settle {st st':St} {sz n:Nat} {u:TV} {xs xs':List TV} {bs:List Nat} (h:CY st' sz u n xs bs) (hb:∀x,x∈bs->st.nb<=x) (hx:EK st st' xs xs'):∃u',Rd sz u' n xs'/\FN st st' u u':=by
 rcases h with⟨rfl,rfl,rfl,rfl | rfl⟩ | ⟨b,cap,tail,rfl,h1,h2,h3,h4,h5,rfl⟩
 ·have:xs'=[]:=List.eq_nil_of_length_eq_zero hx.1
  subst this
  exact⟨.nilSlice,.inl ⟨rfl,rfl,rfl⟩,fun g' w' u _ h=>by cases h;exact .nilSlice⟩
 ·have:xs'=[]:=List.eq_nil_of_length_eq_zero hx.1
  subst this
  refine⟨.list sz .full 0 [],.inr ⟨_,rfl⟩,fun g' w' u _ h=>?_⟩
  cases h with
  | list _ _ _ _ b1 o1 cap1 us1 hl1 hn1 hc1 hr1 ht1=>exact .list sz .full 0 [] b1 o1 cap1 us1 hl1 hn1 (fun i hi=>absurd hi (Nat.not_lt_zero _)) (fun i hi=>absurd hi (Nat.not_lt_zero _)) ht1
  | listE _ _ a ht1=>exact .listE sz .full a ht1
 ·refine⟨.list sz .non n xs',.inr ⟨_,rfl⟩,fun g' w' u s h=>?_⟩
  cases h with
  | ms _ _ _ _ _ hlt hn=>
  have hlt':Dom st' [] (.box b):=h1
  have ho:=s.obj (.box b) hlt'
  have ho':FO g' w' (g'.bk b) (.cells (xs++tail)):=by rw[<-h2];exact ho
  obtain⟨cs,hc,hr⟩:=ho'
  have hq:=(hx.2 g' w' s _ hr.split.1)
  have hlen:xs.length<=cs.length:=by have:=hr.1;rw[List.length_append]at this;omega
  refine .list sz .non n xs' (g'.bk b) 0 cap (fun i=>cs.getD i Go.undef) (by rw[hx.1,h4]) hn (fun i hi=>?_) (fun i hi=>?_) trivial
  ·have hi':i<cs.length:=by rw[hx.1]at hi;omega
   have hv:cs[i]? =some (cs.getD i Go.undef):=by rw[List.getD_eq_getElem?_getD,List.getElem?_eq_getElem hi'];rfl
   have hg:=hc.get hv
   rw[Nat.zero_add]
   exact⟨.inr ⟨b,hb b (.head _),hlt,rfl,rfl,_,hg⟩,hg⟩
  ·have:=hq.2 i hi
   have e:(cs.take xs.length).getD i Go.undef=cs.getD i Go.undef:=by
    have hi':i<xs.length:=by rw[hx.1]at hi;exact hi
    rw[List.getD_eq_getElem?_getD,List.getD_eq_getElem?_getD,List.getElem?_take,if_pos hi']
   rw[e]at this
   exact this
mutual
theorem VlO.settle {st st':St}:∀{v:Vl} {cs:List TV} {fp:List Nat},VlO st' v cs fp->(∀x,x∈fp->st.nb<=x)->∃cs',VlR St.zero v cs'/\EK st st' cs cs'
 | .mk s l f,cs,fp,h,hb=>by
  unfold VlO at h
  obtain⟨ub,ul,uf,xl,xf,bb,bl,bf,fl,ff,rfl,h1,h2,h3,h4,h5,rfl⟩:=h
  have m1:∀{x},x∈bb->st.nb<=x:=fun hx=>hb _ (List.mem_append_left _ hx)
  have m2:∀{x},x∈bl->st.nb<=x:=fun hx=>hb _ (List.mem_append_right _ (List.mem_append_left _ hx))
  have m3:∀{x},x∈fl->st.nb<=x:=fun hx=>hb _ (List.mem_append_right _ (List.mem_append_right _ (List.mem_append_left _ hx)))
  have m4:∀{x},x∈bf->st.nb<=x:=fun hx=>hb _ (List.mem_append_right _ (List.mem_append_right _ (List.mem_append_right _ (List.mem_append_left _ hx))))
  have m5:∀{x},x∈ff->st.nb<=x:=fun hx=>hb _ (List.mem_append_right _ (List.mem_append_right _ (List.mem_append_right _ (List.mem_append_right _ hx))))
  obtain⟨xl',q1,q2⟩:=VsO.settle h3 fun x hx=>m3 hx
  obtain⟨xf',q3,q4⟩:=FsO.settle h5 fun x hx=>m5 hx
  obtain⟨ub',r1,r2⟩:=h1.settle (fun x hx=>m1 hx) (EK.bytes st st' _)
  obtain⟨ul',r3,r4⟩:=h2.settle (fun x hx=>m2 hx) q2
  obtain⟨uf',r5,r6⟩:=h4.settle (fun x hx=>m4 hx) q4
  refine⟨AA s ub' ul' uf',?_,?_⟩
  ·unfold VlR
   exact⟨ub',ul',uf',xl',xf',rfl,.of_rd r1,.of_rd r3,q1,.of_rd r5,q3⟩
  ·have c:∀{x x':TV} {l l':List TV},FN st st' x x'->EK st st' l l'->EK st st' (x::l) (x'::l'):=fun h k=>(EK.one h).app k
   exact c (DV _ _ _ _) (c (J1 _ _ _) (c (J1 _ _ _) (c (Ik _ _ _) (c (DV _ _ _ _) (c (DV _ _ _ _) (c (DV _ _ _ _) (c (DV _ _ _ _) (c (DV _ _ _ _) (c (Ik _ _ _) (c r2 (c r4 (c r6 (EK.nil _ _)))))))))))))
theorem VsO.settle {st st':St}:∀{l:List Vl} {cs:List TV} {fp:List Nat},VsO st' l cs fp->(∀x,x∈fp->st.nb<=x)->∃cs',VsR St.zero l cs'/\EK st st' cs cs'
 | [],cs,fp,h,hb=>by
  unfold VsO at h
  obtain⟨rfl,rfl⟩:=h
  exact⟨[],by unfold VsR;rfl,EK.nil _ _⟩
 | v::r,cs,fp,h,hb=>by
  unfold VsO at h
  obtain⟨a,b,p,q,rfl,rfl,h1,h2⟩:=h
  obtain⟨a',q1,q2⟩:=VlO.settle h1 fun x hx=>hb x (List.mem_append_left _ hx)
  obtain⟨b',q3,q4⟩:=VsO.settle h2 fun x hx=>hb x (List.mem_append_right _ hx)
  exact⟨a'++b',by unfold VsR;exact⟨a',b',rfl,q1,q3⟩,q2.app q4⟩
theorem FdO.settle {st st':St}:∀{d:Fd} {cs:List TV} {fp:List Nat},FdO st' d cs fp->(∀x,x∈fp->st.nb<=x)->∃cs',FdR St.zero d cs'/\EK st st' cs cs'
 | .mk key v,cs,fp,h,hb=>by
  unfold FdO at h
  obtain⟨c,rfl,h1⟩:=h
  obtain⟨a',q1,q2⟩:=VlO.settle h1 hb
  exact⟨.str key::a',by unfold FdR;exact⟨a',rfl,q1⟩,(EK.one (Ik _ _ _)).app q2⟩
theorem FsO.settle {st st':St}:∀{l:List Fd} {cs:List TV} {fp:List Nat},FsO st' l cs fp->(∀x,x∈fp->st.nb<=x)->∃cs',FsR St.zero l cs'/\EK st st' cs cs'
 | [],cs,fp,h,hb=>by
  unfold FsO at h
  obtain⟨rfl,rfl⟩:=h
  exact⟨[],by unfold FsR;rfl,EK.nil _ _⟩
 | d::r,cs,fp,h,hb=>by
  unfold FsO at h
  obtain⟨a,b,p,q,rfl,rfl,h1,h2⟩:=h
  obtain⟨a',q1,q2⟩:=FdO.settle h1 fun x hx=>hb x (List.mem_append_left _ hx)
  obtain⟨b',q3,q4⟩:=FsO.settle h2 fun x hx=>hb x (List.mem_append_right _ hx)
  exact⟨a'++b',by unfold FsR;exact⟨a',b',rfl,q1,q3⟩,q2.app q4⟩
end
theorem PF {st st':St} {cs cs':List TV} (h:EK st st' cs cs'):FN st st' (.agg cs) (.agg cs'):=fun g' w' u s hr=>by
 cases hr with
 | agg _ vs hl hr=>
  have:=h.2 g' w' s vs ⟨hl,hr⟩
  exact .agg cs' vs this.1 this.2
theorem Jl {v:Vl} (hN:v.sz<=2000000) (hC:v.cnt<=65536) {st:St} {cs:List TV} {K:Int->Bool->Bool->B8->Int->Int->Int->Int->Int->B8->TV->TV->TV->St->Prop} (h:VlR st v cs)
  (hk:∀ub ul uf st',VlR St.zero v (AA v.sc ub ul uf)->Aq ub=true->Aq ul=true->Aq uf=true->Ah st st'->st'.nb=st.nb->K v.sc.kind v.sc.b v.sc.neg v.sc.dg v.sc.ex v.sc.tk v.sc.td v.sc.tn v.sc.tz v.sc.text ub ul uf st'):
  CallT PR Dj [.agg cs] [.agg [.int .i64,.bool,.bool,.str,.int .i64,.int .i64,.int .i64,.int .i64,.int .i64,.str,.tv,.tv,.tv]] st K:=by
 refine CallT.settle (copy_ok hN hC h fun ub ul uf st' fp g o1 o2 o3 nd lo e=>?_)
 obtain⟨cs',q1,q2⟩:=g.settle lo
 refine⟨e,.agg cs',PF q2,?_⟩
 obtain⟨s,l,f⟩:=v
 have q0:=q1
 obtain⟨ub',ul',uf',xl,xf,rfl,w1,w2,_,w4,_⟩:=VlR.cells q0
 exact hk ub' ul' uf' (st'.upto st) q1 w1.one w2.one w4.one (R7 e) rfl
end
end Go.TVF
section
namespace Go.TVF
open Go.IntKind(i64 u8)
open Go Go.Proofs Go.ChangeShapes
section
variable {H:Type} {enc:TypeId×Value->H} {P:Program} {w:World} {base:Nat} {held:Bool}
def Op (enc:TypeId×Value->H) (P:Program) (w:World) (base:Nat) (held:Bool) (n c:Nat) (S:List TV->Prop) (e:TypeId):Prop:=
 P.cellsOf e=c/\∀vs x,DataW.trod enc P w base (fun _=>true) held n e vs=some x->∃tv,AE (Ghost.start w) w tv vs/\tv.length=c/\S tv
end
end Go.TVF
end
section
namespace Go.TVF
open Go.IntKind(i64 u8)
open Go Go.Proofs Go.ChangeShapes
structure Blk {H:Type} (bk:DataW H->Nat):Prop where
 one:∀d,1<=bk d
 str:∀b,b.length+1<=bk (.lit (.string b))
 sl:∀e s,(e.map bk).sum+1<=bk (.slice e s)
 agg:∀p,(p.map bk).sum+1<=bk (.agg p)
section
variable {H:Type} {enc:TypeId×Value->H} {P:Program} {w:World} {base:Nat} {held:Bool} {bk:DataW H->Nat}
def OpQ (bk:DataW H->Nat) (enc:TypeId×Value->H) (P:Program) (w:World) (base:Nat) (held:Bool) (n c:Nat) (S:Nat->List TV->Prop) (e:TypeId):Prop:=
 P.cellsOf e=c/\∀vs x,DataW.trod enc P w base (fun _=>true) held n e vs=some x->∃tv,AE (Ghost.start w) w tv vs/\tv.length=c/\S (bk x.1) tv
def cellQ (c:CTy) (k:Nat) (tv:List TV):Prop:=Lp [c] tv/\1<=k
def strQ (k:Nat) (tv:List TV):Prop:=∃l:B8,tv=[.str l]/\l.length<=maxLen/\l.length+1<=k
theorem opq_cell {n:Nat} {c:CTy} {e:TypeId} (hb:Blk bk) (h:TF P c e) (hc:P.cellsOf e=1):OpQ bk enc P w base held n 1 (cellQ c) e:=⟨hc,fun vs x hd=>by
 obtain⟨v,u,rfl,hr,hf⟩:=RC (Ghost.start w) h hd
 exact⟨[v],.cons hr (.nil _ _),rfl,hf,hb.one _⟩⟩
theorem opq_str {n:Nat} {e:TypeId} (hb:Blk bk) (h:P.underlying e=some .string) (hc:P.cellsOf e=1):OpQ bk enc P w base held n 1 strQ e:=⟨hc,fun vs x hd=>by
 obtain⟨s,rfl,rfl,hs⟩:=DataW.trod_string h hd
 exact⟨[_],.cons (KY (Ghost.start w) w s) (.nil _ _),rfl,_,rfl,by rw[Array.length_toList];exact hs,hb.str _⟩⟩
def SlQ (c:Nat) (S:Nat->List TV->Prop) (k:Nat) (v:TV):Prop:=
 v= .nilSlice∨∃ps:List (List TV×Nat),v= .list c .non ps.length (ps.map (·.1)).flatten/\(∀p,p∈ps->p.1.length=c/\S p.2 p.1)/\(ps.map (·.2)).sum+1<=k
theorem opq_slice {n c:Nat} {S:Nat->List TV->Prop} {t e:TypeId} (hb:Blk bk) (ht:P.underlying t=some (.slice e)) (ht1:P.cellsOf t=1) (hc1:1<=c) (hE:∀m,m<n->OpQ bk enc P w base held m c S e):
  OpQ bk enc P w base held n 1 (fun k tv=>∃v,tv=[v]/\SlQ c S k v) t:=by
 refine⟨ht1,fun vs x h=>?_⟩
 rcases DataW.trod_slice ht h with⟨rfl,_⟩ | ⟨a,len,cap,elems,rest,m,rfl,rfl,rfl,hbk,hl,hm,hel,hi,hsp,_⟩
 ·exact⟨[.nilSlice],.cons .nilSlice (.nil _ _),rfl,_,rfl,.inl rfl⟩
 ·obtain⟨hcE,hE⟩:=hE m (by omega)
  rw[hcE]at hi hsp
  have hbs:=hb.sl (elems.map (·.1)) (rest.map (·.1))
  rw[List.map_map]at hbs
  by_cases hcap:cap=0
  ·subst hcap
   obtain rfl:len=0:=by omega
   exact⟨[.list c .non 0 []],.cons (.listE _ _ _ (fun id h=>by cases h)) (.nil _ _),rfl,_,rfl,.inr ⟨[],rfl,(fun ck h=>by cases h),by simp only[List.map_nil,List.sum_nil];omega⟩⟩
  ·obtain⟨b,o,spot⟩:=a
   have hspot:spot=none:=by
    have key:∀(i:Nat) (l:List (DataW H×List MemPlace)) (k:Nat),k<l.length->i=0->(w.cells? base ((⟨b,o,spot⟩:Addr).add (i*c)) c).bind (DataW.trod enc P w base (fun _=>true) held m e)=l[k]?->spot=none:=by
     intro i l k hk hi0 h
     subst hi0
     rw[List.getElem?_eq_getElem hk]at h
     obtain⟨vs,h1,_⟩:=Option.bind_eq_some_iff.1 h
     obtain⟨_,hvl,hvc⟩:=World.cells?_some h1
     have:=World.cell?_spot ((hvc 0 (by omega)).trans (List.getElem?_eq_getElem (show 0<vs.length by omega)))
     rw[Nat.zero_mul]at this
     exact this
    by_cases h0:0<len
    ·exact key 0 elems 0 (by omega) rfl (hi 0 h0)
    ·obtain⟨hr,hs⟩:=hsp rfl
     exact key _ rest 0 (by omega) (by omega) (hs 0 (by omega))
   subst hspot
   have each:∀i (hil:i<len),∃tv vs,AE (Ghost.start w) w tv vs/\tv.length=c/\S (bk (elems[i]'(by omega)).1) tv/\vs.length=c/\∀j,j<c->w.cell? ⟨b,o+(i*c+j),none⟩=some (vs.getD j Go.undef):=by
    intro i hil
    have h:=hi i hil
    rw[List.getElem?_eq_getElem (by omega)]at h
    obtain⟨vs,h1,h2⟩:=Option.bind_eq_some_iff.1 h
    obtain⟨tv,hr,htl,hf⟩:=hE vs _ h2
    obtain⟨_,hvl,hvc⟩:=World.cells?_some h1
    refine⟨tv,vs,hr,htl,hf,hvl,fun j hj=>?_⟩
    have:=hvc j (by omega)
    rw[Deep.add_add,Qv]at this
    rw[this]
    simp[List.getD,show j<vs.length by omega]
   have build:∀k,k<=len->∃ps:List (List TV×Nat),ps.length=k/\(∀p,p∈ps->p.1.length=c/\S p.2 p.1)/\ps.map (·.2)=(elems.take k).map (fun y=>bk y.1)/\(ps.map (·.1)).flatten.length=k*c/\∀i (h:i<(ps.map (·.1)).flatten.length),∃u,w.cell? ⟨b,o+i,none⟩=some u/\Rel (Ghost.start w) w (ps.map (·.1)).flatten[i] u:=by
    intro k
    induction k with
    | zero=>intro _;exact⟨[],rfl,(fun ck h=>by cases h),by simp,by simp,fun i h=>absurd h (Nat.not_lt_zero _)⟩
    | succ k ih=>
     intro hk
     obtain⟨ps,h0,h1,hm1,h2,h3⟩:=ih (by omega)
     obtain⟨tv,vs,hr,htl,hf,hvl,hvc⟩:=each k (by omega)
     have hfl:((ps++[(tv,bk (elems[k]'(by omega)).1)]).map (·.1)).flatten=(ps.map (·.1)).flatten++tv:=by simp
     refine⟨ps++[(tv,bk (elems[k]'(by omega)).1)],by simp[h0],fun p h=>?_,?_,by rw[hfl,List.length_append,h2,htl,Nat.succ_mul],fun i h=>?_⟩
     ·rcases List.mem_append.1 h with h | h
      ·exact h1 p h
      ·rw[List.mem_singleton.1 h];exact⟨htl,hf⟩
     ·rw[List.map_append,hm1,List.take_succ_eq_append_getElem (by omega),List.map_append];rfl
     ·simp only[hfl]at h⊢
      by_cases hix:i<(ps.map (·.1)).flatten.length
      ·rw[List.getElem_append_left hix];exact h3 i hix
      ·rw[List.getElem_append_right (by omega)]
       rw[List.length_append]at h
       have hj:i-(ps.map (·.1)).flatten.length<tv.length:=by omega
       refine⟨vs.getD (i-(ps.map (·.1)).flatten.length) Go.undef,?_,hr.2 _ hj⟩
       have:=hvc (i-(ps.map (·.1)).flatten.length) (by omega)
       rw[show o+i=o+(k*c+(i-(ps.map (·.1)).flatten.length)) by rw[<-h2];omega]
       exact this
   obtain⟨ps,h0,h1,hm1,h2,h3⟩:=build len (Nat.le_refl _)
   refine⟨[.list c .non ps.length (ps.map (·.1)).flatten],.cons ?_ (.nil _ _),rfl,_,rfl,.inr ⟨ps,rfl,h1,?_⟩⟩
   ·have hu:∀i,∃u,(h:i<(ps.map (·.1)).flatten.length)->w.cell? ⟨b,o+i,none⟩=some u/\Rel (Ghost.start w) w (ps.map (·.1)).flatten[i] u:=fun i=>by
     by_cases h:i<(ps.map (·.1)).flatten.length
     ·obtain⟨u,hu⟩:=h3 i h
      exact⟨u,fun _=>hu⟩
     ·exact⟨Go.undef,fun h'=>absurd h' h⟩
    rw[h0]
    refine .list _ _ _ _ b o cap (fun i=>Classical.choose (hu i)) h2 hl (fun i hi=>?_) (fun i hi=>(Classical.choose_spec (hu i) hi).2) trivial
    have:=(Classical.choose_spec (hu i) hi).1
    exact⟨⟨rfl,_,this⟩,this⟩
   ·rw[hm1,List.take_of_length_le (by omega)]
    exact hbs
def N1 (bk:DataW H->Nat) (enc:TypeId×Value->H) (P:Program) (w:World) (base:Nat) (held:Bool) (n:Nat):List (Nat×(Nat->List TV->Prop))->List Field->Nat->Prop
 | [],[],_=>True
 | S::Ss,f::fs,o=>f.offset=o/\OpQ bk enc P w base held n S.1 S.2 f.type/\N1 bk enc P w base held n Ss fs (o+S.1)
 | _,_,_=>False
def Rg:List (Nat×(Nat->List TV->Prop))->Nat->List TV->Prop
 | [],_,xs=>xs=[]
 | S::Ss,k,xs=>∃a b k1 k2,xs=a++b/\a.length=S.1/\S.2 k1 a/\Rg Ss k2 b/\k1+k2<=k
def Oe:List (Nat×(Nat->List TV->Prop))->Nat
 | []=>0
 | S::Ss=>S.1+Oe Ss
theorem K5 {n:Nat} {vs:List Value}:∀(Ss:List (Nat×(Nat->List TV->Prop))) (fs:List Field) (o:Nat) (xs:List (DataW H×List MemPlace)),N1 bk enc P w base held n Ss fs o->xs.length=fs.length->vs.length=o+Oe Ss->
  (∀(i:Nat) (f:Field),fs[i]? =some f->DataW.trod enc P w base (fun _=>true) held n f.type ((vs.drop f.offset).take (P.cellsOf f.type))=xs[i]?)->∃tv,AE (Ghost.start w) w tv (vs.drop o)/\tv.length=Oe Ss/\Rg Ss (xs.map (fun y=>bk y.1)).sum tv
 | [],[],o,xs,_,_,hl,_=>⟨[],by rw[List.drop_of_length_le (by simp[Oe]at hl;omega)];exact .nil _ _,rfl,rfl⟩
 | S::Ss,f::fs,o,[],_,hx,_,_=>by simp at hx
 | S::Ss,f::fs,o,x::xs,ht,hx,hl,hd=>by
  obtain⟨h1,⟨h2,h3⟩,h4⟩:=ht
  have hd0:=hd 0 f rfl
  rw[h1,h2]at hd0
  obtain⟨tv0,hr,htl,hf⟩:=h3 _ _ hd0
  obtain⟨tv,hr',hl',hf'⟩:=K5 (n:=n) (vs:=vs) Ss fs (o+S.1) xs h4 (by simpa using hx) (by simp only[Oe]at hl;omega) (fun i f' hi=>by simpa using hd (i+1) f' (by simpa using hi))
  refine⟨tv0++tv,?_,by simp[hl',htl,Oe],tv0,tv,_,_,rfl,htl,hf,hf',by simp only[List.map_cons,List.sum_cons];exact Nat.le_refl _⟩
  have hlt:o+S.1<=vs.length:=by simp only[Oe]at hl;omega
  have e:vs.drop o=(vs.drop o).take S.1++vs.drop (o+S.1):=by rw[<-List.drop_drop,List.take_append_drop]
  rw[e]
  exact AE.append hr hr'
 | [],f::fs,o,xs,ht,_,_,_=>ht.elim
 | S::Ss,[],o,xs,ht,_,_,_=>ht.elim
theorem opq_struct {n c:Nat} {Ss:List (Nat×(Nat->List TV->Prop))} {e:TypeId} {fs:Array Field} (hb:Blk bk) (ht:P.underlying e=some (.struct fs)) (hc:P.cellsOf e=c) (hl:Oe Ss=c) (hf:∀m,m<n->N1 bk enc P w base held m Ss fs.toList 0):
  OpQ bk enc P w base held n c (fun k tv=>∃k',k'+1<=k/\Rg Ss k' tv) e:=⟨hc,fun vs x hd=>by
 obtain⟨xs,m,rfl,rfl,hvl,hx,hi⟩:=DataW.trod_struct ht hd
 obtain⟨tv,h1,h2,h3⟩:=K5 (bk:=bk) (enc:=enc) (P:=P) (w:=w) (base:=base) (held:=held) (n:=m) (vs:=vs) Ss fs.toList 0 xs (hf m (by omega)) (by simpa using hx) (by omega) (fun i f h=>hi i f (by simpa using h))
 refine⟨tv,by simpa using h1,by omega,_,?_,h3⟩
 have:=hb.agg (xs.map (·.1))
 rw[List.map_map]at this
 exact this⟩
end
end Go.TVF
end
namespace Go.TVF
open Go.IntKind(i64 u8)
open Go Go.Proofs
section
abbrev decQs:List (Nat×(Nat->List TV->Prop)):=[(1,cellQ .bool),(1,strQ),(1,cellQ (.int .i64))]
abbrev timeQs:List (Nat×(Nat->List TV->Prop)):=[(1,cellQ (.int .i64)),(1,cellQ (.int .i64)),(1,cellQ (.int .i64)),(1,cellQ (.int .i64))]
def valQ (k:Nat) (tv:List TV):Prop:=∃v:Vl,VlR St.zero v tv/\v.sz<=k
def fldQ (k:Nat) (tv:List TV):Prop:=∃d:Fd,FdR St.zero d tv/\d.sz<=k
abbrev PE (c:Nat) (S:Nat->List TV->Prop) (k:Nat) (tv:List TV):Prop:=∃v,tv=[v]/\SlQ c S k v
abbrev inQ (Ss:List (Nat×(Nat->List TV->Prop))) (k:Nat) (tv:List TV):Prop:=∃k',k'+1<=k/\Rg Ss k' tv
abbrev valQs:List (Nat×(Nat->List TV->Prop)):=[(1,cellQ (.int .i64)),(1,cellQ .bool),(3,inQ decQs),(4,inQ timeQs),(1,strQ),(1,PE 1 (cellQ (.int .u8))),(1,PE 13 valQ),(1,PE 14 fldQ)]
abbrev fldQs:List (Nat×(Nat->List TV->Prop)):=[(1,strQ),(13,valQ)]
theorem SlQ.bytes {k:Nat} {v:TV} (h:SlQ 1 (cellQ (.int .u8)) k v):∃l:B8,SlR St.zero 1 v l.length (AM l)/\l.length<=k:=by
 rcases h with rfl | ⟨ps,rfl,h,hk⟩
 ·exact⟨[],.inl (.inl ⟨rfl,rfl,rfl⟩),Nat.zero_le _⟩
 ·have:∃l:B8,l.length=ps.length/\(ps.map (·.1)).flatten=AM l/\l.length<=(ps.map (·.2)).sum:=by
   clear hk
   induction ps with
   | nil=>exact⟨[],rfl,rfl,Nat.zero_le _⟩
   | cons p r ih=>
    obtain⟨l,h1,h2,h3⟩:=ih (fun q hq=>h q (.tail _ hq))
    obtain⟨hl,⟨n,ys,hp,hw,rfl⟩,h1k⟩:=h p (.head _)
    have hn:0<=n/\n<=255:=by simpa [Lit.wf,IntKind.min,IntKind.max,IntKind.signed,IntKind.bits]using hw
    refine⟨n.toNat.toUInt8::l,by simp[h1],?_,by simp only[List.length_cons,List.map_cons,List.sum_cons];omega⟩
    rw[List.map_cons,List.flatten_cons,hp,h2]
    simp only[AM,List.map_cons,Jn,List.cons_append,List.nil_append,List.cons.injEq,and_true,TV.int.injEq,true_and]
    have:=QG n.toNat (by omega)
    omega
  obtain⟨l,h1,h2,h3⟩:=this
  exact⟨l,.inl (.inr ⟨.non,by rw[h1,h2]⟩),by omega⟩
theorem SlQ.vals {k:Nat} {v:TV} (h:SlQ 13 valQ k v):∃l xl,SlR St.zero 13 v l.length xl/\VsR St.zero l xl/\Bw l<=k:=by
 rcases h with rfl | ⟨ps,rfl,h,hk⟩
 ·exact⟨[],[],.inl (.inl ⟨rfl,rfl,rfl⟩),by unfold VsR;rfl,by unfold Bw;exact Nat.zero_le _⟩
 ·have:∃l:List Vl,l.length=ps.length/\VsR St.zero l (ps.map (·.1)).flatten/\Bw l<=(ps.map (·.2)).sum:=by
   clear hk
   induction ps with
   | nil=>exact⟨[],rfl,by unfold VsR;rfl,by unfold Bw;exact Nat.zero_le _⟩
   | cons p r ih=>
    obtain⟨l,h1,h2,h3⟩:=ih (fun q hq=>h q (.tail _ hq))
    obtain⟨hl,v,hv,hz⟩:=h p (.head _)
    exact⟨v::l,by simp[h1],by unfold VsR;exact⟨_,_,by simp,hv,h2⟩,by unfold Bw;simp only[List.map_cons,List.sum_cons];omega⟩
  obtain⟨l,h1,h2,h3⟩:=this
  exact⟨l,_,.inl (.inr ⟨.non,by rw[h1]⟩),h2,by omega⟩
theorem SlQ.flds {k:Nat} {v:TV} (h:SlQ 14 fldQ k v):∃l xl,SlR St.zero 14 v l.length xl/\FsR St.zero l xl/\Bu l<=k:=by
 rcases h with rfl | ⟨ps,rfl,h,hk⟩
 ·exact⟨[],[],.inl (.inl ⟨rfl,rfl,rfl⟩),by unfold FsR;rfl,by unfold Bu;exact Nat.zero_le _⟩
 ·have:∃l:List Fd,l.length=ps.length/\FsR St.zero l (ps.map (·.1)).flatten/\Bu l<=(ps.map (·.2)).sum:=by
   clear hk
   induction ps with
   | nil=>exact⟨[],rfl,by unfold FsR;rfl,by unfold Bu;exact Nat.zero_le _⟩
   | cons p r ih=>
    obtain⟨l,h1,h2,h3⟩:=ih (fun q hq=>h q (.tail _ hq))
    obtain⟨hl,v,hv,hz⟩:=h p (.head _)
    exact⟨v::l,by simp[h1],by unfold FsR;exact⟨_,_,by simp,hv,h2⟩,by unfold Bu;simp only[List.map_cons,List.sum_cons];omega⟩
  obtain⟨l,h1,h2,h3⟩:=this
  exact⟨l,_,.inl (.inr ⟨.non,by rw[h1]⟩),h2,by omega⟩
theorem EN {kd:IntKind} {k:Nat} {tv:List TV} (h:cellQ (.int kd) k tv):∃n,tv=[.int kd n]:=by
 obtain⟨⟨n,ys,rfl,_,rfl⟩,_⟩:=h;exact⟨n,rfl⟩
theorem LH {k:Nat} {tv:List TV} (h:cellQ .bool k tv):∃b,tv=[.bool b]:=by
 obtain⟨⟨n,ys,rfl,rfl⟩,_⟩:=h;exact⟨n,rfl⟩
theorem each_field {k:Nat} {tv:List TV} (h:inQ fldQs k tv):fldQ k tv:=by
 obtain⟨k0,hk0,_,_,k1,k2,rfl,_,⟨key,rfl,_,hkey⟩,⟨_,_,k3,k4,rfl,_,⟨v,hv,hz⟩,rfl,h2⟩,h1⟩:=h
 refine⟨.mk key v,by unfold FdR;exact⟨_,by simp,hv⟩,by unfold Fd.sz;omega⟩
theorem each_value {k:Nat} {tv:List TV} (h:inQ valQs k tv):valQ k tv:=by
 obtain⟨k0,hk0,_,_,a1,r1,rfl,_,q1,⟨_,_,a2,r2,rfl,_,q2,⟨_,_,a3,r3,rfl,_,q3,⟨_,_,a4,r4,rfl,_,q4,⟨_,_,a5,r5,rfl,_,q5,⟨_,_,a6,r6,rfl,_,q6,⟨_,_,a7,r7,rfl,_,q7,⟨_,_,a8,r8,rfl,_,q8,rfl,h8⟩,h7⟩,h6⟩,h5⟩,h4⟩,h3⟩,h2⟩,h1⟩:=h
 obtain⟨kd,rfl⟩:=EN q1
 obtain⟨bo,rfl⟩:=LH q2
 obtain⟨d0,hd0,_,_,d1,d2,rfl,_,p1,⟨_,_,d3,d4,rfl,_,⟨dg,rfl,_,hdg⟩,⟨_,_,d5,d6,rfl,_,p3,rfl,g3⟩,g2⟩,g1⟩:=q3
 obtain⟨ng,rfl⟩:=LH p1
 obtain⟨ex,rfl⟩:=EN p3
 obtain⟨_,_,_,_,_,_,rfl,_,t1,⟨_,_,_,_,rfl,_,t2,⟨_,_,_,_,rfl,_,t3,⟨_,_,_,_,rfl,_,t4,rfl,_⟩,_⟩,_⟩,_⟩:=q4
 obtain⟨tk,rfl⟩:=EN t1
 obtain⟨td,rfl⟩:=EN t2
 obtain⟨tn,rfl⟩:=EN t3
 obtain⟨tz,rfl⟩:=EN t4
 obtain⟨tx,rfl,_,htx⟩:=q5
 obtain⟨ub,rfl,q6⟩:=q6
 obtain⟨ul,rfl,q7⟩:=q7
 obtain⟨uf,rfl,q8⟩:=q8
 obtain⟨bs,hb,hbl⟩:=q6.bytes
 obtain⟨l,xl,hl,hlv,hlz⟩:=q7.vals
 obtain⟨f,xf,hf,hfv,hfz⟩:=q8.flds
 refine⟨.mk ⟨kd,bo,ng,dg,ex,tk,td,tn,tz,tx,bs⟩ l f,?_,by rw[szs];simp only;omega⟩
 unfold VlR
 exact⟨ub,ul,uf,xl,xf,by simp,hb,hl,hlv,hf,hfv⟩
section
variable {H:Type} {enc:TypeId×Value->H} {P:Program} {w:World} {base b0:Nat} {held:Bool} {bk:DataW H->Nat}
end
end
section
def IsValU (t:TV):Prop:=∃v cs,t= .agg cs/\VlR St.zero v cs
section
variable {H:Type} {enc:TypeId×Value->H} {P:Program} {w:World} {base b0:Nat} {held:Bool} {bk:DataW H->Nat}
theorem open_valU {t:TypeId} {fs:Array Field} {v:Value} {d:DataW H} {p:List MemPlace} (ht:P.underlying t=some (.struct fs)) (hop:∀n,OpQ bk enc P w base held n 13 valQ t)
  (hval:Value.okWide P w .any b0 t v) (h:DataW.Trod enc P w base (fun _=>true) held t v d p):∃tv,Rel (Ghost.start w) w tv v/\IsValU tv:=by
 simp only[Value.okWide,ht]at hval
 obtain⟨vs,rfl,_,_⟩:=hval
 obtain⟨n,hn⟩:=h
 obtain⟨cs,hr,_,vl,hv,hz⟩:=(hop n).2 _ _ hn
 have:=Rel.agg cs vs.toList hr.1 hr.2
 rw[Array.toArray_toList]at this
 exact⟨_,this,vl,cs,rfl,hv⟩
end
end
section
theorem SlR.zero {sz n:Nat} {v:TV} {xs:List TV} (h:SlR St.zero sz v n xs):Rd sz v n xs:=by
 rcases h with h | ⟨b,_,_,_,_,hb,_⟩
 ·exact h
 ·exact absurd hb (Nat.not_lt_zero _)
theorem Rd.isP {sz n i:Nat} {u:TV} {xs:List TV} (h:Rd sz u n xs) (hi:i<n):isPtr (ixT sz u i)=true:=(SlR.of_rd (st:=St.zero) h).isPtr hi
abbrev StepV:=Bool×B8×Int
section
variable {st:St}
end
section
variable {st:St}
end
end
end Go.TVF
section
namespace Go.TVF
open Go.IntKind(i64 u8)
mutual
inductive Tb where
 | mk (b m:Nat) (hd:Bool) (es:List Kn)
inductive Kn where
 | mk (k:B8) (eb:Nat) (e:En)
inductive En where
 | opn (t:Tb)
 | lst (l:List Tb)
 | clo (v:Vl) (i:Nat)
end
def Tb.b:Tb->Nat | .mk b _ _ _=>b
def Tb.m:Tb->Nat | .mk _ m _ _=>m
def Tb.hd:Tb->Bool | .mk _ _ h _=>h
def Tb.es:Tb->List Kn | .mk _ _ _ es=>es
def Kn.key:Kn->B8 | .mk k _ _=>k
def Kn.eb:Kn->Nat | .mk _ e _=>e
def Kn.en:Kn->En | .mk _ _ e=>e
def scM:Sc:=⟨7,false,false,[],0,0,0,0,0,[],[]⟩
def scL:Sc:=⟨6,false,false,[],0,0,0,0,0,[],[]⟩
mutual
def Af:Tb->Vl
 | .mk _ _ _ es=> .mk scM [] (AO es)
def AO:List Kn->List Fd
 | []=>[]
 | .mk k _ e::r=> .mk k (AQ e)::AO r
def AQ:En->Vl
 | .opn t=>Af t
 | .lst l=> .mk scL (Br l) []
 | .clo v _=>v
def Br:List Tb->List Vl
 | []=>[]
 | t::r=>Af t::Br r
end
theorem Jw:∀a b:List Kn,AO (a++b)=AO a++AO b
 | [],b=>by simp[AO]
 | .mk k e x::r,b=>by simp only[List.cons_append,AO,Jw r b]
theorem CZ:∀l:List Tb,Br l=l.map Af
 | []=>rfl
 | t::r=>by rw[Br,List.map_cons,CZ r]
theorem Hy:∀l:List Kn,AO l=l.map fun d=>Fd.mk d.key (AQ d.en)
 | []=>rfl
 | .mk k e x::r=>by rw[AO,List.map_cons,Hy r];rfl
def Am (k:B8):List Kn->Option (Nat×En)
 | []=>none
 | .mk k' eb e::r=>if k=k' then some (eb,e)else Am k r
def Cc (k:B8) (x:En):List Kn->List Kn
 | []=>[]
 | .mk k' eb e::r=>if k=k' then .mk k' eb x::r else .mk k' eb e::Cc k x r
theorem HG {k:B8}:∀{es:List Kn} {eb:Nat} {e:En},Am k es=some (eb,e)->Kn.mk k eb e∈es
 | .mk k' eb' e'::r,eb,e,h=>by
  unfold Am at h
  split at h
  ·rename_i hk;cases h;subst hk;exact .head _
  ·exact .tail _ (HG h)
theorem Ir {k:B8}:∀{es:List Kn},Am k es=none->∀d,d∈es->d.key≠k
 | [],h,d,hd=>by cases hd
 | .mk k' eb' e'::r,h,d,hd=>by
  unfold Am at h
  split at h
  ·cases h
  ·rename_i hk
   rcases List.mem_cons.1 hd with rfl | hd
   ·exact fun h=>hk h.symm
   ·exact Ir h d hd
theorem Mq {k:B8} {x:En}:∀es:List Kn,(Cc k x es).map Kn.key=es.map Kn.key
 | []=>rfl
 | .mk k' eb e::r=>by
  unfold Cc
  split
  ·rfl
  ·rw[List.map_cons,List.map_cons,Mq r]
theorem F0 {k:B8} {x:En}:∀{es:List Kn} {eb:Nat} {e:En},Am k es=some (eb,e)->Am k (Cc k x es)=some (eb,x)
 | .mk k' eb' e'::r,eb,e,h=>by
  unfold Am at h
  unfold Cc
  split at h
  ·rename_i hk;cases h;subst hk;rw[if_pos rfl];simp[Am]
  ·rename_i hk;rw[if_neg hk,Am,if_neg hk];exact F0 h
theorem J8 {k k2:B8} {x:En} (hne:k2≠k):∀{es:List Kn},Am k2 (Cc k x es)=Am k2 es
 | []=>rfl
 | .mk k' eb' e'::r=>by
  unfold Cc
  split
  ·rename_i hk;subst hk;unfold Am;rw[if_neg hne,if_neg hne]
  ·unfold Am;split
   ·rfl
   ·exact J8 hne
theorem OM {k k2:B8} {eb:Nat} {x:En}:∀{es:List Kn},Am k2 (es++[.mk k eb x])=match Am k2 es with | some p=>some p | none=>if k2=k then some (eb,x)else none
 | []=>by simp[Am]
 | .mk k' eb' e'::r=>by
  rw[List.cons_append,Am,Am]
  split
  ·rfl
  ·exact OM
theorem set_set {k:B8} {x y:En}:∀es:List Kn,Cc k y (Cc k x es)=Cc k y es
 | []=>rfl
 | .mk k' eb e::r=>by
  by_cases hk:k=k'
  ·rw[Cc,if_pos hk,Cc,Cc,if_pos hk,if_pos hk]
  ·rw[Cc,if_neg hk,Cc,Cc,if_neg hk,if_neg hk,set_set r]
abbrev Hop:=B8×Option Nat
def atT:Tb->List Hop->Option Tb
 | t,[]=>some t
 | .mk _ _ _ es,(k,none)::h=>match Am k es with
  | some (_,.opn u)=>atT u h
  | _=>none
 | .mk _ _ _ es,(k,some i)::h=>match Am k es with
  | some (_,.lst l)=>match l[i]? with
   | some u=>atT u h
   | none=>none
  | _=>none
def AK:Tb->List Hop->Tb->Tb
 | _,[],x=>x
 | .mk b m hd es,(k,none)::h,x=>match Am k es with
  | some (_,.opn u)=> .mk b m hd (Cc k (.opn (AK u h x)) es)
  | _=> .mk b m hd es
 | .mk b m hd es,(k,some i)::h,x=>match Am k es with
  | some (_,.lst l)=>match l[i]? with
   | some u=> .mk b m hd (Cc k (.lst (l.set i (AK u h x))) es)
   | none=> .mk b m hd es
  | _=> .mk b m hd es
theorem HL:∀(h g:List Hop) (T:Tb),atT T (h++g)=(atT T h).bind fun t=>atT t g
 | [],g,T=>by cases T;rfl
 | (k,none)::h,g,.mk b m hd es=>by
  rw[List.cons_append,atT,atT]
  rcases Am k es with _ | ⟨eb,u | l | ⟨v,i⟩⟩
  ·rfl
  ·exact HL h g u
  ·rfl
  ·rfl
 | (k,some i)::h,g,.mk b m hd es=>by
  rw[List.cons_append,atT,atT]
  rcases Am k es with _ | ⟨eb,u | l | ⟨v,i⟩⟩
  ·rfl
  ·rfl
  ·simp only
   cases l[i]? with
   | none=>rfl
   | some u=>exact HL h g u
  ·rfl
theorem DM:∀(h:List Hop) {T t x:Tb},atT T h=some t->atT (AK T h x) h=some x
 | [],T,t,x,_=>by cases x;rfl
 | (k,none)::h,.mk b m hd es,t,x,hA=>by
  rw[atT]at hA
  rw[AK]
  rcases hl:Am k es with _ | ⟨eb,u | l | ⟨v,i⟩⟩<;>rw[hl]at hA<;>simp only at hA⊢<;>try (cases hA;done)
  ·rw[atT,F0 hl];exact DM h hA
 | (k,some i)::h,.mk b m hd es,t,x,hA=>by
  rw[atT]at hA
  rw[AK]
  rcases hl:Am k es with _ | ⟨eb,u | l | ⟨v,i⟩⟩<;>rw[hl]at hA<;>simp only at hA⊢<;>try (cases hA;done)
  ·cases hi:l[i]? with
   | none=>simp[hi]at hA
   | some u=>
    rw[hi]at hA
    have hlt:=(List.getElem?_eq_some_iff.1 hi).1
    simp only at hA⊢
    rw[atT,F0 hl]
    simp only
    rw[List.getElem?_set_self hlt]
    exact DM h hA
theorem Fi:∀(h:List Hop) {T t x:Tb},atT T h=some t->x.b=t.b->(AK T h x).b=T.b
 | [],T,t,x,hA,hx=>by cases T;cases hA;exact hx
 | (k,none)::h,.mk b m hd es,t,x,hA,hx=>by
  rw[AK]
  split<;>rfl
 | (k,some i)::h,.mk b m hd es,t,x,hA,hx=>by
  rw[AK]
  split
  ·split<;>rfl
  ·rfl
theorem Ks:∀(h g:List Hop) {T t x:Tb},atT T h=some t->AK T (h++g) x=AK T h (AK t g x)
 | [],g,T,t,x,hA=>by cases T;cases hA;rfl
 | (k,none)::h,g,.mk b m hd es,t,x,hA=>by
  rw[atT]at hA
  rw[List.cons_append,AK,AK]
  rcases hl:Am k es with _ | ⟨eb,u | l | ⟨v,i⟩⟩<;>rw[hl]at hA<;>simp only at hA⊢<;>try (cases hA;done)
  ·rw[Ks h g hA]
 | (k,some i)::h,g,.mk b m hd es,t,x,hA=>by
  rw[atT]at hA
  rw[List.cons_append,AK,AK]
  rcases hl:Am k es with _ | ⟨eb,u | l | ⟨v,i⟩⟩<;>rw[hl]at hA<;>simp only at hA⊢<;>try (cases hA;done)
  ·cases hi:l[i]? with
   | none=>simp[hi]at hA
   | some u=>rw[hi]at hA;simp only at hA⊢;rw[Ks h g hA]
theorem Jz:∀(h:List Hop) {T t x y:Tb},atT T h=some t->AK (AK T h x) h y=AK T h y
 | [],T,t,x,y,hA=>by cases x;cases T;rfl
 | (k,none)::h,.mk b m hd es,t,x,y,hA=>by
  rw[atT]at hA
  rw[AK,AK]
  rcases hl:Am k es with _ | ⟨eb,u | l | ⟨v,i⟩⟩<;>rw[hl]at hA<;>simp only at hA⊢<;>try (cases hA;done)
  ·rw[AK,F0 hl];simp only;rw[Jz h hA,set_set]
 | (k,some i)::h,.mk b m hd es,t,x,y,hA=>by
  rw[atT]at hA
  rw[AK,AK]
  rcases hl:Am k es with _ | ⟨eb,u | l | ⟨v,i⟩⟩<;>rw[hl]at hA<;>simp only at hA⊢<;>try (cases hA;done)
  ·cases hi:l[i]? with
   | none=>simp[hi]at hA
   | some u=>
    rw[hi]at hA
    have hlt:=(List.getElem?_eq_some_iff.1 hi).1
    simp only at hA⊢
    rw[AK,F0 hl]
    simp only
    rw[List.getElem?_set_self hlt]
    simp only
    rw[Jz h hA,set_set,List.set_set]
end Go.TVF
end
section
namespace Go.TVF
open Go.IntKind(i64 u8)
inductive Stp where
 | key (k:B8)
 | idx (i:Nat)
deriving DecidableEq
def scO:Sc:=⟨0,false,false,[],0,0,0,0,0,[],[]⟩
def vlO:Vl:= .mk scO [] []
end Go.TVF
end
section
namespace Go.TVF
open Go.IntKind(i64 u8)
def A8 (t:Tb) (k:B8) (eb:Nat) (e:En):Tb:= .mk t.b t.m t.hd (t.es++[.mk k eb e])
def Ds (t:Tb) (k:B8) (e:En):Tb:= .mk t.b t.m t.hd (Cc k e t.es)
theorem I9 {t:Tb} {k k2:B8} {eb:Nat} {e:En} (h:Am k t.es=none):Am k2 (A8 t k eb e).es=if k2=k then some (eb,e)else Am k2 t.es:=by
 show Am k2 (t.es++[.mk k eb e])=_
 rw[OM]
 by_cases hk:k2=k
 ·subst hk;simp[h]
 ·rw[if_neg hk,if_neg hk]
  cases Am k2 t.es<;>rfl
theorem SJ {t:Tb} {k k2:B8} {eb:Nat} {e x:En} (h:Am k t.es=some (eb,e)):Am k2 (Ds t k x).es=if k2=k then some (eb,x)else Am k2 t.es:=by
 show Am k2 (Cc k x t.es)=_
 by_cases hk:k2=k
 ·subst hk;rw[if_pos rfl,F0 h]
 ·rw[if_neg hk,J8 hk]
structure Asg where
 tab:Bool
 elem:Bool
 keys:List B8
 val:Vl
structure Nu where
 b:Nat
 m:Nat
 eb:Nat
def AN (nu:Nu) (hd:Bool):Tb:= .mk nu.b nu.m hd []
def FD (nu:Nu) (hd:Bool) (T:Tb) (h:List Hop) (k:B8):Option (Tb×List Hop):=
 match atT T h with
 | none=>none
 | some t=>match Am k t.es with
  | none=>some (AK T h (A8 t k nu.eb (.opn (AN nu false))),h++[(k,none)])
  | some (_,.opn _)=>some (T,h++[(k,none)])
  | some (_,.lst l)=>if hd=true then some (T,h++[(k,some (l.length-1))])else none
  | some (_,.clo _ _)=>none
def Ct (nu:Nat->Nu) (hd:Bool):Nat->Tb->List Hop->List B8->Option (Tb×List Hop)
 | _,T,h,[]=>some (T,h)
 | j,T,h,k::ks=>match FD (nu j) hd T h k with
  | none=>none
  | some (T',h')=>Ct nu hd (j+1) T' h' ks
def CQ:Tb->Tb | .mk b m _ es=> .mk b m true es
def Dx (nu:Nu) (a:Asg) (i:Nat) (T:Tb) (h cur:List Hop) (k:B8):Except Int (Tb×List Hop):=
 match atT T h with
 | none=> .error 0
 | some t=>
  if a.elem=true then(match Am k t.es with
   | none=> .ok (AK T h (A8 t k nu.eb (.lst [AN nu false])),h++[(k,some 0)])
   | some (_,.lst l)=> .ok (AK T h (Ds t k (.lst (l++[AN nu false]))),h++[(k,some l.length)])
   | some _=> .error 6)
  else if a.tab=true then(match Am k t.es with
   | none=> .ok (AK T h (A8 t k nu.eb (.opn (AN nu true))),h++[(k,none)])
   | some (_,.opn u)=>if u.hd=true then .error 8 else .ok (AK T h (Ds t k (.opn (CQ u))),h++[(k,none)])
   | some _=> .error 8)
  else(match Am k t.es with
   | none=> .ok (AK T h (A8 t k nu.eb (.clo a.val i)),cur)
   | some _=> .error 8)
deriving instance DecidableEq for Sc
def KD (v:Vl):Bool:=decide (v.sc=scO)&&v.list.isEmpty&&v.flds.isEmpty
def D4 (a:Asg):Bool:= !a.keys.isEmpty&&(a.tab || !a.elem)&&(!a.tab || KD a.val)
def D9 (nu:Nat->Nu) (i:Nat) (T:Tb) (cur:List Hop) (a:Asg):Except Int (Tb×List Hop):=
 if D4 a=false then .error 1
 else match Ct nu a.tab 0 T (if a.tab=true then []else cur) a.keys.dropLast with
  | none=> .error 8
  | some (T',h)=>Dx (nu a.keys.length) a i T' h cur (a.keys.getLastD [])
end Go.TVF
end
section
namespace Go.TVF
open Go.IntKind(i64 u8)
inductive ShE where
 | opn (b:Nat)
 | lst (bs:List Nat)
 | clo (v:Vl) (i:Nat)
structure Sh where
 b:Nat
 m:Nat
 hd:Bool
 d:Nat
 es:List (B8×Nat×ShE)
def shE:En->ShE
 | .opn t=> .opn t.b
 | .lst l=> .lst (l.map Tb.b)
 | .clo v i=> .clo v i
def shK (d:Kn):B8×Nat×ShE:=(d.key,d.eb,shE d.en)
mutual
def shT:Nat->Tb->List Sh
 | d,.mk b m hd es=>⟨b,m,hd,d,es.map shK⟩::BR d es
def BR:Nat->List Kn->List Sh
 | _,[]=>[]
 | d,.mk _ _ e::r=>A3 d e++BR d r
def A3:Nat->En->List Sh
 | d,.opn t=>shT (d+1) t
 | d,.lst l=>DC (d+2) l
 | _,.clo _ _=>[]
def DC:Nat->List Tb->List Sh
 | _,[]=>[]
 | d,t::r=>shT d t++DC d r
end
theorem Ot (d:Nat):∀a b:List Kn,BR d (a++b)=BR d a++BR d b
 | [],b=>by simp[BR]
 | .mk k eb e::r,b=>by simp only[List.cons_append,BR,Ot d r b,List.append_assoc]
theorem IT (d:Nat):∀a b:List Tb,DC d (a++b)=DC d a++DC d b
 | [],b=>by simp[DC]
 | t::r,b=>by simp only[List.cons_append,DC,IT d r b,List.append_assoc]
theorem FU (d:Nat) {k:B8}:∀{es:List Kn} {eb:Nat} {e:En},Am k es=some (eb,e)->∃P Q,BR d es=P++(A3 d e++Q)/\∀x,BR d (Cc k x es)=P++(A3 d x++Q)
 | .mk k' eb' e'::r,eb,e,h=>by
  unfold Am at h
  by_cases hk:k=k'
  ·rw[if_pos hk]at h
   cases h
   exact⟨[],BR d r,by rw[BR,List.nil_append],fun x=>by rw[Cc,if_pos hk,BR,List.nil_append]⟩
  ·rw[if_neg hk]at h
   obtain⟨P,Q,h1,h2⟩:=FU d h
   exact⟨A3 d e'++P,Q,by rw[BR,h1,List.append_assoc],fun x=>by rw[Cc,if_neg hk,BR,h2 x,List.append_assoc]⟩
theorem Nm {k:B8} {x:En}:∀{es:List Kn} {eb:Nat} {e:En},Am k es=some (eb,e)->shE x=shE e->(Cc k x es).map shK=es.map shK
 | .mk k' eb' e'::r,eb,e,h,hx=>by
  unfold Am at h
  by_cases hk:k=k'
  ·rw[if_pos hk]at h
   cases h
   rw[Cc,if_pos hk,List.map_cons,List.map_cons]
   show(k',eb',shE x)::_=(k',eb',shE e')::_
   rw[hx]
  ·rw[if_neg hk]at h
   rw[Cc,if_neg hk,List.map_cons,List.map_cons,Nm h hx]
theorem Oq (d:Nat):∀{l:List Tb} {i:Nat} {u:Tb},l[i]? =some u->∃P Q,DC d l=P++(shT d u++Q)/\∀x,DC d (l.set i x)=P++(shT d x++Q)
 | t::r,0,u,h=>by
  cases h
  exact⟨[],DC d r,by rw[DC,List.nil_append],fun x=>by rw[List.set_cons_zero,DC,List.nil_append]⟩
 | t::r,i+1,u,h=>by
  obtain⟨P,Q,h1,h2⟩:=Oq d (l:=r) (i:=i) (u:=u) (by simpa using h)
  exact⟨shT d t++P,Q,by rw[DC,h1,List.append_assoc],fun x=>by rw[List.set_cons_succ,DC,h2 x,List.append_assoc]⟩
def dpH:List Hop->Nat
 | []=>0
 | (_,none)::h=>dpH h+1
 | (_,some _)::h=>dpH h+2
theorem Jj:∀a b:List Hop,dpH (a++b)=dpH a+dpH b
 | [],b=>by simp[dpH]
 | (k,none)::a,b=>by rw[List.cons_append,dpH,dpH,Jj a b];omega
 | (k,some i)::a,b=>by rw[List.cons_append,dpH,dpH,Jj a b];omega
theorem box_set {l:List Tb} {i:Nat} {u x:Tb} (h:l[i]? =some u) (hx:x.b=u.b):(l.set i x).map Tb.b=l.map Tb.b:=by
 rw[List.map_set,hx]
 apply List.ext_getElem?
 intro j
 by_cases hj:i=j
 ·subst hj
  obtain⟨hlt,hu⟩:=List.getElem?_eq_some_iff.1 h
  rw[List.getElem?_set_self (by rw[List.length_map];exact hlt),List.getElem?_map,h];rfl
 ·rw[List.getElem?_set_ne hj]
theorem HR:∀(h:List Hop) {T t:Tb},atT T h=some t->∀d,∃A B,shT d T=A++(shT (d+dpH h) t++B)/\∀t',t'.b=t.b->shT d (AK T h t')=A++(shT (d+dpH h) t'++B)
 | [],T,t,hA,d=>by
  cases T;cases hA
  exact⟨[],[],by rw[List.nil_append,List.append_nil];rfl,fun t' _=>by rw[List.nil_append,List.append_nil];rfl⟩
 | (k,none)::h,.mk b m hd es,t,hA,d=>by
  rw[atT]at hA
  rcases hl:Am k es with _ | ⟨eb,u | l | ⟨v,i⟩⟩<;>rw[hl]at hA<;>simp only at hA<;>try (cases hA;done)
  obtain⟨A,B,h1,h2⟩:=HR h hA (d+1)
  obtain⟨P,Q,h3,h4⟩:=FU d hl
  have e:d+1+dpH h=d+dpH ((k,none)::h):=by rw[dpH];omega
  rw[e]at h1 h2
  refine⟨⟨b,m,hd,d,es.map shK⟩::(P++A),B++Q,?_,fun t' ht=>?_⟩
  ·rw[shT,h3,A3,h1]
   simp only[List.cons_append,List.append_assoc]
  ·rw[AK,hl]
   simp only
   rw[shT,h4,A3,h2 t' ht,Nm hl (by show ShE.opn _=ShE.opn _;rw[Fi h hA ht])]
   simp only[List.cons_append,List.append_assoc]
 | (k,some j)::h,.mk b m hd es,t,hA,d=>by
  rw[atT]at hA
  rcases hl:Am k es with _ | ⟨eb,u | l | ⟨v,i⟩⟩<;>rw[hl]at hA<;>simp only at hA<;>try (cases hA;done)
  cases hj:l[j]? with
  | none=>simp[hj]at hA
  | some u=>
  rw[hj]at hA
  simp only at hA
  obtain⟨A,B,h1,h2⟩:=HR h hA (d+2)
  obtain⟨P,Q,h3,h4⟩:=FU d hl
  obtain⟨P2,Q2,h5,h6⟩:=Oq (d+2) hj
  have e:d+2+dpH h=d+dpH ((k,some j)::h):=by rw[dpH];omega
  rw[e]at h1 h2
  refine⟨⟨b,m,hd,d,es.map shK⟩::(P++(P2++A)),B++(Q2++Q),?_,fun t' ht=>?_⟩
  ·rw[shT,h3,A3,h5,h1]
   simp only[List.cons_append,List.append_assoc]
  ·rw[AK,hl]
   simp only[hj]
   rw[shT,h4,A3,h6,h2 t' ht,Nm hl (by show ShE.lst _=ShE.lst _;rw[box_set hj (Fi h hA ht)])]
   simp only[List.cons_append,List.append_assoc]
theorem Nl (d:Nat) (t:Tb) (k:B8) (eb:Nat) (e:En):shT d (A8 t k eb e)=⟨t.b,t.m,t.hd,d,t.es.map shK++[(k,eb,shE e)]⟩::(BR d t.es++A3 d e):=by
 unfold A8
 rw[shT,List.map_append,Ot,BR,BR,List.append_nil]
 rfl
theorem Es (d:Nat) (t:Tb):shT d t=⟨t.b,t.m,t.hd,d,t.es.map shK⟩::BR d t.es:=by cases t;rfl
def Eb (k:B8):List (B8×Nat×ShE)->Option (Nat×ShE)
 | []=>none
 | (k',p)::r=>if k=k' then some p else Eb k r
theorem F8 (k:B8):∀es:List Kn,Eb k (es.map shK)=(Am k es).map fun p=>(p.1,shE p.2)
 | []=>rfl
 | .mk k' eb e::r=>by
  rw[List.map_cons,Am]
  show(if k=k' then some (eb,shE e)else Eb k (r.map shK))=_
  by_cases hk:k=k'
  ·rw[if_pos hk,if_pos hk];rfl
  ·rw[if_neg hk,if_neg hk,F8 k r]
theorem MA {k k2:B8} {p:Nat×ShE}:∀{es:List (B8×Nat×ShE)},Eb k2 (es++[(k,p)])=match Eb k2 es with | some q=>some q | none=>if k2=k then some p else none
 | []=>by simp[Eb]
 | (k',q)::r=>by
  rw[List.cons_append,Eb,Eb]
  split
  ·rfl
  ·exact MA
def bxS (s:Sh):List Nat:=s.b::s.m::s.es.map fun x=>x.2.1
def bxL (L:List Sh):List Nat:=L.flatMap bxS
theorem AF (A B:List Sh):bxL (A++B)=bxL A++bxL B:=by unfold bxL;rw[List.flatMap_append]
theorem AX (s:Sh) (L:List Sh):bxL (s::L)=bxS s++bxL L:=by unfold bxL;rw[List.flatMap_cons]
theorem Bh {x:Nat} {s:Sh} {L:List Sh} (hs:s∈L) (hx:x∈bxS s):x∈bxL L:=List.mem_flatMap.2 ⟨s,hs,hx⟩
end Go.TVF
end
namespace Go.TVF
open Go.IntKind(i64 u8)
open Go Go.Proofs
def A9:TV->Option Nat
 | .list _ (.own id) _ _=>some id
 | _=>none
def C5 (v:TV) (xs:List TV):Prop:=(v= .nilSlice/\xs=[])∨∃tip,v= .list 1 tip xs.length xs/\(tip= .full∨∃id,tip= .own id)
theorem C5.nil:C5 .nilSlice []:= .inl ⟨rfl,rfl⟩
theorem C5.sl {v:TV} {xs:List TV} (h:C5 v xs):isSl v=true:=by
 rcases h with⟨rfl,_⟩ | ⟨tip,rfl,_⟩<;>rfl
theorem C5.len {v:TV} {xs:List TV} (h:C5 v xs):lenS v=xs.length:=by
 rcases h with⟨rfl,rfl⟩ | ⟨tip,rfl,_⟩<;>rfl
theorem C5.lenZ {v:TV} {xs:List TV} (h:C5 v xs):lenZ 1 v=xs.length:=by
 rcases h with⟨rfl,rfl⟩ | ⟨tip,rfl,_⟩<;>rfl
theorem LJ {T bytes:Nat} {st:St} {v y:TV} {xs:List TV} {K:TV->St->Prop} (h:C5 v xs) (ht:∀id,A9 v=some id->id<st.nt/\st.live id=true) (hby:(xs.length+1)*bytes<=140737488355328)
  (hK:∀v' st',C5 v' (xs++[y])->A9 v'=some st.nt->st'.box=st.box->st'.nb=st.nb->st'.bt=st.bt->st'.nt=st.nt+1->st'.live st.nt=true->(∀i,i<st.nt->A9 v≠some i->st'.live i=st.live i)->K v' st'):
  Bl T 1 bytes v 1 [y] st K:=by
 rcases h with⟨rfl,rfl⟩ | ⟨tip,rfl,rfl | ⟨id,rfl⟩⟩
 ·simp only[Bl]
  refine Aa (by rw[Nat.ble_eq];simpa using hby) (hK _ _ (.inr ⟨.own st.nt,rfl,.inr ⟨_,rfl⟩⟩) rfl rfl rfl rfl rfl (by simp[St.fresh]) fun i hi _=>?_)
  simp only[St.fresh];rw[if_neg (by omega)]
 ·simp only[Bl,Nat.beq_refl]
  refine⟨hby,hK _ _ (.inr ⟨.own st.nt,by simp,.inr ⟨_,rfl⟩⟩) rfl rfl rfl rfl rfl (by simp[St.fresh]) fun i hi _=>?_⟩
  simp only[St.fresh];rw[if_neg (by omega)]
 ·obtain⟨h1,h2⟩:=ht id rfl
  simp only[Bl,Nat.beq_refl]
  refine⟨hby,h2,hK _ _ (.inr ⟨.own st.nt,by simp,.inr ⟨_,rfl⟩⟩) rfl rfl rfl rfl rfl (by simp[St.fresh,St.retire]) fun i hi hne=>?_⟩
  have h3:i≠id:=fun e=>hne (by rw[e];rfl)
  have h4:i≠st.nt:=by omega
  simp[St.fresh,St.retire,h3,h4]
theorem Ni {t m e d:Nat} {kv:TV} {ks:List B8} {key:B8} {es:List (B8×TV)} {st:St} {K:St->Prop} (hb:st.box t= .cells [kv,.map m,.int .i64 d]) (hm:st.box m= .map es)
  (hr:C5 kv (ks.map TV.str)) (ht:∀id,A9 kv=some id->id<st.nt/\st.live id=true) (hl:ks.length<=1000000)
  (hk:∀kv' st',C5 kv' ((ks++[key]).map TV.str)->A9 kv'=some st.nt->st'.box=(fun x=>if x=m then .map (Fz key (.box e 0) es)else if x=t then .cells [kv',.map m,.int .i64 d]else st.box x)->st'.nb=st.nb->st'.bt=st.bt->st'.nt=st.nt+1->
   st'.live st.nt=true->(∀i,i<st.nt->A9 kv≠some i->st'.live i=st.live i)->K st'):
  CallT PR AJ [.box t 0,.str key,.box e 0] [] st K:=by
 have hmt:m≠t:=fun h=>by rw[h,hb]at hm;cases hm
 refine G0 t key e st K (Ad (x:=kv) (by simp only[Ac,hb];rfl) (LJ hr ht (by rw[List.length_map];omega) fun v' st1 h1 h2 h3 h4 h5 h6 h7 h8=>?_))
 have h1':Aq v'=true:=by
  rcases h1 with⟨_,hx⟩ | ⟨tip,h9,_⟩
  ·simp at hx
  ·rw[h9];rfl
 refine Aa (by simp[h1']) ?_
 have hb1:st1.box t= .cells [kv,.map m,.int .i64 d]:=by rw[h3];exact hb
 refine⟨_,hb1,by simp,?_⟩
 refine Ad (x:= .map m) (by simp[Ac,St.put,setAll]) ?_
 refine⟨es,by simp only[St.put];rw[if_neg hmt,h3];exact hm,?_⟩
 refine hk v' _ (by rw[List.map_append];exact h1) h2 ?_ h4 h5 h6 h7 h8
 funext x
 simp only[St.put,h3,setAll]
 rfl
theorem allC {st:St} {up:List (Nat×TV)} (h:∀p,p∈up->Ao st p.1=true):(up.all fun p=>Ao st p.1)=true:=List.all_eq_true.2 h
theorem JH {st:St} {ub k:Nat} {up:List (Nat×TV)} (hu:st.box ub= .pmap up) (h:∀p,p∈up->Ao st p.1=true) (hk:Ao st k=true):K4 st (.map ub) (.box k 0)=some (up,k):=by
 simp only[K4,K1,hu,pkey,Nat.beq_refl,hk,allC h]
 rfl
theorem HK {bb ub d:Nat} {r n:TV} {nodes:Int} {up:List (Nat×TV)} {st:St} {K:TV->St->Prop} (hb:st.box bb= .cells [r,n,.map ub,.int .i64 nodes]) (hu:st.box ub= .pmap up) (hbb:bb<st.nb) (hub:ub<st.nb)
  (hc:∀p,p∈up->Ao st p.1=true/\p.1<st.nb) (hn:0<=nodes/\nodes<1000000000)
  (hk:∀st',st'.nb=st.nb+2->st'.box=(fun x=>if x=bb then .cells [r,n,.map ub,.int .i64 (nodes+1)]else if x=ub then .pmap (Ex (st.nb+1) (.bool true) up)else if x=st.nb+1 then .cells [.nilSlice,.map st.nb,.int .i64 d]else if x=st.nb then .map []else st.box x)->
   st'.nt=st.nt->st'.live=st.live->K (.box (st.nb+1) 0) st'):
  CallT PR Ax [.box bb 0,.int .i64 d] [.one .tv] st K:=by
 have hbu:ub≠bb:=fun h=>by rw[h,hb]at hu;cases hu
 have e1:bb≠st.nb:=by omega
 have e2:bb≠st.nb+1:=by omega
 have e3:ub≠st.nb:=by omega
 have e4:ub≠st.nb+1:=by omega
 refine Fu bb d st K (Aa rfl (Ad (x:= .map ub) (by simp[Ac,St.push,e1,e2,hb]) ?_))
 have hg:K4 ((st.push (.map []) none).push (.cells [.nilSlice,.map st.nb,.int .i64 d]) (some 89)) (.map ub) (.box (st.nb+1) 0)=some (up,st.nb+1):=by
  refine JH (by simp[St.push,e3,e4,hu]) (fun p hp=>?_) (by simp[Ao,St.push])
  obtain⟨h1,h2⟩:=hc p hp
  have h3:p.1≠st.nb:=by omega
  have h4:p.1≠st.nb+1:=by omega
  simp only[Ao]at h1
  simp[Ao,St.push,h3,h4,h1]
 refine Ad hg ?_
 refine Ad (x:= .int .i64 nodes) (by simp[Ac,St.push,St.put,Hm,Ne.symm hbu,e1,e2,hb]) (Cj ?_)
 refine⟨[r,n,.map ub,.int .i64 nodes],by simp[St.push,St.put,Hm,Ne.symm hbu,e1,e2,hb],by simp,?_⟩
 rw[Aj _ (by omega) (by omega)]
 refine hk _ rfl ?_ rfl rfl
 funext x
 simp only[St.push,St.put,Hm,setAll]
 rfl
def z13:List TV:=AA scO .nilSlice .nilSlice .nilSlice
def Kq (σ:Nat->TV) (st:St) (eb:Nat):ShE->Prop
 | .opn b=>st.box eb= .cells (.box b 0:: .nilSlice::(z13++[.int .i64 0]))/\A9 (σ eb)=none
 | .lst bs=>C5 (σ eb) (bs.map fun b=> .box b 0)/\bs≠ []/\st.box eb= .cells (.nilPtr::σ eb::(z13++[.int .i64 0]))
 | .clo v i=>∃cs,VlR St.zero v cs/\cs.length=13/\st.box eb= .cells (.nilPtr:: .nilSlice::(cs++[.int .i64 i]))/\A9 (σ eb)=none
structure LN (σ:Nat->TV) (st:St) (s:Sh):Prop where
 cell:st.box s.b= .cells [σ s.b,.map s.m,.int .i64 s.d]
 row:C5 (σ s.b) ((s.es.map fun x=>x.1).map TV.str)
 mp:∃mp,st.box s.m= .map mp/\∀k,Aw k mp=(Eb k s.es).map fun p=> .box p.1 0
 en:∀x,x∈s.es->Kq σ st x.2.1 x.2.2
structure HP (σ:Nat->TV) (st:St) (L:List Sh):Prop where
 nd:(bxL L).Nodup
 lt:∀x,x∈bxL L->x<st.nb
 sh:∀s,s∈L->LN σ st s
 tip:∀x,x∈bxL L->∀id,A9 (σ x)=some id->id<st.nt/\st.live id=true
 td:∀x,x∈bxL L->∀y,y∈bxL L->x≠y->∀id,A9 (σ x)=some id->A9 (σ y)≠some id
theorem Kq.fr {σ σ':Nat->TV} {st st':St} {eb:Nat} {e:ShE} (h:Kq σ st eb e) (hb:st'.box eb=st.box eb) (hs:σ' eb=σ eb):Kq σ' st' eb e:=by
 cases e with
 | opn b=>unfold Kq at h⊢;rw[hb,hs];exact h
 | lst bs=>unfold Kq at h⊢;rw[hb,hs];exact h
 | clo v i=>unfold Kq at h⊢;rw[hb,hs];exact h
theorem EB {s:Sh} {x:B8×Nat×ShE} (h:x∈s.es):x.2.1∈bxS s:= .tail _ (.tail _ (List.mem_map.2 ⟨x,h,rfl⟩))
theorem LN.fr {σ σ':Nat->TV} {st st':St} {s:Sh} (h:LN σ st s) (hb:∀x,x∈bxS s->st'.box x=st.box x/\σ' x=σ x):LN σ' st' s:=by
 have h1:=hb s.b (.head _)
 have h2:=hb s.m (.tail _ (.head _))
 exact⟨by rw[h1.1,h1.2];exact h.cell,by rw[h1.2];exact h.row,by rw[h2.1];exact h.mp,fun x hx=>(h.en x hx).fr (hb _ (EB hx)).1 (hb _ (EB hx)).2⟩
theorem I8 {A X B:List Sh} (h:(bxL (A++(X++B))).Nodup):(bxL A++bxL B).Nodup/\(bxL X).Nodup/\∀x,x∈bxL X->x∉bxL A/\x∉bxL B:=by
 rw[AF,AF]at h
 obtain⟨h1,h2,h3⟩:=List.nodup_append.1 h
 obtain⟨h4,h5,h6⟩:=List.nodup_append.1 h2
 exact⟨List.nodup_append.2 ⟨h1,h5,fun a ha b hb=>h3 a ha b (List.mem_append_right _ hb)⟩,h4,fun x hx=>⟨fun ha=>h3 x ha x (List.mem_append_left _ hx) rfl,fun hb=>h6 x hx x hb rfl⟩⟩
theorem HP.upd {σ σ':Nat->TV} {st st':St} {A X X' B:List Sh} (h:HP σ st (A++(X++B))) (hnb:st.nb<=st'.nb)
  (hbx:∀x,x∈bxL A∨x∈bxL B->st'.box x=st.box x/\σ' x=σ x)
  (hlv:∀x,x∈bxL A∨x∈bxL B->∀id,A9 (σ x)=some id->id<st'.nt/\st'.live id=true)
  (hX:∀s,s∈X'->LN σ' st' s) (hnd:(bxL X').Nodup) (hnew:∀x,x∈bxL X'->x<st'.nb/\(x∈bxL X∨st.nb<=x))
  (htip:∀x,x∈bxL X'->∀id,A9 (σ' x)=some id->id<st'.nt/\st'.live id=true/\((∃y,y∈bxL X/\A9 (σ y)=some id)∨st.nt<=id))
  (htd:∀x,x∈bxL X'->∀y,y∈bxL X'->x≠y->∀id,A9 (σ' x)=some id->A9 (σ' y)≠some id):HP σ' st' (A++(X'++B)):=by
 obtain⟨n1,n2,n3⟩:=I8 h.nd
 have mA:∀{x},x∈bxL A->x∈bxL (A++(X++B)):=fun hx=>by rw[AF];exact List.mem_append_left _ hx
 have mB:∀{x},x∈bxL B->x∈bxL (A++(X++B)):=fun hx=>by rw[AF,AF];exact List.mem_append_right _ (List.mem_append_right _ hx)
 have mX:∀{x},x∈bxL X->x∈bxL (A++(X++B)):=fun hx=>by rw[AF,AF];exact List.mem_append_right _ (List.mem_append_left _ hx)
 have mAB:∀{x},x∈bxL A∨x∈bxL B->x∈bxL (A++(X++B)):=fun hx=>hx.elim mA mB
 have dAB:∀{x},x∈bxL X'->¬(x∈bxL A∨x∈bxL B):=fun {x} hx hm=>by
  rcases (hnew x hx).2 with h1 | h1
  ·exact hm.elim (n3 x h1).1 (n3 x h1).2
  ·have:=h.lt x (mAB hm);omega
 have tAB:∀{x y},x∈bxL X'->(y∈bxL A∨y∈bxL B)->∀{id},A9 (σ' x)=some id->A9 (σ y)=some id->False:=fun {x y} hx hy {id} h1 h2=>by
  rcases (htip x hx id h1).2.2 with⟨z,hz,h3⟩ | h3
  ·exact h.td z (mX hz) y (mAB hy) (fun e=>by subst e;exact hy.elim (n3 z hz).1 (n3 z hz).2) id h3 h2
  ·have:=(h.tip y (mAB hy) id h2).1;omega
 have spl:∀{x},x∈bxL (A++(X'++B))->(x∈bxL A∨x∈bxL B)∨x∈bxL X':=fun {x} hx=>by
  rw[AF,AF]at hx
  rcases List.mem_append.1 hx with h1 | h1
  ·exact .inl (.inl h1)
  ·rcases List.mem_append.1 h1 with h2 | h2
   ·exact .inr h2
   ·exact .inl (.inr h2)
 refine⟨?_,fun x hx=>?_,fun s hs=>?_,fun x hx id hid=>?_,fun x hx y hy hne id h1 h2=>?_⟩
 ·rw[AF,AF]
  obtain⟨a1,a2,a3⟩:=List.nodup_append.1 n1
  refine List.nodup_append.2 ⟨a1,List.nodup_append.2 ⟨hnd,a2,fun x hx y hy e=>dAB hx (.inr (by rw[e];exact hy))⟩,fun x hx y hy e=>?_⟩
  rcases List.mem_append.1 hy with h1 | h1
  ·exact dAB h1 (.inl (by rw[<-e];exact hx))
  ·exact a3 x hx y h1 e
 ·rcases spl hx with h1 | h1
  ·exact Nat.lt_of_lt_of_le (h.lt x (mAB h1)) hnb
  ·exact(hnew x h1).1
 ·rcases List.mem_append.1 hs with h1 | h1
  ·exact(h.sh s (List.mem_append_left _ h1)).fr fun x hx=>hbx x (.inl (Bh h1 hx))
  ·rcases List.mem_append.1 h1 with h2 | h2
   ·exact hX s h2
   ·exact(h.sh s (List.mem_append_right _ (List.mem_append_right _ h2))).fr fun x hx=>hbx x (.inr (Bh h2 hx))
 ·rcases spl hx with h1 | h1
  ·exact hlv x h1 id ((hbx x h1).2▸hid)
  ·exact⟨(htip x h1 id hid).1,(htip x h1 id hid).2.1⟩
 ·rcases spl hx with h3 | h3<;>rcases spl hy with h4 | h4
  ·exact h.td x (mAB h3) y (mAB h4) hne id ((hbx x h3).2▸h1) ((hbx y h4).2▸h2)
  ·exact tAB h4 h3 h2 ((hbx x h3).2▸h1)
  ·exact tAB h3 h4 h1 ((hbx y h4).2▸h2)
  ·exact htd x h3 y h4 hne id h1 h2
theorem HP.add {σ σ':Nat->TV} {st st':St} {A R N B:List Sh} {s:Sh} {k:B8} {eb:Nat} {e:ShE} (h:HP σ st (A++((s::R)++B))) (hnb:st.nb<=st'.nb)
  (hbx:∀x,x∈bxL (A++((s::R)++B))->x≠s.b->x≠s.m->st'.box x=st.box x/\σ' x=σ x)
  (hlv:∀x,x∈bxL (A++((s::R)++B))->x≠s.b->∀id,A9 (σ x)=some id->id<st'.nt/\st'.live id=true)
  (hc:st'.box s.b= .cells [σ' s.b,.map s.m,.int .i64 s.d]) (hr:C5 (σ' s.b) (((s.es++[(k,eb,e)]).map fun x=>x.1).map TV.str))
  (hm:∃mp,st.box s.m= .map mp/\st'.box s.m= .map (Fz k (.box eb 0) mp)) (hsm:σ' s.m=σ s.m) (hk:Eb k s.es=none) (he:Kq σ' st' eb e)
  (hN:∀s',s'∈N->LN σ' st' s') (hnd:(eb::bxL N).Nodup) (hnew:∀x,x∈eb::bxL N->st.nb<=x/\x<st'.nb)
  (htip:∀x,x∈s.b::eb::bxL N->∀id,A9 (σ' x)=some id->st.nt<=id/\id<st'.nt/\st'.live id=true)
  (htd:∀x,x∈s.b::eb::bxL N->∀y,y∈s.b::eb::bxL N->x≠y->∀id,A9 (σ' x)=some id->A9 (σ' y)≠some id):
  HP σ' st' (A++((⟨s.b,s.m,s.hd,s.d,s.es++[(k,eb,e)]⟩::(R++N))++B)):=by
 obtain⟨n1,n2,n3⟩:=I8 h.nd
 have hin:∀{x},x∈bxL (s::R)->x∈bxL (A++((s::R)++B)):=fun hx=>by rw[AF,AF];exact List.mem_append_right _ (List.mem_append_left _ hx)
 have hsR:s∈A++((s::R)++B):=List.mem_append_right _ (List.mem_append_left _ (.head _))
 have hsb:s.b∈bxL (s::R):=by rw[AX];exact List.mem_append_left _ (.head _)
 have hsmm:s.m∈bxL (s::R):=by rw[AX];exact List.mem_append_left _ (.tail _ (.head _))
 have hS:=h.sh s hsR
 rw[AX]at n2
 obtain⟨m1,m2,m3⟩:=List.nodup_append.1 n2
 have hbm:s.m≠s.b:=fun e=>by
  have:=hS.cell;obtain⟨mp,h1,_⟩:=hS.mp;rw[e,this]at h1;cases h1
 have eE:bxL (⟨s.b,s.m,s.hd,s.d,s.es++[(k,eb,e)]⟩::(R++N))=(s.b::s.m::(s.es.map (fun x=>x.2.1)++[eb]))++(bxL R++bxL N):=by
  rw[AX,AF]
  show(s.b::s.m::(s.es++[(k,eb,e)]).map (fun x=>x.2.1))++_=_
  rw[List.map_append];rfl
 have mem':∀{x},x∈bxL (⟨s.b,s.m,s.hd,s.d,s.es++[(k,eb,e)]⟩::(R++N))->x∈bxL (s::R)∨x∈eb::bxL N:=fun {x} hx=>by
  rw[eE]at hx
  rw[AX]
  rcases List.mem_append.1 hx with h1 | h1
  ·rcases List.mem_cons.1 h1 with rfl | h1
   ·exact .inl (List.mem_append_left _ (.head _))
   ·rcases List.mem_cons.1 h1 with rfl | h1
    ·exact .inl (List.mem_append_left _ (.tail _ (.head _)))
    ·rcases List.mem_append.1 h1 with h2 | h2
     ·exact .inl (List.mem_append_left _ (.tail _ (.tail _ h2)))
     ·rw[List.mem_singleton.1 h2];exact .inr (.head _)
  ·rcases List.mem_append.1 h1 with h2 | h2
   ·exact .inl (List.mem_append_right _ h2)
   ·exact .inr (.tail _ h2)
 have old:∀{x},x∈bxL (s::R)->x≠s.b->σ' x=σ x:=fun {x} hx hne=>by
  by_cases hxm:x=s.m
  ·rw[hxm];exact hsm
  ·exact(hbx x (hin hx) hne hxm).2
 have hRes:∀s',s'∈R->∀x,x∈bxS s'->st'.box x=st.box x/\σ' x=σ x:=fun s' hs' x hx=>by
  have hxR:x∈bxL R:=Bh hs' hx
  refine hbx x (hin (by rw[AX];exact List.mem_append_right _ hxR)) (fun e=>?_) fun e=>?_
  ·exact m3 s.b (.head _) x hxR e.symm
  ·exact m3 s.m (.tail _ (.head _)) x hxR e.symm
 refine h.upd hnb (fun x hx=>?_) (fun x hx id hid=>?_) (fun s' hs'=>?_) ?_ (fun x hx=>?_) (fun x hx id hid=>?_) fun x hx y hy hne id h1 h2=>?_
 ·have hx':x∈bxL (A++((s::R)++B)):=by
   rw[AF,AF];exact hx.elim (fun h=>List.mem_append_left _ h) fun h=>List.mem_append_right _ (List.mem_append_right _ h)
  refine hbx x hx' (fun e=>?_) fun e=>?_
  ·subst e;exact hx.elim (n3 _ hsb).1 (n3 _ hsb).2
  ·subst e;exact hx.elim (n3 _ hsmm).1 (n3 _ hsmm).2
 ·have hx':x∈bxL (A++((s::R)++B)):=by
   rw[AF,AF];exact hx.elim (fun h=>List.mem_append_left _ h) fun h=>List.mem_append_right _ (List.mem_append_right _ h)
  exact hlv x hx' (fun e=>by subst e;exact hx.elim (n3 _ hsb).1 (n3 _ hsb).2) id hid
 ·rcases List.mem_cons.1 hs' with rfl | hs'
  ·refine⟨hc,hr,?_,fun x hx=>?_⟩
   ·obtain⟨mp,h1,h2⟩:=hm
    obtain⟨mp2,h3,h4⟩:=hS.mp
    rw[h3]at h1;cases h1
    refine⟨_,h2,fun k2=>?_⟩
    rw[Iy,h4 k2,MA]
    by_cases hkk:k2=k
    ·subst hkk;rw[if_pos rfl,hk,if_pos rfl];rfl
    ·rw[if_neg hkk,if_neg hkk]
     cases Eb k2 s.es<;>rfl
   ·rcases List.mem_append.1 hx with h1 | h1
    ·have hxb:x.2.1∈s.es.map fun x=>x.2.1:=List.mem_map.2 ⟨x,h1,rfl⟩
     have hxn:x.2.1≠s.b:=fun e=>by
      have:=(List.nodup_cons.1 m1).1
      exact this (.tail _ (e▸hxb))
     have hxm:x.2.1≠s.m:=fun e=>by
      have:=(List.nodup_cons.1 (List.nodup_cons.1 m1).2).1
      exact this (e▸hxb)
     have:=hbx x.2.1 (Bh hsR (EB h1)) hxn hxm
     exact(hS.en x h1).fr this.1 this.2
    ·rw[List.mem_singleton.1 h1];exact he
  ·rcases List.mem_append.1 hs' with h1 | h1
   ·exact(h.sh s' (List.mem_append_right _ (List.mem_append_left _ (.tail _ h1)))).fr (hRes s' h1)
   ·exact hN s' h1
 ·have hlt:∀{x},x∈bxS s++bxL R->x<st.nb:=fun hx=>h.lt _ (hin (by rw[AX];exact hx))
  obtain⟨q1,q2⟩:=List.nodup_cons.1 hnd
  have e2:bxS s=s.b::s.m::s.es.map fun x=>x.2.1:=rfl
  rw[eE]
  refine List.nodup_append.2 ⟨?_,List.nodup_append.2 ⟨m2,q2,fun x hx y hy e=>?_⟩,fun x hx y hy e=>?_⟩
  ·have e3:s.b::s.m::(s.es.map (fun x=>x.2.1)++[eb])=bxS s++[eb]:=rfl
   rw[e3]
   refine List.nodup_append.2 ⟨m1,by simp,fun x hx y hy e=>?_⟩
   rw[List.mem_singleton.1 hy]at e
   have h1:=hlt (List.mem_append_left _ hx)
   have h2:=(hnew eb (.head _)).1
   omega
  ·have h1:=hlt (List.mem_append_right _ hx)
   have h2:=(hnew y (.tail _ hy)).1
   omega
  ·have e3:s.b::s.m::(s.es.map (fun x=>x.2.1)++[eb])=bxS s++[eb]:=rfl
   rw[e3]at hx
   subst e
   rcases List.mem_append.1 hx with h1 | h1
   ·rcases List.mem_append.1 hy with h2 | h2
    ·exact m3 x h1 x h2 rfl
    ·have h3:=hlt (List.mem_append_left _ h1)
     have h4:=(hnew x (.tail _ h2)).1
     omega
   ·have h5:=List.mem_singleton.1 h1
    subst h5
    rcases List.mem_append.1 hy with h2 | h2
    ·have h3:=hlt (List.mem_append_right _ h2)
     have h4:=(hnew x (.head _)).1
     omega
    ·exact q1 h2
 ·rcases mem' hx with h1 | h1
  ·exact⟨Nat.lt_of_lt_of_le (h.lt x (hin h1)) hnb,.inl h1⟩
  ·exact⟨(hnew x h1).2,.inr (hnew x h1).1⟩
 ·rcases mem' hx with h1 | h1
  ·by_cases hxb:x=s.b
   ·subst hxb
    have:=htip _ (.head _) id hid
    exact⟨this.2.1,this.2.2,.inr this.1⟩
   ·rw[old h1 hxb]at hid
    have:=hlv x (hin h1) hxb id hid
    exact⟨this.1,this.2,.inl ⟨x,h1,hid⟩⟩
  ·have:=htip x (.tail _ h1) id hid
   exact⟨this.2.1,this.2.2,.inr this.1⟩
 ·have cl:∀{x},x∈bxL (s::R)∨x∈eb::bxL N->(x∈s.b::eb::bxL N)∨(x∈bxL (s::R)/\x≠s.b):=fun {x} hx=>by
   rcases hx with h3 | h3
   ·by_cases hxb:x=s.b
    ·rw[hxb];exact .inl (.head _)
    ·exact .inr ⟨h3,hxb⟩
   ·exact .inl (.tail _ h3)
  rcases cl (mem' hx)with h3 | ⟨h3,h3'⟩<;>rcases cl (mem' hy)with h4 | ⟨h4,h4'⟩
  ·exact htd x h3 y h4 hne id h1 h2
  ·have g1:=(htip x h3 id h1).1
   rw[old h4 h4']at h2
   have g2:=(h.tip y (hin h4) id h2).1
   omega
  ·have g1:=(htip y h4 id h2).1
   rw[old h3 h3']at h1
   have g2:=(h.tip x (hin h3) id h1).1
   omega
  ·rw[old h3 h3']at h1
   rw[old h4 h4']at h2
   exact h.td x (hin h3) y (hin h4) hne id h1 h2
end Go.TVF
section
namespace Go.TVF
open Go.IntKind(i64 u8)
structure Chg (v v' u u':Vl) (g:Nat):Prop where
 cnt:v'.cnt+u.cnt=v.cnt+u'.cnt
 sz:v'.sz+u.sz=v.sz+u'.sz
 lv:lvV v'<=max (lvV v) (g+lvV u')
 lvu:g+lvV u<=lvV v
 vu:AD v->AD u
 va:AD v->AD u'->AD v'
theorem Chg.refl (u u':Vl):Chg u u' u u' 0:=⟨by omega,by omega,by omega,by omega,id,fun _ h=>h⟩
theorem Chg.trans {v v' w w' u u':Vl} {g h:Nat} (a:Chg v v' w w' g) (b:Chg w w' u u' h):Chg v v' u u' (g+h):=
 ⟨by have:=a.cnt;have:=b.cnt;omega,by have:=a.sz;have:=b.sz;omega,by have:=a.lv;have:=b.lv;have:=a.lvu;omega,by have:=a.lvu;have:=b.lvu;omega,fun x=>b.vu (a.vu x),fun x y=>a.va x (b.va (a.vu x) y)⟩
theorem La (l m:List Fd):Cz (l++m)=max (Cz l) (Cz m):=by
 induction l with
 | nil=>simp[Cz]
 | cons d r ih=>simp only[List.cons_append,Cz,ih];omega
theorem K9 (l m:List Vl):CN (l++m)=max (CN l) (CN m):=by
 induction l with
 | nil=>simp[CN]
 | cons d r ih=>simp only[List.cons_append,CN,ih];omega
theorem ES (l m:List Fd):BE (l++m)↔BE l/\BE m:=by
 induction l with
 | nil=>simp[BE]
 | cons d r ih=>simp only[List.cons_append,BE,ih,and_assoc]
theorem Gl (l m:List Vl):BW (l++m)↔BW l/\BW m:=by
 induction l with
 | nil=>simp[BW]
 | cons d r ih=>simp only[List.cons_append,BW,ih,and_assoc]
theorem MG:∀(f f':List Fd) (seen:List B8),f.map Fd.key=f'.map Fd.key->Cf seen f=Cf seen f'
 | [],[],_,_=>rfl
 | [],d::r,_,h=>by simp at h
 | d::r,[],_,h=>by simp at h
 | d::r,d'::r',seen,h=>by
  rw[List.map_cons,List.map_cons,List.cons.injEq]at h
  unfold Cf
  rw[h.1,MG r r' _ h.2]
theorem OH {f f':List Fd} (h:M8 scM [] f) (hk:Cf [] f'=0):M8 scM [] f':=
 ⟨⟨h.own.k0,h.own.k7,h.own.bo,h.own.nu,h.own.ti,h.own.tx,h.own.by_,h.own.ls,fun h=>absurd rfl h⟩,h.dec,h.time,h.text,h.tlen,h.blen,hk⟩
theorem Sx {l l':List Vl} (h:M8 scL l []):M8 scL l' []:=
 ⟨⟨h.own.k0,h.own.k7,h.own.bo,h.own.nu,h.own.ti,h.own.tx,h.own.by_,fun h=>absurd rfl h,h.own.fs⟩,h.dec,h.time,h.text,h.tlen,h.blen,h.keys⟩
theorem Chg.fld (F G:List Fd) (k:B8) (u u':Vl):Chg (.mk scM [] (F++ .mk k u::G)) (.mk scM [] (F++ .mk k u'::G)) u u' 1:=by
 refine⟨?_,?_,?_,?_,fun h=>?_,fun h g=>?_⟩
 ·simp only[Vl.cnt,EL,Ay,Fd.cnt];omega
 ·simp only[Vl.sz,Jg,Bu,Fd.sz];omega
 ·simp only[lvV,La,Cz,lvD];omega
 ·simp only[lvV,La,Cz,lvD];omega
 ·unfold AD at h
  have:=((ES _ _).1 h.2.2).2
  unfold BE Ep at this
  exact this.1
 ·unfold AD at h⊢
  obtain⟨h1,h2,h3⟩:=h
  obtain⟨h4,h5⟩:=(ES _ _).1 h3
  refine⟨OH h1 ?_,h2,(ES _ _).2 ⟨h4,?_⟩⟩
  ·rw[<-h1.keys];exact MG _ _ _ (by simp[Fd.key])
  ·unfold BE Ep at h5⊢;exact⟨g,h5.2⟩
theorem Chg.lst (A B:List Vl) (u u':Vl):Chg (.mk scL (A++u::B) []) (.mk scL (A++u'::B) []) u u' 1:=by
 refine⟨?_,?_,?_,?_,fun h=>?_,fun h g=>?_⟩
 ·simp only[Vl.cnt,DT,Az];omega
 ·simp only[Vl.sz,IF,Bw];omega
 ·simp only[lvV,K9,CN];omega
 ·simp only[lvV,K9,CN];omega
 ·unfold AD at h
  have:=((Gl _ _).1 h.2.1).2
  unfold BW at this
  exact this.1
 ·unfold AD at h⊢
  obtain⟨h1,h2,h3⟩:=h
  obtain⟨h4,h5⟩:=(Gl _ _).1 h2
  refine⟨Sx h1,(Gl _ _).2 ⟨h4,?_⟩,h3⟩
  unfold BW at h5⊢;exact⟨g,h5.2⟩
theorem DY {k:B8}:∀{es:List Kn} {eb:Nat} {e:En},Am k es=some (eb,e)->∃F G,AO es=F++ .mk k (AQ e)::G/\∀x,AO (Cc k x es)=F++ .mk k (AQ x)::G
 | .mk k' eb' e'::r,eb,e,h=>by
  unfold Am at h
  by_cases hk:k=k'
  ·rw[if_pos hk]at h
   cases h
   subst hk
   exact⟨[],AO r,by rw[AO,List.nil_append],fun x=>by rw[Cc,if_pos rfl,AO,List.nil_append]⟩
  ·rw[if_neg hk]at h
   obtain⟨F,G,h1,h2⟩:=DY h
   exact⟨.mk k' (AQ e')::F,G,by rw[AO,h1];rfl,fun x=>by rw[Cc,if_neg hk,AO,h2 x];rfl⟩
theorem MI:∀{l:List Tb} {i:Nat} {u:Tb},l[i]? =some u->∃A B,Br l=A++Af u::B/\∀x,Br (l.set i x)=A++Af x::B
 | t::r,0,u,h=>by cases h;exact⟨[],Br r,by rw[Br,List.nil_append],fun x=>by rw[List.set_cons_zero,Br,List.nil_append]⟩
 | t::r,i+1,u,h=>by
  obtain⟨A,B,h1,h2⟩:=MI (l:=r) (i:=i) (u:=u) (by simpa using h)
  exact⟨Af t::A,B,by rw[Br,h1];rfl,fun x=>by rw[List.set_cons_succ,Br,h2 x];rfl⟩
theorem DK:∀(h:List Hop) {T t:Tb},atT T h=some t->∀t',Chg (Af T) (Af (AK T h t')) (Af t) (Af t') (dpH h)
 | [],T,t,hA,t'=>by cases T;cases hA;exact Chg.refl _ _
 | (k,none)::h,.mk b m hd es,t,hA,t'=>by
  rw[atT]at hA
  rcases hl:Am k es with _ | ⟨eb,u | l | ⟨v,i⟩⟩<;>rw[hl]at hA<;>simp only at hA<;>try (cases hA;done)
  obtain⟨F,G,h1,h2⟩:=DY hl
  have:=(Chg.fld F G k (Af u) (Af (AK u h t'))).trans (DK h hA t')
  rw[AK,hl]
  simp only
  rw[Af,Af,h1,h2,AQ,AQ,dpH,Nat.add_comm]
  exact this
 | (k,some j)::h,.mk b m hd es,t,hA,t'=>by
  rw[atT]at hA
  rcases hl:Am k es with _ | ⟨eb,u | l | ⟨v,i⟩⟩<;>rw[hl]at hA<;>simp only at hA<;>try (cases hA;done)
  cases hj:l[j]? with
  | none=>simp[hj]at hA
  | some u=>
  rw[hj]at hA
  simp only at hA
  obtain⟨F,G,h1,h2⟩:=DY hl
  obtain⟨A,B,h3,h4⟩:=MI hj
  have:=((Chg.fld F G k (.mk scL (A++Af u::B) []) (.mk scL (A++Af (AK u h t')::B) [])).trans (Chg.lst A B _ _)).trans (DK h hA t')
  rw[AK,hl]
  simp only[hj]
  rw[Af,Af,h1,h2,AQ,AQ,h3,h4,dpH,show dpH h+2=1+1+dpH h by omega]
  exact this
theorem Fx (t:Tb):Af t= .mk scM [] (AO t.es):=by cases t;rw[Af];rfl
theorem IK (t:Tb) (k:B8) (eb:Nat) (e:En):Af (A8 t k eb e)= .mk scM [] (AO t.es++[.mk k (AQ e)]):=by
 unfold A8
 rw[Af,Jw,AO,AO]
theorem KB (t:Tb) (k:B8) (eb:Nat) (e:En):(Af (A8 t k eb e)).cnt=(Af t).cnt+(AQ e).cnt:=by
 rw[IK,Fx t]
 simp only[Vl.cnt,EL,Ay,Fd.cnt];omega
theorem Sb (t:Tb) (k:B8) (eb:Nat) (e:En):(Af (A8 t k eb e)).sz=(Af t).sz+k.length+(AQ e).sz:=by
 rw[IK,Fx t]
 simp only[Vl.sz,Jg,Bu,Fd.sz];omega
theorem PV (t:Tb) (k:B8) (eb:Nat) (e:En):lvV (Af (A8 t k eb e))=max (lvV (Af t)) (1+lvV (AQ e)):=by
 rw[IK,Fx t]
 simp only[lvV,La,Cz,lvD];omega
theorem SQ (es:List Kn):(AO es).map Fd.key=es.map Kn.key:=by
 rw[Hy,List.map_map];rfl
theorem Ml {t:Tb} {k:B8} {eb:Nat} {e:En} (h:AD (Af t)) (hl:Am k t.es=none) (h8:U8 k) (hk:k.length<=1024) (he:AD (AQ e)):AD (Af (A8 t k eb e)):=by
 rw[Fx]at h
 rw[IK]
 unfold AD at h⊢
 obtain⟨h1,h2,h3⟩:=h
 obtain⟨k1,k2⟩:=OV _ _ h1.keys
 refine⟨OH h1 (OU _ _ ?_ fun d hd=>?_),h2,(ES _ _).2 ⟨h3,?_⟩⟩
 ·unfold LO at k1⊢
  rw[List.map_append]
  refine List.nodup_append.2 ⟨k1,by simp,fun x hx y hy e=>?_⟩
  rw[SQ]at hx
  obtain⟨d,hd,rfl⟩:=List.mem_map.1 hx
  simp only[List.map_cons,List.map_nil,List.mem_singleton]at hy
  subst hy
  exact Ir hl d hd e
 ·rcases List.mem_append.1 hd with h4 | h4
  ·exact k2 d h4
  ·rw[List.mem_singleton.1 h4];exact⟨by simp,h8,hk⟩
 ·unfold BE Ep BE;exact⟨he,trivial⟩
theorem NE (t:Tb):t.es.length<(Af t).cnt:=by
 rw[Fx]
 have:∀es:List Kn,es.length<=Ay (AO es):=by
  intro es
  induction es with
  | nil=>simp
  | cons d r ih=>
   obtain⟨k,eb,e⟩:=d
   rw[AO,Ay,Fd.cnt,List.length_cons]
   have:1<=(AQ e).cnt:=by cases AQ e;unfold Vl.cnt;omega
   omega
 have:=this t.es
 unfold Vl.cnt
 omega
theorem Q9 {T t:Tb} {h:List Hop} (hA:atT T h=some t):(Af t).cnt<=(Af T).cnt/\(Af t).sz<=(Af T).sz:=by
 have:=DK h hA (.mk 0 0 false [])
 have h1:=this.cnt
 have h2:=this.sz
 have h3:(Af (.mk 0 0 false [])).cnt=1:=by rw[Af,AO];simp[Vl.cnt,Az,Ay]
 have h4:(Af (.mk 0 0 false [])).sz=1:=by rw[Af,AO];simp[Vl.sz,Bw,Bu,scM]
 have h5:1<=(Af (AK T h (.mk 0 0 false []))).cnt:=by cases Af (AK T h (.mk 0 0 false []));unfold Vl.cnt;omega
 have h6:=(Af (AK T h (.mk 0 0 false []))).sz_pos
 omega
end Go.TVF
end
namespace Go.TVF
open Go.IntKind(i64 u8)
open Go Go.Proofs
theorem NA {a b:Nat} (h:a≠b):Nat.beq a b=false:=by rw[Bool.eq_false_iff];exact fun e=>h (Nat.eq_of_beq_eq_true e)
theorem D3 (k k':Nat) (v:TV):∀es:List (Nat×TV),BA k (Ex k' v es)=if k=k' then some v else BA k es
 | []=>by
  unfold Ex BA
  by_cases h:k=k'
  ·subst h;simp[BA]
  ·have:Nat.beq k k'=false:=NA (h)
   rw[this,if_neg h];rfl
 | (k2,v2)::es=>by
  unfold Ex
  by_cases h2:k'=k2
  ·subst h2
   rw[Nat.beq_refl]
   by_cases h:k=k'
   ·subst h;simp[BA]
   ·have:Nat.beq k k'=false:=NA (h)
    simp only[BA,this,if_neg h]
  ·have e:Nat.beq k' k2=false:=NA (h2)
   rw[e]
   simp only[BA]
   by_cases h:k=k2
   ·subst h;rw[Nat.beq_refl,if_neg (fun g=>h2 g.symm)]
   ·have:Nat.beq k k2=false:=NA (h)
    rw[this]
    simp only
    exact D3 k k' v es
theorem IV (k:Nat) (v:TV):∀es:List (Nat×TV),∀p,p∈Ex k v es->p=(k,v)∨p∈es
 | [],p,h=> .inl (List.mem_singleton.1 h)
 | (k2,v2)::es,p,h=>by
  unfold Ex at h
  cases hb:Nat.beq k k2 with
  | true=>
   rw[hb]at h
   rcases List.mem_cons.1 h with rfl | h
   ·exact .inl rfl
   ·exact .inr (.tail _ h)
  | false=>
   rw[hb]at h
   rcases List.mem_cons.1 h with rfl | h
   ·exact .inr (.head _)
   ·exact(IV k v es p h).imp id (.tail _)
theorem HA (k:Nat) (v:TV):∀es:List (Nat×TV),(∀p,p∈es->p.1≠k)->(Ex k v es).map Prod.fst=es.map Prod.fst++[k]
 | [],_=>rfl
 | (k2,v2)::es,h=>by
  have h2:=h (k2,v2) (.head _)
  have e:Nat.beq k k2=false:=NA (Ne.symm h2)
  unfold Ex
  rw[e]
  simp only[List.map_cons,List.cons_append]
  rw[HA k v es fun p hp=>h p (.tail _ hp)]
theorem Ly (k:Nat):∀es:List (Nat×TV),∀p,p∈GG k es->p∈es
 | [],p,h=>by cases h
 | (k2,v2)::es,p,h=>by
  unfold GG at h
  cases hb:Nat.beq k k2 with
  | true=>rw[hb]at h;exact .tail _ h
  | false=>
   rw[hb]at h
   rcases List.mem_cons.1 h with rfl | h
   ·exact .head _
   ·exact .tail _ (Ly k es p h)
theorem Q6 (k:Nat):∀es:List (Nat×TV),(es.map Prod.fst).Nodup->((GG k es).map Prod.fst).Nodup
 | [],_=>List.nodup_nil
 | (k2,v2)::es,h=>by
  rw[List.map_cons,List.nodup_cons]at h
  unfold GG
  cases hb:Nat.beq k k2 with
  | true=>exact h.2
  | false=>
   simp only[List.map_cons,List.nodup_cons]
   refine⟨fun hm=>?_,Q6 k es h.2⟩
   obtain⟨p,hp,he⟩:=List.mem_map.1 hm
   exact h.1 (List.mem_map.2 ⟨p,Ly k es p hp,he⟩)
theorem Lr {k:Nat}:∀{es:List (Nat×TV)},k∉es.map Prod.fst->BA k es=none
 | [],_=>rfl
 | (k2,v2)::es,h=>by
  rw[List.map_cons,List.mem_cons,not_or]at h
  have:Nat.beq k k2=false:=NA (h.1)
  simp only[BA,this]
  exact Lr h.2
theorem JT (k k':Nat):∀es:List (Nat×TV),(es.map Prod.fst).Nodup->BA k (GG k' es)=if k=k' then none else BA k es
 | [],_=>by unfold GG BA;split<;>rfl
 | (k2,v2)::es,h=>by
  rw[List.map_cons,List.nodup_cons]at h
  unfold GG
  by_cases h2:k'=k2
  ·subst h2
   rw[Nat.beq_refl]
   by_cases hk:k=k'
   ·subst hk;rw[if_pos rfl];exact Lr h.1
   ·have:Nat.beq k k'=false:=NA (hk)
    simp only[BA,this,if_neg hk]
  ·have e:Nat.beq k' k2=false:=NA (h2)
   rw[e]
   simp only[BA]
   by_cases hk:k=k2
   ·subst hk;rw[Nat.beq_refl,if_neg (fun g=>h2 g.symm)]
   ·have:Nat.beq k k2=false:=NA (hk)
    rw[this]
    simp only
    exact JT k k' es h.2
structure Un (ub:Nat) (L:List Sh) (st:St) (up:List (Nat×TV)):Prop where
 box:st.box ub= .pmap up
 nd:(up.map Prod.fst).Nodup
 ok:∀p,p∈up->Ao st p.1=true/\p.1<st.nb
 fd:∀s,s∈L->BA s.b up=if s.hd=true then none else some (.bool true)
structure BH (bb ub:Nat) (now:TV) (T:Tb) (nodes:Nat) (σ:Nat->TV) (st:St):Prop where
 hp:HP σ st (shT 1 T)
 cell:st.box bb= .cells [.box T.b 0,now,.map ub,.int .i64 nodes]
 un:∃up,Un ub (shT 1 T) st up
 bl:bb<st.nb
 ul:ub<st.nb
 bx:bb∉bxL (shT 1 T)
 ux:ub∉bxL (shT 1 T)
theorem QI {A R N B:List Sh} {s s':Sh} {eb:Nat} (hs:bxS s'=bxS s++[eb]) {x:Nat} (h:x∈bxL (A++((s'::(R++N))++B))):x∈bxL (A++((s::R)++B))∨x=eb∨x∈bxL N:=by
 simp only[AF,AX,List.mem_append,hs,List.mem_singleton]at h⊢
 rcases h with h | (((h | h) | h | h) | h)
 ·exact .inl (.inl h)
 ·exact .inl (.inr (.inl (.inl h)))
 ·exact .inr (.inl h)
 ·exact .inl (.inr (.inl (.inr h)))
 ·exact .inr (.inr h)
 ·exact .inl (.inr (.inr h))
theorem OG {bb ub:Nat} {now:TV} {T t:Tb} {nodes:Nat} {σ:Nat->TV} {st:St} {h:List Hop} {k:B8} (H:BH bb ub now T nodes σ st) (hA:atT T h=some t) (hl:Am k t.es=none) (hn:nodes<900000) (hcn:(Af T).cnt=nodes)
  {K:TV->St->St->Prop}
  (hk:∀nu σ' st2 st',nu.eb=st2.nb->BH bb ub now (AK T h (A8 t k nu.eb (.opn (AN nu false)))) (nodes+1) σ' st'->K (.box nu.b 0) st2 st'):
  CallT PR Ax [.box bb 0,.int .i64 ((1+dpH h+1:Nat):Int)] [.one .tv] st fun v st2=>need (List.all [v] Aq)
   (CallT PR AJ [.box t.b 0,.str k,.box st2.nb 0] [] (st2.push (.cells (v:: .nilSlice::(z13++[.int .i64 0]))) (some 92)) fun st3=>K v st2 st3):=by
 obtain⟨A,B,e1,e2⟩:=HR h hA 1
 rw[Es (1+dpH h) t]at e1
 have hp:=H.hp
 rw[e1]at hp
 obtain⟨up,hup⟩:=H.un
 have ht':=e2 (A8 t k (st.nb+2) (.opn (AN ⟨st.nb+1,st.nb,st.nb+2⟩ false))) rfl
 rw[Nl]at ht'
 have hS:=hp.sh _ (List.mem_append_right A (List.mem_append_left B (List.mem_cons_self ..)))
 have hin:∀{x},x∈bxS ⟨t.b,t.m,t.hd,1+dpH h,t.es.map shK⟩->x∈bxL (A++((⟨t.b,t.m,t.hd,1+dpH h,t.es.map shK⟩::BR (1+dpH h) t.es)++B)):=fun hx=>
  Bh (List.mem_append_right A (List.mem_append_left B (List.mem_cons_self ..))) hx
 have itb:=hin (x:=t.b) (.head _)
 have itm:=hin (x:=t.m) (.tail _ (.head _))
 have ltb:t.b<st.nb:=hp.lt _ itb
 have ltm:t.m<st.nb:=hp.lt _ itm
 have bx:=H.bx
 have ux:=H.ux
 rw[e1]at bx ux
 have nb1:t.b≠bb:=fun e=>bx (e▸itb)
 have nb2:t.b≠ub:=fun e=>ux (e▸itb)
 have nm1:t.m≠bb:=fun e=>bx (e▸itm)
 have nm2:t.m≠ub:=fun e=>ux (e▸itm)
 have hbl:=H.bl
 have hul:=H.ul
 have hbu:bb≠ub:=fun e=>by have:=H.cell;rw[e,hup.box]at this;cases this
 obtain⟨mp,hm1,hm2⟩:=hS.mp
 have hmt:t.m≠t.b:=fun e=>by have:=hS.cell;simp only at this hm1;rw[e,this]at hm1;cases hm1
 refine HK H.cell hup.box hbl hul hup.ok ⟨by omega,by omega⟩ fun st1 hnb hbox hnt hlive=>Aa rfl ?_
 have k1:∀x,x<st.nb->x≠bb->x≠ub->st1.box x=st.box x:=fun x h1 h2 h3=>by
  rw[hbox];simp only;rw[if_neg h2,if_neg h3,if_neg (by omega),if_neg (by omega)]
 have hlen:(t.es.map shK).length<=1000000:=by
  rw[List.length_map];have:=NE t;have:=(Q9 hA).1;omega
 refine Ni (kv:=σ t.b) (d:=1+dpH h) (m:=t.m) (ks:=(t.es.map shK).map fun x=>x.1) (es:=mp) ?_ ?_ hS.row ?_ (by rw[List.length_map];exact hlen) fun kv' st' r1 r2 r3 r4 r5 r6 r7 r8=>?_
 ·show(if t.b=st1.nb then _ else st1.box t.b)=_
  rw[if_neg (by omega),k1 _ ltb nb1 nb2];exact hS.cell
 ·show(if t.m=st1.nb then _ else st1.box t.m)=_
  rw[if_neg (by omega),k1 _ ltm nm1 nm2];exact hm1
 ·intro id hid
  obtain⟨q1,q2⟩:=hp.tip t.b itb id hid
  show id<st1.nt/\st1.live id=true
  rw[hnt,hlive];exact⟨q1,q2⟩
 have bx':∀x,st'.box x=if x=t.m then .map (Fz k (.box (st.nb+2) 0) mp)else if x=t.b then .cells [kv',.map t.m,.int .i64 ((1+dpH h:Nat):Int)]else if x=st.nb+2 then .cells (.box (st.nb+1) 0:: .nilSlice::(z13++[.int .i64 0]))else st1.box x:=fun x=>by
  rw[r3];simp only[St.push,hnb]
 have nb':st'.nb=st.nb+3:=by rw[r4];simp only[St.push,hnb]
 have nt':st'.nt=st.nt+1:=by rw[r6];simp only[St.push,hnt]
 have lv':∀i,i<st.nt->A9 (σ t.b)≠some i->st'.live i=st.live i:=fun i h1 h2=>by
  rw[r8 i (by simp only[St.push,hnt];exact h1) h2];simp only[St.push,hlive]
 have tip':A9 kv'=some st.nt/\st'.live st.nt=true:=by
  simp only[St.push,hnt]at r2 r7;exact⟨r2,r7⟩
 have k2:∀x,x<st.nb->x≠bb->x≠ub->x≠t.b->x≠t.m->st'.box x=st.box x:=fun x h1 h2 h3 h4 h5=>by
  rw[bx',if_neg h5,if_neg h4,if_neg (by omega),k1 x h1 h2 h3]
 have kbb:st'.box bb= .cells [.box T.b 0,now,.map ub,.int .i64 ((nodes:Int)+1)]:=by
  rw[bx',if_neg (Ne.symm nm1),if_neg (Ne.symm nb1),if_neg (by omega),hbox];simp only;rw[if_pos trivial]
 have kub:st'.box ub= .pmap (Ex (st.nb+1) (.bool true) up):=by
  rw[bx',if_neg (Ne.symm nm2),if_neg (Ne.symm nb2),if_neg (by omega),hbox];simp only;rw[if_neg (Ne.symm hbu),if_pos trivial]
 have kb1:st'.box (st.nb+1)= .cells [.nilSlice,.map st.nb,.int .i64 ((1+dpH h+1:Nat):Int)]:=by
  rw[bx',if_neg (by omega),if_neg (by omega),if_neg (by omega),hbox];simp only;rw[if_neg (by omega),if_neg (by omega),if_pos trivial]
 have kb0:st'.box st.nb= .map []:=by
  rw[bx',if_neg (by omega),if_neg (by omega),if_neg (by omega),hbox];simp only;rw[if_neg (by omega),if_neg (by omega),if_neg (by omega),if_pos trivial]
 have kb2:st'.box (st.nb+2)= .cells (.box (st.nb+1) 0:: .nilSlice::(z13++[.int .i64 0])):=by
  rw[bx',if_neg (by omega),if_neg (by omega),if_pos rfl]
 have eN:A3 (1+dpH h) (.opn (AN ⟨st.nb+1,st.nb,st.nb+2⟩ false))=[⟨st.nb+1,st.nb,false,1+dpH h+1,[]⟩]:=by
  rw[A3,AN,shT,BR];rfl
 rw[eN]at ht'
 have bN:bxL [⟨st.nb+1,st.nb,false,1+dpH h+1,[]⟩]=[st.nb+1,st.nb]:=rfl
 let σ':Nat->TV:=fun x=>if x=t.b then kv' else if x<st.nb then σ x else .nilSlice
 have s1:σ' t.b=kv':=if_pos rfl
 have s2:∀x,x<st.nb->x≠t.b->σ' x=σ x:=fun x h1 h2=>by simp only[σ'];rw[if_neg h2,if_pos h1]
 have s3:∀x,st.nb<=x->σ' x= .nilSlice:=fun x h1=>by simp only[σ'];rw[if_neg (by omega),if_neg (by omega)]
 have HP':HP σ' st' (A++((⟨t.b,t.m,t.hd,1+dpH h,t.es.map shK++[(k,st.nb+2,.opn (st.nb+1))]⟩::(BR (1+dpH h) t.es++[⟨st.nb+1,st.nb,false,1+dpH h+1,[]⟩]))++B)):=by
  refine HP.add hp (by omega) (fun x hx h2 h3=>?_) (fun x hx hne id hid=>?_) ?_ ?_ ⟨mp,hm1,?_⟩ (s2 _ ltm hmt) ?_ ⟨kb2,by rw[s3 _ (by omega)];rfl⟩ (fun s' hs'=>?_) ?_ (fun x hx=>?_) (fun x hx id hid=>?_) fun x hx y hy hne id g1 g2=>?_
  ·exact⟨k2 x (hp.lt x hx) (fun e=>bx (e▸hx)) (fun e=>ux (e▸hx)) h2 h3,s2 x (hp.lt x hx) h2⟩
  ·have hq:=hp.tip x hx id hid
   refine⟨by omega,?_⟩
   rw[lv' id hq.1 fun e=>hp.td x hx t.b itb hne id hid e]
   exact hq.2
  ·rw[s1,bx',if_neg (Ne.symm hmt),if_pos rfl]
  ·rw[s1];simp only[List.map_append]at r1⊢;exact r1
  ·rw[bx',if_pos rfl]
  ·rw[F8,hl];rfl
  ·rw[List.mem_singleton.1 hs']
   have s4:σ' (st.nb+1)= .nilSlice:=s3 _ (by omega)
   exact⟨by show st'.box (st.nb+1)= .cells [σ' (st.nb+1),_,_];rw[s4];exact kb1,by show C5 (σ' (st.nb+1)) _;rw[s4];exact C5.nil,⟨[],kb0,fun _=>rfl⟩,fun x hx=>by cases hx⟩
  ·rw[bN];simp
  ·rw[bN]at hx
   rcases List.mem_cons.1 hx with rfl | hx
   ·omega
   ·rcases List.mem_cons.1 hx with rfl | hx
    ·omega
    ·rw[List.mem_singleton.1 hx];omega
  ·by_cases hxb:x=t.b
   ·rw[hxb,s1,tip'.1]at hid
    cases hid
    exact⟨Nat.le_refl _,by omega,tip'.2⟩
   ·rw[s3 x ?_]at hid
    ·cases hid
    ·rw[bN]at hx
     rcases List.mem_cons.1 hx with h1 | hx
     ·exact absurd h1 hxb
     ·rcases List.mem_cons.1 hx with rfl | hx
      ·omega
      ·rcases List.mem_cons.1 hx with rfl | hx
       ·omega
       ·rw[List.mem_singleton.1 hx];exact Nat.le_refl _
  ·have nn:∀{z},z∈t.b::(st.nb+2)::bxL [⟨st.nb+1,st.nb,false,1+dpH h+1,[]⟩]->z≠t.b->st.nb<=z:=fun {z} hz hne=>by
    rw[bN]at hz
    rcases List.mem_cons.1 hz with h1 | hz
    ·exact absurd h1 hne
    ·rcases List.mem_cons.1 hz with rfl | hz
     ·omega
     ·rcases List.mem_cons.1 hz with rfl | hz
      ·omega
      ·rw[List.mem_singleton.1 hz];exact Nat.le_refl _
   by_cases hxb:x=t.b
   ·have:=nn hy (fun e=>hne (hxb.trans e.symm))
    rw[s3 y this]at g2;cases g2
   ·rw[s3 x (nn hx hxb)]at g1;cases g1
 have memb:∀x,x∈bxL (A++((⟨t.b,t.m,t.hd,1+dpH h,t.es.map shK++[(k,st.nb+2,.opn (st.nb+1))]⟩::(BR (1+dpH h) t.es++[⟨st.nb+1,st.nb,false,1+dpH h+1,[]⟩]))++B))->
   x∈bxL (A++((⟨t.b,t.m,t.hd,1+dpH h,t.es.map shK⟩::BR (1+dpH h) t.es)++B))∨st.nb<=x:=fun x hx=>by
  rcases QI (s:=⟨t.b,t.m,t.hd,1+dpH h,t.es.map shK⟩) (eb:=st.nb+2) (by simp[bxS]) hx with h1 | h1 | h1
  ·exact .inl h1
  ·exact .inr (by omega)
  ·rw[bN]at h1
   rcases List.mem_cons.1 h1 with rfl | h1
   ·exact .inr (by omega)
   ·rw[List.mem_singleton.1 h1];exact .inr (Nat.le_refl _)
 have fdo:∀s,s∈A++((⟨t.b,t.m,t.hd,1+dpH h,t.es.map shK⟩::BR (1+dpH h) t.es)++B)->BA s.b (Ex (st.nb+1) (.bool true) up)=if s.hd=true then none else some (.bool true):=fun s hs=>by
  have hlt:s.b<st.nb:=hp.lt _ (Bh hs (.head _))
  rw[D3,if_neg (by omega)]
  refine hup.fd s ?_
  rw[e1];exact hs
 refine hk ⟨st.nb+1,st.nb,st.nb+2⟩ σ' st1 st' hnb.symm ⟨by rw[ht'];exact HP',by rw[Fi h (x:=A8 t k (st.nb+2) (.opn (AN ⟨st.nb+1,st.nb,st.nb+2⟩ false))) hA rfl,kbb];simp,⟨_,kub,?_,fun p hp'=>?_,fun s hs=>?_⟩,by omega,by omega,fun hx=>?_,fun hx=>?_⟩
 ·rw[HA _ _ _ fun p hp' e=>by have:=(hup.ok p hp').2;omega]
  refine List.nodup_append.2 ⟨hup.nd,by simp,fun x hx y hy e=>?_⟩
  obtain⟨p,hp',rfl⟩:=List.mem_map.1 hx
  have:=(hup.ok p hp').2
  rw[List.mem_singleton.1 hy]at e
  omega
 ·rcases IV _ _ _ p hp' with rfl | hp'
  ·exact⟨by simp[Ao,kb1],by show st.nb+1<st'.nb;omega⟩
  ·obtain⟨q1,q2⟩:=hup.ok p hp'
   refine⟨?_,by omega⟩
   by_cases c1:p.1=t.m
   ·have hm1':st.box t.m= .map mp:=hm1
    rw[c1]at q1;simp[Ao,hm1']at q1
   ·by_cases c2:p.1=t.b
    ·rw[c2];simp only[Ao,bx',if_neg (Ne.symm hmt),if_pos trivial]
    ·by_cases c3:p.1=bb
     ·rw[c3];simp[Ao,kbb]
     ·by_cases c4:p.1=ub
      ·rw[c4]at q1;simp[Ao,hup.box]at q1
      ·simp only[Ao,k2 _ q2 c3 c4 c2 c1]at q1⊢;exact q1
 ·rw[ht']at hs
  rcases List.mem_append.1 hs with h1 | h1
  ·exact fdo s (List.mem_append_left _ h1)
  ·rcases List.mem_append.1 h1 with h1 | h1
   ·rcases List.mem_cons.1 h1 with rfl | h1
    ·exact fdo ⟨t.b,t.m,t.hd,1+dpH h,t.es.map shK⟩ (List.mem_append_right _ (List.mem_append_left _ (.head _)))
    ·rcases List.mem_append.1 h1 with h1 | h1
     ·exact fdo s (List.mem_append_right _ (List.mem_append_left _ (.tail _ h1)))
     ·rw[List.mem_singleton.1 h1,D3,if_pos rfl];rfl
   ·exact fdo s (List.mem_append_right _ (List.mem_append_right _ h1))
 ·rw[ht']at hx
  rcases memb bb hx with h1 | h1
  ·exact bx h1
  ·omega
 ·rw[ht']at hx
  rcases memb ub hx with h1 | h1
  ·exact ux h1
  ·omega
section
theorem Iw {hd:Bool}:∀(ks:List B8) {nu nu':Nat->Nu} (j:Nat) (T:Tb) (h:List Hop),(∀i,j<=i->i<j+ks.length->nu i=nu' i)->Ct nu hd j T h ks=Ct nu' hd j T h ks
 | [],_,_,_,_,_,_=>rfl
 | k::ks,nu,nu',j,T,h,he=>by
  unfold Ct
  rw[he j (Nat.le_refl _) (by simp only[List.length_cons];omega)]
  cases FD (nu' j) hd T h k with
  | none=>rfl
  | some p=>exact Iw ks (j+1) p.1 p.2 fun i h1 h2=>he i (by omega) (by simp only[List.length_cons];omega)
theorem MH {nu:Nat->Nu} {hd:Bool}:∀(ks:List B8) (j:Nat) (T:Tb) (h:List Hop) (k:B8),Ct nu hd j T h (ks++[k])=(Ct nu hd j T h ks).bind fun p=>FD (nu (j+ks.length)) hd p.1 p.2 k
 | [],j,T,h,k=>by
  simp only[List.nil_append,Ct,Option.bind_some,List.length_nil,Nat.add_zero]
  cases FD (nu j) hd T h k with
  | none=>rfl
  | some p=>rfl
 | a::ks,j,T,h,k=>by
  rw[List.cons_append]
  unfold Ct
  cases FD (nu j) hd T h a with
  | none=>rfl
  | some p=>
   simp only
   rw[MH ks (j+1) p.1 p.2 k,List.length_cons,show j+1+ks.length=j+(ks.length+1) by omega]
theorem JP {nu:Nat->Nu} {hd:Bool}:∀(ks rs:List B8) (j:Nat) (T:Tb) (h:List Hop),Ct nu hd j T h ks=none->Ct nu hd j T h (ks++rs)=none
 | [],rs,j,T,h,hn=>by unfold Ct at hn;cases hn
 | a::ks,rs,j,T,h,hn=>by
  rw[List.cons_append]
  unfold Ct at hn⊢
  cases hh:FD (nu j) hd T h a with
  | none=>rfl
  | some p=>
   rw[hh]at hn
   exact JP ks rs (j+1) p.1 p.2 hn
def J6 (nu:Nat->Nu) (j:Nat) (x:Nu):Nat->Nu:=fun i=>if i=j then x else nu i
theorem SX {nu:Nat->Nu} {hd:Bool} {ks:List B8} {T:Tb} {h:List Hop} {x:Nu}:Ct (J6 nu ks.length x) hd 0 T h ks=Ct nu hd 0 T h ks:=
 Iw ks 0 T h fun i _ h2=>by unfold J6;rw[if_neg (by omega)]
theorem LI {T t:Tb} {h:List Hop} {k:B8} {nu:Nu} {hd:Bool} (hA:atT T h=some t) (hl:Am k t.es=none):atT (AK T h (A8 t k nu.eb (.opn (AN nu hd)))) (h++[(k,none)])=some (AN nu hd):=by
 rw[HL,DM h hA]
 show atT (A8 t k nu.eb (.opn (AN nu hd))) [(k,none)]=_
 have:=I9 (t:=t) (k:=k) (k2:=k) (eb:=nu.eb) (e:= .opn (AN nu hd)) hl
 rw[if_pos rfl]at this
 unfold A8 at this⊢
 rw[atT]
 simp only[Tb.es]at this⊢
 rw[this]
 rfl
theorem NT {T t u:Tb} {h:List Hop} {k:B8} {eb:Nat} (hA:atT T h=some t) (hl:Am k t.es=some (eb,.opn u)):atT T (h++[(k,none)])=some u:=by
 rw[HL,hA]
 obtain⟨b,m,hd,es⟩:=t
 show atT (.mk b m hd es) [(k,none)]=_
 rw[atT]
 simp only[Tb.es]at hl
 rw[hl]
 cases u;rfl
theorem JZ {T t u:Tb} {h:List Hop} {k:B8} {eb i:Nat} {l:List Tb} (hA:atT T h=some t) (hl:Am k t.es=some (eb,.lst l)) (hi:l[i]? =some u):atT T (h++[(k,some i)])=some u:=by
 rw[HL,hA]
 obtain⟨b,m,hd,es⟩:=t
 show atT (.mk b m hd es) [(k,some i)]=_
 rw[atT]
 simp only[Tb.es]at hl
 rw[hl]
 simp only[hi]
 cases u;rfl
section
variable {bb ub:Nat} {now:TV} {T t:Tb} {nodes:Nat} {σ:Nat->TV} {st:St} {h:List Hop}
theorem BH.tab (H:BH bb ub now T nodes σ st) (hA:atT T h=some t):LN σ st ⟨t.b,t.m,t.hd,1+dpH h,t.es.map shK⟩/\(⟨t.b,t.m,t.hd,1+dpH h,t.es.map shK⟩:Sh)∈shT 1 T:=by
 obtain⟨A,B,e1,_⟩:=HR h hA 1
 rw[Es (1+dpH h) t]at e1
 have hm:(⟨t.b,t.m,t.hd,1+dpH h,t.es.map shK⟩:Sh)∈shT 1 T:=by
  rw[e1];exact List.mem_append_right A (List.mem_append_left B (List.mem_cons_self ..))
 exact⟨H.hp.sh _ hm,hm⟩
theorem BH.ldm (H:BH bb ub now T nodes σ st) (hA:atT T h=some t) {f:TV->Prop} (hf:f (.map t.m)):Ai (Ac st [] (.t (.box t.b 1)) 0) f:=by
 have:=(H.tab hA).1.cell
 refine Ad (x:= .map t.m) ?_ hf
 simp only at this
 simp only[Ac,this]
 rfl
theorem BH.ldd (H:BH bb ub now T nodes σ st) (hA:atT T h=some t) {f:TV->Prop} (hf:f (.int .i64 ((1+dpH h:Nat):Int))):Ai (Ac st [] (.t (.box t.b 2)) 0) f:=by
 have:=(H.tab hA).1.cell
 refine Ad (x:= .int .i64 ((1+dpH h:Nat):Int)) ?_ hf
 simp only at this
 simp only[Ac,this]
 rfl
theorem BH.map (H:BH bb ub now T nodes σ st) (hA:atT T h=some t) {f:List (B8×TV)->Prop} (hf:∀es,(∀k,Aw k es=(Am k t.es).map fun p=> .box p.1 0)->f es):Ai (Et st (.map t.m)) f:=by
 obtain⟨mp,h1,h2⟩:=(H.tab hA).1.mp
 refine Ad (x:=mp) ?_ (hf mp fun k=>?_)
 ·simp only at h1
  simp only[Et,h1]
 ·rw[h2 k,F8]
  cases Am k t.es<;>rfl
theorem BH.ent (H:BH bb ub now T nodes σ st) (hA:atT T h=some t) {k:B8} {eb:Nat} {e:En} (hl:Am k t.es=some (eb,e)):Kq σ st eb (shE e):=
 (H.tab hA).1.en (k,eb,shE e) (List.mem_map.2 ⟨.mk k eb e,HG hl,rfl⟩)
theorem BH.ent0 (H:BH bb ub now T nodes σ st) (hA:atT T h=some t) {k:B8} {eb:Nat} {e:En} (hl:Am k t.es=some (eb,e)) {f:TV->Prop} (hf:f (match e with | .opn u=> .box u.b 0 | _=> .nilPtr)):Ai (Ac st [] (.t (.box eb 0)) 0) f:=by
 have:=H.ent hA hl
 cases e with
 | opn u=>
  obtain⟨h1,_⟩:=this
  exact Ad (by simp only[Ac,h1];rfl) hf
 | lst l=>
  obtain⟨_,_,h1⟩:=this
  exact Ad (by simp only[Ac,h1];rfl) hf
 | clo v i=>
  obtain⟨cs,_,_,h1,_⟩:=this
  exact Ad (by simp only[Ac,h1];rfl) hf
def Oy:En->List TV
 | .lst l=>l.map fun t=> .box t.b 0
 | _=>[]
theorem BH.ent1 (H:BH bb ub now T nodes σ st) (hA:atT T h=some t) {k:B8} {eb:Nat} {e:En} (hl:Am k t.es=some (eb,e)) {f:TV->Prop} (hf:∀v,C5 v (Oy e)->f v):Ai (Ac st [] (.t (.box eb 1)) 0) f:=by
 have:=H.ent hA hl
 cases e with
 | opn u=>
  obtain⟨h1,_⟩:=this
  exact Ad (by simp only[Ac,h1];rfl) (hf _ C5.nil)
 | lst l=>
  obtain⟨h0,_,h1⟩:=this
  refine Ad (x:=σ eb) (by simp only[Ac,h1];rfl) (hf _ ?_)
  rw[List.map_map]at h0
  exact h0
 | clo v i=>
  obtain⟨cs,_,_,h1,_⟩:=this
  exact Ad (by simp only[Ac,h1];rfl) (hf _ C5.nil)
end
theorem C5.get {v:TV} {xs:List TV} (h:C5 v xs) {st:St} {i:Nat} {x:TV} (hx:xs[i]? =some x) {f:TV->Prop} (hf:f x):Ai (Ac st [] (.t (ixT 1 v i)) 0) f:=by
 rcases h with⟨rfl,rfl⟩ | ⟨tip,rfl,_⟩
 ·simp at hx
 ·refine Ad (x:=x) ?_ hf
  simp only[ixT,Ac,Nat.mul_one,List.getElem?_drop,Nat.add_zero]
  exact hx
end
section
mutual
theorem JM:∀v:Vl,lvV v<=v.cnt
 | .mk s l f=>by
  have:=QK l
  have:=QL f
  unfold lvV Vl.cnt;omega
theorem QK:∀l:List Vl,CN l<=Az l
 | []=>by unfold CN Az;omega
 | v::r=>by
  have:=JM v
  have:=QK r
  unfold CN Az;omega
theorem lvd_cnt:∀d:Fd,lvD d<=d.cnt
 | .mk k v=>by unfold lvD Fd.cnt;exact JM v
theorem QL:∀l:List Fd,Cz l<=Ay l
 | []=>by unfold Cz Ay;omega
 | d::r=>by
  have:=lvd_cnt d
  have:=QL r
  unfold Cz Ay;omega
end
theorem Lv {T t:Tb} {h:List Hop} (hA:atT T h=some t):dpH h<=(Af T).cnt:=by
 have:=(DK h hA t).lvu
 have:=JM (Af T)
 omega
theorem KA {T t:Tb} {h:List Hop} {k:B8} {eb:Nat} {e:En} (hA:atT T h=some t):(Af (AK T h (A8 t k eb e))).cnt=(Af T).cnt+(AQ e).cnt:=by
 have h1:=(DK h hA (A8 t k eb e)).cnt
 have h2:=KB t k eb e
 omega
theorem E8 (nu:Nu) (hd:Bool):(AQ (.opn (AN nu hd))).cnt=1:=by
 rw[AQ,AN,Af,AO];simp[Vl.cnt,Az,Ay]
theorem ND:∀l:List Tb,l.length<=Az (Br l)
 | []=>by simp
 | t::r=>by
  have:=ND r
  have h1:1<=(Af t).cnt:=by cases Af t;unfold Vl.cnt;omega
  rw[Br,Az,List.length_cons];omega
theorem SH {t:Tb} {k:B8} {eb:Nat} {l:List Tb} (h:Am k t.es=some (eb,.lst l)):l.length<=(Af t).cnt:=by
 obtain⟨F,G,h1,_⟩:=DY h
 rw[Fx,h1]
 have:=ND l
 simp only[Vl.cnt,EL,Ay,Fd.cnt,AQ]
 omega
theorem D0 {ks:List B8} {j:Nat} (h:j<ks.length):(ks.map TV.str)[j]? =some (.str (ks.getD j [])):=by
 rw[List.getElem?_map,List.getElem?_eq_getElem h,List.getD_eq_getElem?_getD,List.getElem?_eq_getElem h];rfl
theorem Hb {ks:List B8} {j:Nat} (h:j<ks.length):ks.take (j+1)=ks.take j++[ks.getD j []]:=by
 rw[List.take_add_one,List.getElem?_eq_getElem h,List.getD_eq_getElem?_getD,List.getElem?_eq_getElem h];rfl
theorem TB {bb ub:Nat} {now:TV} {T t:Tb} {σ:Nat->TV} {st:St} {h:List Hop} {ks:List B8} {a_0 a_1 a_4 a_5:Bool} {a_2 a_13 a_14 a_15:TV} {a_3 a_7 a_8 a_9 a_10 a_11:Int} {a_6 a_12:B8} {K:TV->Bool->St->Prop}
  (H:BH bb ub now T (Af T).cnt σ st) (hA:atT T h=some t) (hr:Rd 1 a_2 ks.length (ks.map TV.str)) (hks:ks≠ []) (hc:(Af T).cnt+ks.length<=800000)
  (hk1:∀nu T' h' t' σ' st',Ct nu a_0 0 T h ks.dropLast=some (T',h')->atT T' h'=some t'->BH bb ub now T' (Af T').cnt σ' st'->(Af T').cnt+1<=(Af T).cnt+ks.length->K (.box t'.b 0) true st')
  (hk2:∀nu st',Ct nu a_0 0 T h ks.dropLast=none->K .nilPtr false st'):
  CallT PR B7 [.box bb 0,.box t.b 0,.agg [.bool a_0,.bool a_1,a_2,.int .i64 a_3,.bool a_4,.bool a_5,.str a_6,.int .i64 a_7,.int .i64 a_8,.int .i64 a_9,.int .i64 a_10,.int .i64 a_11,.str a_12,a_13,a_14,a_15]] [.one .tv,.one .bool] st K:=by
 obtain⟨ks',kl,rfl⟩:∃ks' kl,ks=ks'++[kl]:=⟨ks.dropLast,ks.getLast hks,(List.dropLast_concat_getLast hks).symm⟩
 rw[List.dropLast_concat]at hk1 hk2
 rcases hr with⟨_,h0,_⟩ | ⟨tip,rfl⟩
 ·simp at h0
 rw[List.length_append,List.length_singleton]at hc hk1
 have hw:IntKind.wrap .i64 ((lenS (.list 1 tip (ks'++[kl]).length ((ks'++[kl]).map TV.str)):Int)-1)=(ks'.length:Int):=by
  rw[Aj _ (by simp[lenS]<;>omega) (by simp[lenS]<;>omega)];simp[lenS]
 have hv:slT 1 .non (.list 1 tip (ks'++[kl]).length ((ks'++[kl]).map TV.str)) 0 (Int.toNat (ks'.length:Int))= .list 1 .non ks'.length (ks'.map TV.str):=by
  simp only[slT,Int.toNat_natCast,Nat.sub_zero,Nat.mul_one,Nat.zero_mul,List.drop_zero,List.map_append]
  rw[List.take_left' (by simp)]
 refine Fv bb t.b a_0 a_1 _ a_3 a_4 a_5 a_6 a_7 a_8 a_9 a_10 a_11 a_12 a_13 a_14 a_15 st K (Aa rfl ?_)
 rw[hw,hv]
 refine⟨⟨rfl,by omega,by simp[lenS]<;>omega⟩,Aa rfl ?_⟩
 refine⟨fun t_1 n_1 b_1 v_1 n_2 b1 _ _ _ _ _ _ _ _ _ _ _ _ _ _ _ st1=>∃(j:Nat) (nu:Nat->Nu) (T':Tb) (h':List Hop) (t':Tb) (σ':Nat->TV),n_1=(j:Int)/\j<=ks'.length/\t_1= .box t'.b 0/\b_1= .box bb 0/\
   v_1= .list 1 .non ks'.length (ks'.map TV.str)/\n_2=(ks'.length:Int)/\b1=a_0/\Ct nu a_0 0 T h (ks'.take j)=some (T',h')/\atT T' h'=some t'/\BH bb ub now T' (Af T').cnt σ' st1/\(Af T').cnt<=(Af T).cnt+j,
  fun _ n_1 _ _ _ _ _ _ _ _ _ _ _ _ _ _ _ _ _ _ _ _=>ks'.length-n_1.toNat,⟨0,fun _=>⟨0,0,0⟩,T,h,t,σ,rfl,Nat.zero_le _,rfl,rfl,rfl,rfl,rfl,rfl,hA,H,by omega⟩,?_⟩
 rintro t_1 n_1 b_1 v_1 n_2 b1 b2 v1 n1 b3 b4 s1 n2 n3 n4 n5 n6 s2 v2 v3 v4 st1 ⟨j,nu,T',h',t',σ',rfl,hj,rfl,rfl,rfl,rfl,rfl,hh,hA',H',hc'⟩
 refine Ab (fun hlt=>?_) fun hge=>?_
 ·have hlt:j<ks'.length:=by omega
  have hwj:IntKind.wrap .i64 ((j:Int)+1)=((j+1:Nat):Int):=by rw[Aj _ (by omega) (by omega)];simp
  have hdp:=Lv hA'
  have hlen:(ks'.take j).length=j:=by rw[List.length_take];omega
  have hsn:∀nu',Ct nu' b1 0 T h (ks'.take j)=some (T',h')->Ct nu' b1 0 T h (ks'.take (j+1))=FD (nu' j) b1 T' h' (ks'.getD j []):=fun nu' hh'=>by
   rw[Hb hlt,MH,hh',hlen];simp
  refine⟨⟨by omega,by show(j:Int)<(ks'.length:Int);omega⟩,?_⟩
  refine Ad (x:= .str (ks'.getD j [])) ?_ ?_
  ·have:=D0 hlt
   simp only[ixT,Ac,Int.toNat_natCast,Nat.mul_one,List.getElem?_drop,Nat.add_zero]
   exact this
  refine Dk (Aa rfl (Aa rfl (H'.ldm hA' (H'.map hA' fun es hes=>?_))))
  rw[hes (ks'.getD j [])]
  have hh1:=hsn nu hh
  unfold FD at hh1
  rw[hA']at hh1
  simp only at hh1
  rw[hwj]
  have step:∀{u:Tb} {o:Option Nat},Ct nu b1 0 T h (ks'.take (j+1))=some (T',h'++[(ks'.getD j [],o)])->atT T' (h'++[(ks'.getD j [],o)])=some u->
    (∃(j':Nat) (nu:Nat->Nu) (T'':Tb) (h'':List Hop) (t'':Tb) (σ'':Nat->TV),((j+1:Nat):Int)=(j':Int)/\j'<=ks'.length/\(TV.box u.b 0)= .box t''.b 0/\(TV.box bb 0)= .box bb 0/\
     (TV.list 1 .non ks'.length (ks'.map TV.str))= .list 1 .non ks'.length (ks'.map TV.str)/\(ks'.length:Int)=(ks'.length:Int)/\b1=b1/\Ct nu b1 0 T h (ks'.take j')=some (T'',h'')/\atT T'' h''=some t''/\BH bb ub now T'' (Af T'').cnt σ'' st1/\(Af T'').cnt<=(Af T).cnt+j')/\
    ks'.length-((j+1:Nat):Int).toNat<ks'.length-((j:Nat):Int).toNat:=fun {u o} q1 q2=>
   ⟨⟨j+1,nu,T',_,u,σ',rfl,hlt,rfl,rfl,rfl,rfl,rfl,q1,q2,H',by omega⟩,by simp only[Int.toNat_natCast];omega⟩
  rcases hl:Am (ks'.getD j []) t'.es with _ | ⟨eb,e⟩
  ·rw[Option.map_none]
   refine Aa rfl (show need _ _ from Aa rfl (Aa rfl (H'.ldd hA' (Cj ?_))))
   have hwd:IntKind.wrap .i64 (((1+dpH h':Nat):Int)+1)=((1+dpH h'+1:Nat):Int):=by rw[Aj _ (by omega) (by omega)];simp
   rw[hwd]
   refine OG H' hA' hl (by omega) rfl (fun nu1 σ'' st2 st' he H''=>?_)
   have hq:Ct (J6 nu j nu1) b1 0 T h (ks'.take j)=some (T',h'):=by
    have:=SX (nu:=nu) (hd:=b1) (ks:=ks'.take j) (T:=T) (h:=h) (x:=nu1)
    rw[hlen]at this
    rw[this,hh]
   have hq1:=hsn _ hq
   have hnj:J6 nu j nu1 j=nu1:=by unfold J6;rw[if_pos rfl]
   rw[hnj]at hq1
   unfold FD at hq1
   rw[hA']at hq1
   simp only[hl]at hq1
   have hcn:=KA (k:=ks'.getD j []) (eb:=nu1.eb) (e:= .opn (AN nu1 false)) hA'
   rw[E8]at hcn
   rw[<-hcn]at H''
   exact⟨⟨j+1,_,_,_,AN nu1 false,σ'',rfl,hlt,rfl,rfl,rfl,rfl,rfl,hq1,LI hA' hl,H'',by omega⟩,by simp only[Int.toNat_natCast];omega⟩
  ·rw[Option.map_some]
   rw[hl]at hh1
   refine Aa rfl (show need _ _ from Aa rfl (Aa rfl (H'.ent0 hA' hl ?_)))
   cases e with
   | opn u=>
    simp only at hh1
    refine Aa rfl (show need _ _ from Aa rfl (Aa rfl (H'.ent0 hA' hl ?_)))
    exact step hh1 (NT hA' hl)
   | lst l=>
    refine Aa rfl (show need _ _ from Aa rfl (Aa rfl (H'.ent1 hA' hl fun v hv=>?_)))
    have hvl:lenS v=l.length:=by rw[hv.len];simp[Oy]
    have hne:l≠ []:=by have:=(H'.ent hA' hl).2.1;intro e;rw[e]at this;exact this rfl
    have hlp:0<l.length:=List.length_pos_iff.2 hne
    refine Aa hv.sl ?_
    rw[hvl]
    refine Ab (fun _=>?_) fun hb=>absurd (by omega) hb
    simp only at hh1
    cases b1 with
    | false=>exact hk2 nu st1 (by
      rw[if_neg (by simp)]at hh1
      have:=JP (ks'.take (j+1)) (ks'.drop (j+1)) 0 T h hh1
      rwa [List.take_append_drop]at this)
    | true=>
     rw[if_pos rfl]at hh1
     refine As (fun _=>?_) (fun hb=>by cases hb)
     refine Aa rfl (Aa rfl (H'.ent1 hA' hl fun v' hv'=>Aa rfl (Aa rfl (H'.ent1 hA' hl fun v2' hv2=>Aa hv2.sl ?_))))
     have hll:l.length<=(Af T').cnt:=by
      have:=SH hl
      have:=(Q9 hA').1
      omega
     have hwl:IntKind.wrap .i64 ((lenS v2':Int)-1)=((l.length-1:Nat):Int):=by
      rw[hv2.len,Aj _ (by simp[Oy];omega) (by simp[Oy];omega)];simp[Oy];omega
     rw[hwl]
     have hu:l[l.length-1]? =some (l.getD (l.length-1) (.mk 0 0 false [])):=by
      rw[List.getD_eq_getElem?_getD,List.getElem?_eq_getElem (by omega)];rfl
     refine⟨⟨by omega,by rw[hv'.lenZ];simp[Oy];omega⟩,?_⟩
     rw[Int.toNat_natCast]
     refine hv'.get (x:= .box (l.getD (l.length-1) (.mk 0 0 false [])).b 0) ?_ ?_
     ·simp only[Oy,List.getElem?_map,hu];rfl
     ·exact step hh1 (JZ hA' hl hu)
   | clo w i=>
    refine Aa rfl (show need _ _ from Aa rfl (Aa rfl (H'.ent1 hA' hl fun v hv=>Aa hv.sl ?_)))
    have hvl:lenS v=0:=by rw[hv.len];rfl
    rw[hvl]
    refine Ab (fun hb=>absurd hb (by omega)) fun _=>?_
    simp only at hh1
    exact hk2 nu st1 (by
     have:=JP (ks'.take (j+1)) (ks'.drop (j+1)) 0 T h hh1
     rwa [List.take_append_drop]at this)
 ·have:j=ks'.length:=by omega
  subst this
  rw[List.take_length]at hh
  exact hk1 nu T' h' t' σ' st1 hh hA' H' (by omega)
end
theorem sh_head (d:Nat) (u:Tb):shT d (CQ u)=⟨u.b,u.m,true,d,u.es.map shK⟩::BR d u.es:=by cases u;rfl
theorem P3 (u:Tb):(CQ u).b=u.b:=by cases u;rfl
theorem HP.same {σ:Nat->TV} {st st':St} {L:List Sh} (h:HP σ st L) (hnb:st.nb<=st'.nb) (hb:∀x,x∈bxL L->st'.box x=st.box x) (hl:∀id,id<st.nt->st.live id=true->id<st'.nt/\st'.live id=true):HP σ st' L:=
 ⟨h.nd,fun x hx=>Nat.lt_of_lt_of_le (h.lt x hx) hnb,fun s hs=>(h.sh s hs).fr fun x hx=>⟨hb x (Bh hs hx),rfl⟩,fun x hx id hid=>hl id (h.tip x hx id hid).1 (h.tip x hx id hid).2,h.td⟩
theorem HP.hd {σ:Nat->TV} {st:St} {A R B:List Sh} {s:Sh} {x:Bool} (h:HP σ st (A++((s::R)++B))):HP σ st (A++((⟨s.b,s.m,x,s.d,s.es⟩::R)++B)):=by
 have e:bxL (A++((⟨s.b,s.m,x,s.d,s.es⟩::R)++B))=bxL (A++((s::R)++B)):=by
  rw[AF,AF,AX,AF,AF,AX];rfl
 refine⟨by rw[e];exact h.nd,by rw[e];exact h.lt,fun s' hs'=>?_,by rw[e];exact h.tip,by rw[e];exact h.td⟩
 rcases List.mem_append.1 hs' with h1 | h1
 ·exact h.sh s' (List.mem_append_left _ h1)
 ·rcases List.mem_append.1 h1 with h1 | h1
  ·rcases List.mem_cons.1 h1 with rfl | h1
   ·have:=h.sh s (List.mem_append_right _ (List.mem_append_left _ (.head _)))
    exact⟨this.cell,this.row,this.mp,this.en⟩
   ·exact h.sh s' (List.mem_append_right _ (List.mem_append_left _ (.tail _ h1)))
  ·exact h.sh s' (List.mem_append_right _ (List.mem_append_right _ h1))
theorem BH.bu {bb ub:Nat} {now:TV} {T:Tb} {nodes:Nat} {σ:Nat->TV} {st:St} (H:BH bb ub now T nodes σ st):bb≠ub:=fun e=>by
 obtain⟨up,hup⟩:=H.un
 have:=H.cell;rw[e,hup.box]at this;cases this
theorem BH.plook {bb ub:Nat} {now:TV} {T u:Tb} {nodes:Nat} {σ:Nat->TV} {st:St} {h:List Hop} (H:BH bb ub now T nodes σ st) (hA:atT T h=some u) {f:TV->Prop} (hf:f (.bool !u.hd)):
  Ai (plook st (.map ub) (.box u.b 0) false (.bool false)) f:=by
 obtain⟨up,hup⟩:=H.un
 obtain⟨hS,hm⟩:=H.tab hA
 have hc:Ao st u.b=true:=by have:=hS.cell;simp only at this;simp[Ao,this]
 have hg:=JH hup.box (fun p hp=>(hup.ok p hp).1) hc
 refine Ad (x:= .bool !u.hd) ?_ hf
 unfold Go.TVF.plook
 rw[hg]
 have:=hup.fd _ hm
 simp only at this
 simp only[Option.map_some,this]
 cases u.hd<;>rfl
theorem QW {bb ub eb:Nat} {now:TV} {T u:Tb} {nodes:Nat} {σ:Nat->TV} {st:St} {h:List Hop} (H:BH bb ub now T nodes σ st) (hA:atT T h=some u) {r:List TV} (he:st.box eb= .cells (.box u.b 0::r)) {K:St->Prop}
  (hk:∀st',BH bb ub (.box u.b 0) (AK T h (CQ u)) nodes σ st'->K st'):
  pdK (.map ub) (.box u.b 0) st fun st3=>Ai (Ac st3 [] (.t (.box eb 0)) 0) fun v8=>need (List.all [v8] Aq) (stB st3 (.box bb 1) [v8] K):=by
 obtain⟨up,hup⟩:=H.un
 obtain⟨hS,hm⟩:=H.tab hA
 have hc:Ao st u.b=true:=by have:=hS.cell;simp only at this;simp[Ao,this]
 have hg:=JH hup.box (fun p hp=>(hup.ok p hp).1) hc
 have hue:eb≠ub:=fun e=>by rw[e,hup.box]at he;cases he
 have hbu:=H.bu
 refine Ad hg ?_
 refine Ad (x:= .box u.b 0) (by simp[Ac,St.put,Hm,hue,he]) (Aa rfl ?_)
 refine⟨[.box T.b 0,now,.map ub,.int .i64 nodes],by simp[St.put,Hm,hbu,H.cell],by simp,?_⟩
 obtain⟨A,B,e1,e2⟩:=HR h hA 1
 have e3:=e2 (CQ u) (P3 u)
 rw[Es (1+dpH h) u]at e1
 rw[sh_head]at e3
 have hp:=H.hp
 rw[e1]at hp
 have bx:=H.bx
 have ux:=H.ux
 have hbl:=H.bl
 have hul:=H.ul
 have eb':bxL (shT 1 (AK T h (CQ u)))=bxL (shT 1 T):=by
  rw[e1,e3,AF,AF,AX,AF,AF,AX];rfl
 have kb:∀x,x≠bb->x≠ub->((st.put ub (.pmap (GG u.b up))).put bb (.cells (setAll [.box T.b 0,now,.map ub,.int .i64 nodes] 1 [.box u.b 0]))).box x=st.box x:=fun x h1 h2=>by simp[St.put,h1,h2]
 have fdo:∀s,s∈A++((⟨u.b,u.m,u.hd,1+dpH h,u.es.map shK⟩::BR (1+dpH h) u.es)++B)->s.b≠u.b->BA s.b (GG u.b up)=if s.hd=true then none else some (.bool true):=fun s hs hne=>by
  rw[JT _ _ _ hup.nd,if_neg hne]
  refine hup.fd s ?_
  rw[e1];exact hs
 obtain⟨n1,n2,n3⟩:=I8 hp.nd
 have hub:u.b∈bxL (⟨u.b,u.m,u.hd,1+dpH h,u.es.map shK⟩::BR (1+dpH h) u.es):=by rw[AX];exact List.mem_append_left _ (.head _)
 refine hk _ ⟨?_,?_,⟨GG u.b up,?_,Q6 _ _ hup.nd,fun p hp'=>?_,fun s hs=>?_⟩,hbl,hul,by rw[eb'];exact bx,by rw[eb'];exact ux⟩
 ·rw[e3]
  have:=HP.hd (x:=true) hp
  refine HP.same this (Nat.le_refl _) (fun x hx=>?_) fun id h1 h2=>⟨h1,h2⟩
  have hx':x∈bxL (shT 1 T):=by rw[<-eb',e3];exact hx
  exact kb x (fun e=>bx (e▸hx')) fun e=>ux (e▸hx')
 ·rw[Fi h (x:=CQ u) hA (P3 u)]
  simp[St.put,setAll]
 ·show(if ub=bb then _ else if ub=Hm (.map ub)then _ else _)=_
  rw[if_neg (Ne.symm hbu)]
  exact if_pos rfl
 ·obtain⟨q1,q2⟩:=hup.ok p (Ly _ _ p hp')
  refine⟨?_,q2⟩
  by_cases c1:p.1=bb
  ·rw[c1];simp[Ao,St.put,setAll]
  ·by_cases c2:p.1=ub
   ·rw[c2]at q1;simp[Ao,hup.box]at q1
   ·have:=kb p.1 c1 c2
    unfold Ao at q1⊢
    show(match ((st.put ub (.pmap (GG u.b up))).put bb (.cells (setAll [.box T.b 0,now,.map ub,.int .i64 nodes] 1 [.box u.b 0]))).box p.1 with | .cells (_::_)=>true | _=>false)=true
    rw[this];exact q1
 ·rw[e3]at hs
  rcases List.mem_append.1 hs with h1 | h1
  ·exact fdo s (List.mem_append_left _ h1) fun e=>(n3 _ hub).1 (e▸Bh h1 (.head _))
  ·rcases List.mem_append.1 h1 with h1 | h1
   ·rcases List.mem_cons.1 h1 with rfl | h1
    ·rw[JT _ _ _ hup.nd,if_pos rfl];rfl
    ·refine fdo s (List.mem_append_right _ (List.mem_append_left _ (.tail _ h1))) fun e=>?_
     rw[AX]at n2
     exact(List.nodup_append.1 n2).2.2 u.b (.head _) s.b (Bh h1 (.head _)) e.symm
   ·exact fdo s (List.mem_append_right _ (List.mem_append_right _ h1)) fun e=>(n3 _ hub).2 (e▸Bh h1 (.head _))
theorem Np {T t u:Tb} {h:List Hop} {k:B8} {eb:Nat} (hA:atT T h=some t) (hl:Am k t.es=some (eb,.opn u)) (x:Tb):AK T (h++[(k,none)]) x=AK T h (Ds t k (.opn x)):=by
 rw[Ks h _ hA]
 congr 1
 obtain⟨b,m,hd,es⟩:=t
 simp only[Tb.es]at hl
 rw[AK,hl]
 cases u;rfl
theorem chg_add {t:Tb} {k:B8} {eb:Nat} {e x:En} (hl:Am k t.es=none):Ds (A8 t k eb e) k x=A8 t k eb x:=by
 have:∀es:List Kn,Am k es=none->Cc k x (es++[.mk k eb e])=es++[.mk k eb x]:=by
  intro es
  induction es with
  | nil=>intro _;simp[Cc]
  | cons d r ih=>
   obtain⟨k',eb',e'⟩:=d
   intro hn
   unfold Am at hn
   by_cases hk:k=k'
   ·rw[if_pos hk]at hn;cases hn
   ·rw[if_neg hk]at hn
    rw[List.cons_append,Cc,if_neg hk,ih hn];rfl
 show Tb.mk t.b t.m t.hd (Cc k x (t.es++[.mk k eb e]))=Tb.mk t.b t.m t.hd (t.es++[.mk k eb x])
 rw[this _ hl]
def Je (nu:Nu) (T t:Tb) (h:List Hop) (k:B8):Except Int (Tb×List Hop):=match Am k t.es with
 | none=> .ok (AK T h (A8 t k nu.eb (.opn (AN nu true))),h++[(k,none)])
 | some (_,.opn u)=>if u.hd=true then .error 8 else .ok (AK T h (Ds t k (.opn (CQ u))),h++[(k,none)])
 | some _=> .error 8
theorem Qq {bb ub:Nat} {now:TV} {T t:Tb} {σ:Nat->TV} {st:St} {h:List Hop} {k:B8} {K:Int->St->Prop} (H:BH bb ub now T (Af T).cnt σ st) (hA:atT T h=some t) (hc:(Af T).cnt<=800000)
  (hk1:∀nu T' h' u σ' st',Je nu T t h k= .ok (T',h')->atT T' h'=some u->BH bb ub (.box u.b 0) T' (Af T').cnt σ' st'->(Af T').cnt<=(Af T).cnt+1->K 0 st')
  (hk2:∀nu st',Je nu T t h k= .error 8->K 8 st'):
  CallT PR BS [.box bb 0,.box t.b 0,.str k] [.one (.int .i64)] st K:=by
 refine Fb bb t.b k st K (H.ldm hA (H.map hA fun es hes=>?_))
 rw[hes k]
 have nu0:Nu:=⟨0,0,0⟩
 rcases hl:Am k t.es with _ | ⟨eb,e⟩
 ·rw[Option.map_none]
  have hdp:=Lv hA
  refine Aa rfl (show Ai _ _ from H.ldd hA (Cj ?_))
  have hwd:IntKind.wrap .i64 (((1+dpH h:Nat):Int)+1)=((1+dpH h+1:Nat):Int):=by rw[Aj _ (by omega) (by omega)];simp
  rw[hwd]
  refine OG H hA hl (by omega) rfl (fun nu σ' st1 st2 he H1=>?_)
  have hA1:=LI (nu:=nu) (hd:=false) hA hl
  have hl1:Am k (A8 t k nu.eb (.opn (AN nu false))).es=some (nu.eb,.opn (AN nu false)):=by
   have:=I9 (k2:=k) (eb:=nu.eb) (e:= .opn (AN nu false)) hl
   rw[if_pos rfl]at this;exact this
  have hA0:=DM h (x:=A8 t k nu.eb (.opn (AN nu false))) hA
  have hcn:=KA (k:=k) (eb:=nu.eb) (e:= .opn (AN nu false)) hA
  rw[E8]at hcn
  rw[<-he]
  refine H1.ent0 hA0 hl1 (Aa rfl (show Ai _ _ from ?_))
  refine Ad (x:= .map ub) (by simp only[Ac,H1.cell];rfl) (H1.ent0 hA0 hl1 (H1.plook hA1 (Dz (show Ai _ _ from ?_))))
  refine Ad (x:= .map ub) (by simp only[Ac,H1.cell];rfl) (H1.ent0 hA0 hl1 ?_)
  have hee:=H1.ent hA0 hl1
  refine QW H1 hA1 hee.1 fun st' H2=>?_
  have e9:AK (AK T h (A8 t k nu.eb (.opn (AN nu false)))) (h++[(k,none)]) (CQ (AN nu false))=AK T h (A8 t k nu.eb (.opn (AN nu true))):=by
   rw[Np hA0 hl1,Jz h hA,chg_add hl];rfl
  rw[e9]at H2
  have hcn2:=KA (k:=k) (eb:=nu.eb) (e:= .opn (AN nu true)) hA
  rw[E8]at hcn2
  refine hk1 nu _ _ (AN nu true) σ' st' (by unfold Je;rw[hl]) (LI hA hl) ?_ (by omega)
  rw[hcn2];exact H2
 ·rw[Option.map_some]
  refine Aa rfl (show need _ _ from Aa rfl (Aa rfl (H.ent0 hA hl ?_)))
  cases e with
  | opn u=>
   have hAu:=NT hA hl
   refine Aa rfl (show Ai _ _ from ?_)
   refine Ad (x:= .map ub) (by simp only[Ac,H.cell];rfl) (Aa rfl (Aa rfl (H.ent0 hA hl (H.plook hAu (Dz (As (fun hb=>?_) fun hb=>?_))))))
   ·exact hk2 nu0 st (by unfold Je;rw[hl];simp only;rw[if_pos (by simpa using hb)])
   ·have hee:=H.ent hA hl
    refine Ad (x:= .map ub) (by simp only[Ac,H.cell];rfl) (Aa rfl (Aa rfl (H.ent0 hA hl ?_)))
    have hd0:u.hd=false:=by simpa using hb
    refine QW H hAu hee.1 fun st' H2=>?_
    have hcc:=(DK (h++[(k,none)]) hAu (CQ u)).cnt
    have hvv:Af (CQ u)=Af u:=by cases u;unfold CQ;rw[Af,Af]
    rw[hvv]at hcc
    have hcn:(Af (AK T (h++[(k,none)]) (CQ u))).cnt=(Af T).cnt:=by omega
    rw[<-hcn]at H2
    rw[Np hA hl]at H2 hcn
    refine hk1 nu0 _ _ (CQ u) σ st' (by unfold Je;rw[hl];simp only;rw[if_neg (by simp[hd0])]) ?_ (by rw[P3];exact H2) (by omega)
    rw[<-Np hA hl];exact DM _ hAu
  | lst l=>exact Aa rfl (show K 8 st from hk2 nu0 st (by unfold Je;rw[hl]))
  | clo v i=>exact Aa rfl (show K 8 st from hk2 nu0 st (by unfold Je;rw[hl]))
theorem BH.add {bb ub eb nodes nodes':Nat} {now now':TV} {T t:Tb} {σ σ':Nat->TV} {st st':St} {h:List Hop} {k:B8} {e:En} {up up':List (Nat×TV)} (H:BH bb ub now T nodes σ st) (hA:atT T h=some t) (hl:Am k t.es=none)
  (hnb:st.nb<=st'.nb) (hup:Un ub (shT 1 T) st up)
  (kx:∀x,x<st.nb->x≠bb->x≠ub->x≠t.b->x≠t.m->st'.box x=st.box x) (ks:∀x,x<st.nb->x≠t.b->σ' x=σ x)
  (kt:st'.box t.b= .cells [σ' t.b,.map t.m,.int .i64 ((1+dpH h:Nat):Int)]) (kr:C5 (σ' t.b) (((t.es.map shK++[(k,eb,shE e)]).map fun x=>x.1).map TV.str))
  (km:∀mp,st.box t.m= .map mp->st'.box t.m= .map (Fz k (.box eb 0) mp)) (kb:st'.box bb= .cells [.box T.b 0,now',.map ub,.int .i64 nodes']) (ku:st'.box ub= .pmap up')
  (hu:(up'=up/\A3 (1+dpH h) e=[])∨∃n,up'=Ex n (.bool true) up/\st.nb<=n/\n<st'.nb/\Ao st' n=true/\∀s,s∈A3 (1+dpH h) e->s.b=n/\s.hd=false)
  (he:Kq σ' st' eb (shE e)) (hN:∀s,s∈A3 (1+dpH h) e->LN σ' st' s) (hnd:(eb::bxL (A3 (1+dpH h) e)).Nodup) (hnew:∀x,x∈eb::bxL (A3 (1+dpH h) e)->st.nb<=x/\x<st'.nb)
  (htip:∀x,x∈t.b::eb::bxL (A3 (1+dpH h) e)->∀id,A9 (σ' x)=some id->st.nt<=id/\id<st'.nt/\st'.live id=true)
  (htd:∀x,x∈t.b::eb::bxL (A3 (1+dpH h) e)->∀y,y∈t.b::eb::bxL (A3 (1+dpH h) e)->x≠y->∀id,A9 (σ' x)=some id->A9 (σ' y)≠some id)
  (hlv:∀i,i<st.nt->st.live i=true->A9 (σ t.b)≠some i->i<st'.nt/\st'.live i=true):BH bb ub now' (AK T h (A8 t k eb e)) nodes' σ' st':=by
 obtain⟨A,B,e1,e2⟩:=HR h hA 1
 rw[Es (1+dpH h) t]at e1
 have hp:=H.hp
 rw[e1]at hp
 have ht':=e2 (A8 t k eb e) rfl
 rw[Nl]at ht'
 have hS:=hp.sh _ (List.mem_append_right A (List.mem_append_left B (List.mem_cons_self ..)))
 have hin:∀{x},x∈bxS ⟨t.b,t.m,t.hd,1+dpH h,t.es.map shK⟩->x∈bxL (A++((⟨t.b,t.m,t.hd,1+dpH h,t.es.map shK⟩::BR (1+dpH h) t.es)++B)):=fun hx=>
  Bh (List.mem_append_right A (List.mem_append_left B (List.mem_cons_self ..))) hx
 have itb:=hin (x:=t.b) (.head _)
 have itm:=hin (x:=t.m) (.tail _ (.head _))
 have ltb:t.b<st.nb:=hp.lt _ itb
 have ltm:t.m<st.nb:=hp.lt _ itm
 have bx:=H.bx
 have ux:=H.ux
 rw[e1]at bx ux
 have hbl:=H.bl
 have hul:=H.ul
 obtain⟨mp,hm1,hm2⟩:=hS.mp
 have hmt:t.m≠t.b:=fun e=>by have:=hS.cell;simp only at this hm1;rw[e,this]at hm1;cases hm1
 have HP':HP σ' st' (A++((⟨t.b,t.m,t.hd,1+dpH h,t.es.map shK++[(k,eb,shE e)]⟩::(BR (1+dpH h) t.es++A3 (1+dpH h) e))++B)):=by
  refine HP.add hp hnb (fun x hx h2 h3=>⟨kx x (hp.lt x hx) (fun e=>bx (e▸hx)) (fun e=>ux (e▸hx)) h2 h3,ks x (hp.lt x hx) h2⟩) (fun x hx hne id hid=>?_) kt kr ⟨mp,hm1,km mp hm1⟩ (ks _ ltm hmt) ?_ he hN hnd hnew htip htd
  ·have hq:=hp.tip x hx id hid
   exact hlv id hq.1 hq.2 fun e=>hp.td x hx t.b itb hne id hid e
  ·rw[F8,hl];rfl
 have memb:∀x,x∈bxL (A++((⟨t.b,t.m,t.hd,1+dpH h,t.es.map shK++[(k,eb,shE e)]⟩::(BR (1+dpH h) t.es++A3 (1+dpH h) e))++B))->
   x∈bxL (A++((⟨t.b,t.m,t.hd,1+dpH h,t.es.map shK⟩::BR (1+dpH h) t.es)++B))∨st.nb<=x:=fun x hx=>by
  rcases QI (s:=⟨t.b,t.m,t.hd,1+dpH h,t.es.map shK⟩) (eb:=eb) (by simp[bxS]) hx with h1 | h1 | h1
  ·exact .inl h1
  ·exact .inr (by rw[h1];exact(hnew eb (.head _)).1)
  ·exact .inr (hnew x (.tail _ h1)).1
 have isc:∀p,p∈up->Ao st' p.1=true/\p.1<st'.nb:=fun p hp'=>by
  obtain⟨q1,q2⟩:=hup.ok p hp'
  refine⟨?_,by omega⟩
  by_cases c1:p.1=t.m
  ·have hm1':st.box t.m= .map mp:=hm1
   rw[c1]at q1;simp[Ao,hm1']at q1
  ·by_cases c2:p.1=t.b
   ·rw[c2];simp[Ao,kt]
   ·by_cases c3:p.1=bb
    ·rw[c3];simp[Ao,kb]
    ·by_cases c4:p.1=ub
     ·rw[c4]at q1;simp[Ao,hup.box]at q1
     ·simp only[Ao,kx _ q2 c3 c4 c2 c1]at q1⊢;exact q1
 have fdo:∀s,s∈A++((⟨t.b,t.m,t.hd,1+dpH h,t.es.map shK⟩::BR (1+dpH h) t.es)++B)->BA s.b up=(if s.hd=true then none else some (.bool true))/\s.b<st.nb:=fun s hs=>
  ⟨hup.fd s (by rw[e1];exact hs),hp.lt _ (Bh hs (.head _))⟩
 have un:Un ub (shT 1 (AK T h (A8 t k eb e))) st' up':=by
  rw[ht']
  have all:∀(P:Sh->Prop),(∀s,s∈A++((⟨t.b,t.m,t.hd,1+dpH h,t.es.map shK⟩::BR (1+dpH h) t.es)++B)->P s)->(P ⟨t.b,t.m,t.hd,1+dpH h,t.es.map shK⟩->P ⟨t.b,t.m,t.hd,1+dpH h,t.es.map shK++[(k,eb,shE e)]⟩)->(∀s,s∈A3 (1+dpH h) e->P s)->
    ∀s,s∈A++((⟨t.b,t.m,t.hd,1+dpH h,t.es.map shK++[(k,eb,shE e)]⟩::(BR (1+dpH h) t.es++A3 (1+dpH h) e))++B)->P s:=fun P p1 p2 p3 s hs=>by
   rcases List.mem_append.1 hs with h1 | h1
   ·exact p1 s (List.mem_append_left _ h1)
   ·rcases List.mem_append.1 h1 with h1 | h1
    ·rcases List.mem_cons.1 h1 with rfl | h1
     ·exact p2 (p1 _ (List.mem_append_right _ (List.mem_append_left _ (.head _))))
     ·rcases List.mem_append.1 h1 with h1 | h1
      ·exact p1 s (List.mem_append_right _ (List.mem_append_left _ (.tail _ h1)))
      ·exact p3 s h1
    ·exact p1 s (List.mem_append_right _ (List.mem_append_right _ h1))
  rcases hu with⟨rfl,h0⟩ | ⟨n,rfl,g1,g2,g3,g4⟩
  ·exact⟨ku,hup.nd,isc,all _ (fun s hs=>(fdo s hs).1) (fun hx=>hx) fun s hs=>by rw[h0]at hs;cases hs⟩
  ·refine⟨ku,?_,fun p hp'=>?_,all _ (fun s hs=>?_) (fun hx=>hx) fun s hs=>?_⟩
   ·rw[HA _ _ _ fun p hp' e=>by have:=(hup.ok p hp').2;omega]
    refine List.nodup_append.2 ⟨hup.nd,by simp,fun x hx y hy e=>?_⟩
    obtain⟨p,hp',rfl⟩:=List.mem_map.1 hx
    have:=(hup.ok p hp').2
    rw[List.mem_singleton.1 hy]at e
    omega
   ·rcases IV _ _ _ p hp' with rfl | hp'
    ·exact⟨g3,g2⟩
    ·exact isc p hp'
   ·obtain⟨q1,q2⟩:=fdo s hs
    rw[D3,if_neg (by omega)];exact q1
   ·obtain⟨q1,q2⟩:=g4 s hs
    rw[D3,if_pos q1,q2];rfl
 refine⟨by rw[ht'];exact HP',by rw[Fi h (x:=A8 t k eb e) hA rfl];exact kb,⟨up',un⟩,by omega,by omega,fun hx=>?_,fun hx=>?_⟩
 ·rw[ht']at hx
  rcases memb bb hx with h1 | h1
  ·exact bx h1
  ·omega
 ·rw[ht']at hx
  rcases memb ub hx with h1 | h1
  ·exact ux h1
  ·omega
theorem BH.apart {bb ub nodes:Nat} {now:TV} {T t:Tb} {σ:Nat->TV} {st:St} {h:List Hop} (H:BH bb ub now T nodes σ st) (hA:atT T h=some t):
  t.b<st.nb/\t.m<st.nb/\t.b≠bb/\t.b≠ub/\t.m≠bb/\t.m≠ub/\t.m≠t.b/\(∀id,A9 (σ t.b)=some id->id<st.nt/\st.live id=true):=by
 obtain⟨hS,hm⟩:=H.tab hA
 have itb:t.b∈bxL (shT 1 T):=Bh hm (.head _)
 have itm:t.m∈bxL (shT 1 T):=Bh hm (.tail _ (.head _))
 refine⟨H.hp.lt _ itb,H.hp.lt _ itm,fun e=>H.bx (e▸itb),fun e=>H.ux (e▸itb),fun e=>H.bx (e▸itm),fun e=>H.ux (e▸itm),fun e=>?_,H.hp.tip _ itb⟩
 obtain⟨mp,hm1,_⟩:=hS.mp
 have:=hS.cell;simp only at this hm1;rw[e,this]at hm1;cases hm1
theorem Un.isc {bb ub nodes:Nat} {now:TV} {T t:Tb} {σ:Nat->TV} {st st':St} {h:List Hop} {up:List (Nat×TV)} (H:BH bb ub now T nodes σ st) (hA:atT T h=some t) (hup:Un ub (shT 1 T) st up) (hnb:st.nb<=st'.nb)
  (kx:∀x,x<st.nb->x≠bb->x≠ub->x≠t.b->x≠t.m->st'.box x=st.box x) (kt:Ao st' t.b=true) (kb:Ao st' bb=true):∀p,p∈up->Ao st' p.1=true/\p.1<st'.nb:=fun p hp'=>by
 obtain⟨q1,q2⟩:=hup.ok p hp'
 obtain⟨mp,hm1,_⟩:=(H.tab hA).1.mp
 refine⟨?_,by omega⟩
 by_cases c1:p.1=t.m
 ·have hm1':st.box t.m= .map mp:=hm1
  rw[c1]at q1;simp[Ao,hm1']at q1
 ·by_cases c2:p.1=t.b
  ·rw[c2];exact kt
  ·by_cases c3:p.1=bb
   ·rw[c3];exact kb
   ·by_cases c4:p.1=ub
    ·rw[c4]at q1;simp[Ao,hup.box]at q1
    ·simp only[Ao,kx _ q2 c3 c4 c2 c1]at q1⊢;exact q1
theorem OQ {T t:Tb} {h:List Hop} (hA:atT T h=some t) (hc:(Af T).cnt<=800000):((t.es.map shK).map fun x=>x.1).length<=1000000:=by
 rw[List.length_map,List.length_map];have:=NE t;have:=(Q9 hA).1;omega
theorem clo_new {bb ub nodes:Nat} {now:TV} {T t:Tb} {σ:Nat->TV} {st:St} {h:List Hop} {k:B8} {v:Vl} {i:Nat} {cs:List TV} {K:St->Prop} (H:BH bb ub now T nodes σ st) (hA:atT T h=some t) (hl:Am k t.es=none) (hc:(Af T).cnt<=800000)
  (hv:VlR St.zero v cs) (hcs:cs.length=13)
  (hk:∀σ' st',BH bb ub now (AK T h (A8 t k st.nb (.clo v i))) nodes σ' st'->K st'):
  CallT PR AJ [.box t.b 0,.str k,.box st.nb 0] [] (st.push (.cells (.nilPtr:: .nilSlice::(cs++[.int .i64 i]))) (some 92)) K:=by
 obtain⟨ltb,ltm,nb1,nb2,nm1,nm2,hmt,htp⟩:=H.apart hA
 obtain⟨hS,hm⟩:=H.tab hA
 obtain⟨mp,hm1,hm2⟩:=hS.mp
 obtain⟨up,hup⟩:=H.un
 have hbl:=H.bl
 have hul:=H.ul
 refine Ni (kv:=σ t.b) (d:=1+dpH h) (m:=t.m) (ks:=(t.es.map shK).map fun x=>x.1) (es:=mp) ?_ ?_ hS.row htp (OQ hA hc) fun kv' st' r1 r2 r3 r4 r5 r6 r7 r8=>?_
 ·show(if t.b=st.nb then _ else st.box t.b)=_
  rw[if_neg (by omega)];exact hS.cell
 ·show(if t.m=st.nb then _ else st.box t.m)=_
  rw[if_neg (by omega)];exact hm1
 have bx':∀x,st'.box x=if x=t.m then .map (Fz k (.box st.nb 0) mp)else if x=t.b then .cells [kv',.map t.m,.int .i64 ((1+dpH h:Nat):Int)]else if x=st.nb then .cells (.nilPtr:: .nilSlice::(cs++[.int .i64 i]))else st.box x:=fun x=>by
  rw[r3];simp only[St.push]
 have nb':st'.nb=st.nb+1:=by rw[r4];rfl
 have nt':st'.nt=st.nt+1:=by rw[r6];rfl
 have k2:∀x,x<st.nb->x≠t.b->x≠t.m->st'.box x=st.box x:=fun x h1 h4 h5=>by
  rw[bx',if_neg h5,if_neg h4,if_neg (by omega)]
 let σ':Nat->TV:=fun x=>if x=t.b then kv' else if x<st.nb then σ x else .nilSlice
 have s1:σ' t.b=kv':=if_pos rfl
 have s2:∀x,x<st.nb->x≠t.b->σ' x=σ x:=fun x h1 h2=>by simp only[σ'];rw[if_neg h2,if_pos h1]
 have s3:∀x,st.nb<=x->σ' x= .nilSlice:=fun x h1=>by simp only[σ'];rw[if_neg (by omega),if_neg (by omega)]
 have eN:A3 (1+dpH h) (.clo v i)=[]:=by rw[A3]
 have tip':A9 kv'=some st.nt/\st'.live st.nt=true:=⟨r2,r7⟩
 have cl:∀{x},x∈t.b::st.nb::bxL (A3 (1+dpH h) (.clo v i))->x≠t.b->st.nb<=x:=fun {x} hx hne=>by
  rw[eN]at hx
  rcases List.mem_cons.1 hx with h1 | hx
  ·exact absurd h1 hne
  ·rcases List.mem_cons.1 hx with rfl | hx
   ·exact Nat.le_refl _
   ·cases hx
 refine hk σ' st' (H.add (up':=up) (σ':=σ') hA hl (by omega) hup (fun x h1 _ _ h4 h5=>k2 x h1 h4 h5) s2 ?_ ?_ (fun mp' h1=>?_) ?_ ?_ (.inl ⟨rfl,eN⟩) ⟨cs,hv,hcs,?_,by rw[s3 _ (Nat.le_refl _)];rfl⟩ (fun s hs=>by rw[eN]at hs;cases hs) (by rw[eN];simp[bxL]) (fun x hx=>?_) (fun x hx id hid=>?_) (fun x hx y hy hne id g1 g2=>?_) fun j h1 h2 h3=>⟨by omega,?_⟩)
 ·rw[s1,bx',if_neg (Ne.symm hmt),if_pos rfl]
 ·rw[s1];simp only[List.map_append]at r1⊢;exact r1
 ·have:mp'=mp:=by have h2:st.box t.m= .map mp:=hm1;rw[h2]at h1;cases h1;rfl
  rw[this,bx',if_pos rfl]
 ·rw[k2 _ hbl (Ne.symm nb1) (Ne.symm nm1)];exact H.cell
 ·rw[k2 _ hul (Ne.symm nb2) (Ne.symm nm2)];exact hup.box
 ·rw[bx',if_neg (by omega),if_neg (by omega),if_pos rfl]
 ·rw[eN]at hx
  rcases List.mem_cons.1 hx with rfl | hx
  ·omega
  ·cases hx
 ·by_cases hxb:x=t.b
  ·rw[hxb,s1,tip'.1]at hid
   cases hid
   exact⟨Nat.le_refl _,by omega,tip'.2⟩
  ·rw[s3 x (cl hx hxb)]at hid;cases hid
 ·by_cases hxb:x=t.b
  ·rw[s3 y (cl hy fun e=>hne (hxb.trans e.symm))]at g2;cases g2
  ·rw[s3 x (cl hx hxb)]at g1;cases g1
 ·rw[r8 j h1 h3];exact h2
def Kd (nu:Nu) (T t:Tb) (h:List Hop) (k:B8):Except Int (Tb×List Hop):=match Am k t.es with
 | none=> .ok (AK T h (A8 t k nu.eb (.lst [AN nu false])),h++[(k,some 0)])
 | some (_,.lst l)=> .ok (AK T h (Ds t k (.lst (l++[AN nu false]))),h++[(k,some l.length)])
 | some _=> .error 6
theorem Te {bb ub:Nat} {now:TV} {T t:Tb} {σ:Nat->TV} {st:St} {h:List Hop} {k:B8} {K:Int->St->Prop} (H:BH bb ub now T (Af T).cnt σ st) (hA:atT T h=some t) (hl:Am k t.es=none) (hc:(Af T).cnt<=800000)
  (hk:∀nu σ' st',BH bb ub (.box nu.b 0) (AK T h (A8 t k nu.eb (.lst [AN nu false]))) ((Af T).cnt+2) σ' st'->K 0 st'):
  CallT PR AJ [.box t.b 0,.str k,.box st.nb 0] [] (st.push (.cells (.nilPtr:: .nilSlice::(z13++[.int .i64 0]))) (some 92)) fun st1=>Ai (Ac st1 [] (.t (.box bb 3)) 0) fun x2=>AS (.int .i64) x2 fun n1=>
   stB st1 (.box bb 3) [.int .i64 (IntKind.wrap .i64 (n1+1))] fun st2=>Ai (Ac st2 [] (.t (.box t.b 2)) 0) fun x3=>AS (.int .i64) x3 fun n2=>
   CallT PR Ax [.box bb 0,.int .i64 (IntKind.wrap .i64 (n2+2))] [.one .tv] st2 fun v2 st3=>need (List.all [v2] Aq) (stB st3 (.box bb 1) [v2] fun st4=>Ai (Ac st4 [] (.t (.box st.nb 1)) 0) fun v3=>
   Ai (Ac st4 [] (.t (.box bb 1)) 0) fun v4=>need (List.all [v4] Aq) (need (List.all [v4] Aq) (Bl 71 1 8 v3 1 [v4] st4 fun v5 st5=>need (List.all [v5] Aq) (stB st5 (.box st.nb 1) [v5] fun st6=>K 0 st6)))):=by
 obtain⟨ltb,ltm,nb1,nb2,nm1,nm2,hmt,htp⟩:=H.apart hA
 obtain⟨hS,hm⟩:=H.tab hA
 obtain⟨mp,hm1,hm2⟩:=hS.mp
 obtain⟨up,hup⟩:=H.un
 have hbl:=H.bl
 have hul:=H.ul
 have hbu:=H.bu
 have hdp:=Lv hA
 refine Ni (kv:=σ t.b) (d:=1+dpH h) (m:=t.m) (ks:=(t.es.map shK).map fun x=>x.1) (es:=mp) ?_ ?_ hS.row htp (OQ hA hc) fun kv' st1 r1 r2 r3 r4 r5 r6 r7 r8=>?_
 ·show(if t.b=st.nb then _ else st.box t.b)=_
  rw[if_neg (by omega)];exact hS.cell
 ·show(if t.m=st.nb then _ else st.box t.m)=_
  rw[if_neg (by omega)];exact hm1
 have bx1:∀x,st1.box x=if x=t.m then .map (Fz k (.box st.nb 0) mp)else if x=t.b then .cells [kv',.map t.m,.int .i64 ((1+dpH h:Nat):Int)]else if x=st.nb then .cells (.nilPtr:: .nilSlice::(z13++[.int .i64 0]))else st.box x:=fun x=>by
  rw[r3];simp only[St.push]
 have nbs1:st1.nb=st.nb+1:=by rw[r4];rfl
 have nts1:st1.nt=st.nt+1:=by rw[r6];rfl
 have hbb1:st1.box bb= .cells [.box T.b 0,now,.map ub,.int .i64 (Af T).cnt]:=by
  rw[bx1,if_neg (Ne.symm nm1),if_neg (Ne.symm nb1),if_neg (by omega)];exact H.cell
 refine Ad (x:= .int .i64 (Af T).cnt) (by simp only[Ac,hbb1];rfl) (Cj ⟨_,hbb1,by simp,?_⟩)
 rw[Aj _ (by omega) (by omega)]
 generalize hst2:st1.put bb (.cells (setAll [.box T.b 0,now,.map ub,.int .i64 ((Af T).cnt:Int)] 3 [.int .i64 (((Af T).cnt:Int)+1)]))=st2
 have bx2:∀x,st2.box x=if x=bb then .cells [.box T.b 0,now,.map ub,.int .i64 (((Af T).cnt:Int)+1)]else st1.box x:=fun x=>by rw[<-hst2];rfl
 have nbs2:st2.nb=st.nb+1:=by rw[<-hst2];exact nbs1
 have nts2:st2.nt=st.nt+1:=by rw[<-hst2];exact nts1
 have lvs2:st2.live=st1.live:=by rw[<-hst2];rfl
 have ht2:st2.box t.b= .cells [kv',.map t.m,.int .i64 ((1+dpH h:Nat):Int)]:=by rw[bx2,if_neg nb1,bx1,if_neg (Ne.symm hmt),if_pos rfl]
 have hbb2:st2.box bb= .cells [.box T.b 0,now,.map ub,.int .i64 (((Af T).cnt:Int)+1)]:=by rw[bx2,if_pos rfl]
 have hu2:st2.box ub= .pmap up:=by rw[bx2,if_neg (Ne.symm hbu),bx1,if_neg (Ne.symm nm2),if_neg (Ne.symm nb2),if_neg (by omega)];exact hup.box
 refine Ad (x:= .int .i64 ((1+dpH h:Nat):Int)) (by simp only[Ac,ht2];rfl) (Cj ?_)
 have hwd:IntKind.wrap .i64 (((1+dpH h:Nat):Int)+2)=((1+dpH h+2:Nat):Int):=by rw[Aj _ (by omega) (by omega)];simp
 rw[hwd]
 have isc2:=Un.isc (st':=st2) H hA hup (by omega) (fun x h1 h2 h3 h4 h5=>by rw[bx2,if_neg h2,bx1,if_neg h5,if_neg h4,if_neg (by omega)]) (by simp[Ao,ht2]) (by simp[Ao,hbb2])
 refine HK hbb2 hu2 (by omega) (by omega) isc2 ⟨by omega,by omega⟩ fun st3 q1 q2 q3 q4=>Aa rfl ?_
 rw[nbs2]at q1 q2⊢
 have hbb3:st3.box bb= .cells [.box T.b 0,now,.map ub,.int .i64 (((Af T).cnt:Int)+1+1)]:=by rw[q2];simp only;rw[if_pos trivial]
 refine⟨_,hbb3,by simp,?_⟩
 generalize hst4:st3.put bb (.cells (setAll [.box T.b 0,now,.map ub,.int .i64 (((Af T).cnt:Int)+1+1)] 1 [.box (st.nb+1+1) 0]))=st4
 have bx4:∀x,st4.box x=if x=bb then .cells [.box T.b 0,.box (st.nb+1+1) 0,.map ub,.int .i64 (((Af T).cnt:Int)+1+1)]else st3.box x:=fun x=>by rw[<-hst4];rfl
 have nbs4:st4.nb=st.nb+3:=by rw[<-hst4];show st3.nb=_;omega
 have nts4:st4.nt=st.nt+1:=by rw[<-hst4];show st3.nt=_;omega
 have lvs4:st4.live=st1.live:=by rw[<-hst4];show st3.live=_;rw[q4,lvs2]
 have he4:st4.box st.nb= .cells (.nilPtr:: .nilSlice::(z13++[.int .i64 0])):=by
  rw[bx4,if_neg (by omega),q2];simp only
  rw[if_neg (by omega),if_neg (by omega),if_neg (by omega),if_neg (by omega),bx2,if_neg (by omega),bx1,if_neg (by omega),if_neg (by omega),if_pos rfl]
 refine Ad (x:= .nilSlice) (by simp only[Ac,he4];rfl) (Ad (x:= .box (st.nb+1+1) 0) (by simp only[Ac,bx4,if_pos trivial];rfl) (Aa rfl (Aa rfl ?_)))
 refine LJ C5.nil (fun id hid=>by cases hid) (by simp) fun v5 st5 w1 w2 w3 w4 w5 w6 w7 w8=>?_
 have w1':Aq v5=true:=by
  rcases w1 with⟨_,hx⟩ | ⟨tip,h9,_⟩
  ·simp at hx
  ·rw[h9];rfl
 have he5:st5.box st.nb= .cells (.nilPtr:: .nilSlice::(z13++[.int .i64 0])):=by rw[w3];exact he4
 refine Aa (by simp[w1']) ⟨_,he5,by simp,?_⟩
 generalize hst6:st5.put st.nb (.cells (setAll (.nilPtr:: .nilSlice::(z13++[.int .i64 0])) 1 [v5]))=st6
 have bx6:∀x,st6.box x=if x=st.nb then .cells (.nilPtr::v5::(z13++[.int .i64 0]))else st4.box x:=fun x=>by rw[<-hst6,<-w3];rfl
 have nbs6:st6.nb=st.nb+3:=by rw[<-hst6];show st5.nb=_;omega
 have nts6:st6.nt=st.nt+2:=by rw[<-hst6];show st5.nt=_;omega
 have lvs6:st6.live=st5.live:=by rw[<-hst6];rfl
 rw[nts4]at w2 w7 w8
 have tl0:st6.live st.nt=true:=by
  rw[lvs6,w8 st.nt (by omega) (by simp[A9]),lvs4];exact r7
 have tl1:st6.live (st.nt+1)=true:=by rw[lvs6];exact w7
 have r2':A9 kv'=some st.nt:=r2
 have old:∀x,x<st.nb->x≠bb->x≠ub->st6.box x=st1.box x:=fun x h1 h2 h3=>by
  rw[bx6,if_neg (by omega),bx4,if_neg h2,q2];simp only
  rw[if_neg h2,if_neg h3,if_neg (by omega),if_neg (by omega),bx2,if_neg h2]
 have kn1:st6.box (st.nb+1+1)= .cells [.nilSlice,.map (st.nb+1),.int .i64 ((1+dpH h+2:Nat):Int)]:=by
  rw[bx6,if_neg (by omega),bx4,if_neg (by omega),q2];simp only
  rw[if_neg (by omega),if_neg (by omega),if_pos trivial]
 have kn0:st6.box (st.nb+1)= .map []:=by
  rw[bx6,if_neg (by omega),bx4,if_neg (by omega),q2];simp only
  rw[if_neg (by omega),if_neg (by omega),if_neg (by omega),if_pos trivial]
 have kub:st6.box ub= .pmap (Ex (st.nb+1+1) (.bool true) up):=by
  rw[bx6,if_neg (by omega),bx4,if_neg (Ne.symm hbu),q2];simp only
  rw[if_neg (Ne.symm hbu),if_pos trivial]
 let σ':Nat->TV:=fun x=>if x=t.b then kv' else if x=st.nb then v5 else if x<st.nb then σ x else .nilSlice
 have s1:σ' t.b=kv':=if_pos rfl
 have s1':σ' st.nb=v5:=by simp only[σ'];rw[if_neg (by omega),if_pos trivial]
 have s2:∀x,x<st.nb->x≠t.b->σ' x=σ x:=fun x h1 h2=>by simp only[σ'];rw[if_neg h2,if_neg (by omega),if_pos h1]
 have s3:∀x,st.nb<x->σ' x= .nilSlice:=fun x h1=>by simp only[σ'];rw[if_neg (by omega),if_neg (by omega),if_neg (by omega)]
 have eN:A3 (1+dpH h) (.lst [AN ⟨st.nb+1+1,st.nb+1,st.nb⟩ false])=[⟨st.nb+1+1,st.nb+1,false,1+dpH h+2,[]⟩]:=by
  rw[A3,DC,DC,AN,shT,BR];rfl
 have bN:bxL [⟨st.nb+1+1,st.nb+1,false,1+dpH h+2,[]⟩]=[st.nb+1+1,st.nb+1]:=rfl
 have cl:∀{x},x∈t.b::st.nb::bxL (A3 (1+dpH h) (.lst [AN ⟨st.nb+1+1,st.nb+1,st.nb⟩ false]))->x=t.b∨x=st.nb∨(st.nb<x/\x<st.nb+3):=fun {x} hx=>by
  rw[eN,bN]at hx
  rcases List.mem_cons.1 hx with h1 | hx
  ·exact .inl h1
  ·rcases List.mem_cons.1 hx with h1 | hx
   ·exact .inr (.inl h1)
   ·rcases List.mem_cons.1 hx with rfl | hx
    ·exact .inr (.inr ⟨by omega,by omega⟩)
    ·rw[List.mem_singleton.1 hx];exact .inr (.inr ⟨by omega,by omega⟩)
 have tp:∀{x id},x∈t.b::st.nb::bxL (A3 (1+dpH h) (.lst [AN ⟨st.nb+1+1,st.nb+1,st.nb⟩ false]))->A9 (σ' x)=some id->(x=t.b/\id=st.nt)∨(x=st.nb/\id=st.nt+1):=fun {x id} hx hid=>by
  rcases cl hx with rfl | rfl | h1
  ·rw[s1,r2']at hid;cases hid;exact .inl ⟨rfl,rfl⟩
  ·rw[s1',w2]at hid;cases hid;exact .inr ⟨rfl,rfl⟩
  ·rw[s3 x h1.1]at hid;cases hid
 refine hk ⟨st.nb+1+1,st.nb+1,st.nb⟩ σ' st6 (H.add (up':=Ex (st.nb+1+1) (.bool true) up) (σ':=σ') hA hl (by omega) hup (fun x h1 h2 h3 h4 h5=>by rw[old x h1 h2 h3,bx1,if_neg h5,if_neg h4,if_neg (by omega)]) s2 ?_ ?_ (fun mp' h1=>?_) ?_ kub
  (.inr ⟨st.nb+1+1,rfl,by omega,by omega,by simp[Ao,kn1],fun s hs=>by rw[eN]at hs;rw[List.mem_singleton.1 hs];exact⟨rfl,rfl⟩⟩) ⟨?_,by simp,?_⟩ (fun s hs=>?_) (by rw[eN,bN];simp;omega) (fun x hx=>?_) (fun x hx id hid=>?_) (fun x hx y hy hne id g1 g2=>?_) fun j h1 h2 h3=>⟨by omega,?_⟩)
 ·rw[s1,old _ ltb nb1 nb2,bx1,if_neg (Ne.symm hmt),if_pos rfl]
 ·rw[s1];simp only[List.map_append]at r1⊢;exact r1
 ·have:mp'=mp:=by have h2:st.box t.m= .map mp:=hm1;rw[h2]at h1;cases h1;rfl
  rw[this,old _ ltm nm1 nm2,bx1,if_pos rfl]
 ·rw[bx6,if_neg (by omega),bx4,if_pos rfl];simp;omega
 ·show C5 (σ' st.nb) _
  rw[s1'];exact w1
 ·show st6.box st.nb= .cells (.nilPtr::σ' st.nb::(z13++[.int .i64 0]))
  rw[s1',bx6,if_pos rfl]
 ·rw[eN]at hs
  rw[List.mem_singleton.1 hs]
  have s4:σ' (st.nb+1+1)= .nilSlice:=s3 _ (by omega)
  exact⟨by show st6.box (st.nb+1+1)= .cells [σ' (st.nb+1+1),_,_];rw[s4];exact kn1,by show C5 (σ' (st.nb+1+1)) _;rw[s4];exact C5.nil,⟨[],kn0,fun _=>rfl⟩,fun x hx=>by cases hx⟩
 ·rw[eN,bN]at hx
  rcases List.mem_cons.1 hx with rfl | hx
  ·show st.nb<=st.nb/\st.nb<st6.nb
   omega
  ·rcases List.mem_cons.1 hx with rfl | hx
   ·omega
   ·rw[List.mem_singleton.1 hx];omega
 ·rcases tp hx hid with⟨_,rfl⟩ | ⟨_,rfl⟩
  ·exact⟨Nat.le_refl _,by omega,tl0⟩
  ·exact⟨by omega,by omega,tl1⟩
 ·rcases tp hx g1 with⟨h1,h2⟩ | ⟨h1,h2⟩<;>rcases tp hy g2 with⟨h3,h4⟩ | ⟨h3,h4⟩
  ·exact hne (h1.trans h3.symm)
  ·omega
  ·omega
  ·exact hne (h1.trans h3.symm)
 ·rw[lvs6,w8 j (by omega) (by simp[A9]),lvs4,r8 j h1 h3];exact h2
end Go.TVF
