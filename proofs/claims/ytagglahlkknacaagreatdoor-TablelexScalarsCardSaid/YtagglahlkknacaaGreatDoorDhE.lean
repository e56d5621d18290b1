/- What the laws below rest on: a framework for Go programs, and contracts of the functions that they reach. -/
import Derived.Test.YtagglahlkknacaaGreatDoorDhD
set_option maxRecDepth 20000
set_option linter.unusedVariables false
set_option linter.unusedSimpArgs false
namespace Go.TVF
open Go.IntKind(i64 u8)
open Go Go.Proofs
theorem EK:∀(k:Nat) (l:B8) (acc n:Nat),Ci k l acc= .ok n->n<(acc+1)*16^k/\k<=l.length
 | 0,l,acc,n,h=>by simp only[Ci,Except.ok.injEq]at h;omega
 | k+1,[],acc,n,h=>by cases h
 | k+1,c::cs,acc,n,h=>by
  simp only[Ci]at h
  split at h
  ·cases h
  ·rename_i d hd
   have hd16:=Kd hd
   obtain⟨h1,h2⟩:=EK k cs _ n h
   refine⟨Nat.lt_of_lt_of_le h1 ?_,by simp;omega⟩
   rw[Nat.pow_succ,Nat.mul_comm (16^k) 16,<-Nat.mul_assoc]
   exact Nat.mul_le_mul_right _ (by omega)
theorem FE:∀(k:Nat) (l:B8) (acc:Nat),Ci k l acc≠.error 0
 | 0,l,acc=>by simp[Ci]
 | k+1,[],acc=>by simp[Ci]
 | k+1,c::cs,acc=>by
  simp only[Ci]
  split
  ·simp
  ·exact FE k cs _
def DL (l:B8):Except Int (Nat×Nat):=
 match Ci 4 l 0 with
 | .error e=> .error e
 | .ok n=>
  if 56320<=n/\n<=57343 then .error 5
  else if n<55296∨57343<n then .ok (n,4)
  else if l.length<=4 then .error 4
  else if bt l 4≠92 then .error 5
  else if l.length<=5 then .error 4
  else if bt l 5≠117 then .error 5
  else match Ci 4 (l.drop 6) 0 with
   | .error e=> .error e
   | .ok m=>if m<56320∨57343<m then .error 5 else .ok (65536+(n-55296)*1024+(m-56320),10)
def eR:Except Int (Nat×Nat)->Int | .ok p=>p.1 | .error _=>0
def eK (i:Nat):Except Int (Nat×Nat)->Int | .ok p=>((i+p.2:Nat):Int) | .error _=>0
theorem Kh {l:B8} {r k:Nat} (h:DL l= .ok (r,k)):Az r/\k<=l.length/\4<=k/\k<=10:=by
 unfold DL at h
 cases hn:Ci 4 l 0 with
 | error e=>rw[hn]at h;cases h
 | ok n=>
  rw[hn]at h
  obtain⟨hn1,hn2⟩:=EK _ _ _ _ hn
  simp only at h
  split at h
  ·cases h
  ·split at h
   ·simp only[Except.ok.injEq,Prod.mk.injEq]at h
    unfold Az;omega
   ·split at h
    ·cases h
    ·split at h
     ·cases h
     ·split at h
      ·cases h
      ·split at h
       ·cases h
       ·cases hm:Ci 4 (l.drop 6) 0 with
        | error e=>rw[hm]at h;cases h
        | ok m=>
         rw[hm]at h
         obtain⟨hm1,hm2⟩:=EK _ _ _ _ hm
         simp only at h
         split at h
         ·cases h
         ·simp only[Except.ok.injEq,Prod.mk.injEq]at h
          simp only[List.length_drop]at hm2
          unfold Az;omega
theorem MT {s:B8} {I:Int} {i:Nat} {st:St} {K:Int->Int->St->Prop} (hI:I=(i:Int)) (hl:s.length<=2000000) (hi:i<=s.length)
  (h1:∀e,e≠0->Ci 4 (s.drop i) 0= .error e->K 0 e st) (h2:∀(n:Nat) (N:Int),N=(n:Int)->Ci 4 (s.drop i) 0= .ok n->K N 0 st):
  CallT PR Bl [.str s,.int .i64 I] [.one (.int .i64),.one (.int .i64)] st K:=by
 refine hex_ok hI hl hi ?_
 cases hn:Ci 4 (s.drop i) 0 with
 | error e=>exact h1 e (fun h0=>by subst h0;exact FE _ _ _ hn) hn
 | ok n=>exact h2 n _ rfl hn
theorem Li {s:B8} {I:Int} {i:Nat} {st:St} {K:Int->Int->St->Prop} (hI:I=(i:Int)) (hl:s.length<=2000000) (hi:i<=s.length)
  (h1:∀e,e≠0->Ci 4 (s.drop i) 0= .error e->K 0 e st) (h2:∀(n:Nat) (N:Int),N=(n:Int)->Ci 4 (s.drop i) 0= .ok n->K N 0 st):
  CallT PR AY [.str s,.int .i64 I] [.one (.int .i64),.one (.int .i64)] st K:=by
 refine four_ok hI hl hi ?_
 cases hn:Ci 4 (s.drop i) 0 with
 | error e=>exact h1 e (fun h0=>by subst h0;exact FE _ _ _ hn) hn
 | ok n=>exact h2 n _ rfl hn
theorem ND {s:B8} {I:Int} {i:Nat} {st:St} {K:Int->Int->Int->St->Prop} (hI:I=(i:Int)) (hl:s.length<=2000000) (hi:i<=s.length)
  (hk:K (eR (DL (s.drop i))) (eK i (DL (s.drop i))) (eE (DL (s.drop i))) st):CallT PR Bw [.str s,.int .i64 I] [.one (.int .i32),.one (.int .i64),.one (.int .i64)] st K:=by
 have hlen:(s.drop i).length=s.length-i:=by simp
 have hb:∀j,bt (s.drop i) j=(s.getD (i+j) 0).toNat:=fun j=>BF s i j
 unfold DL at hk
 refine Gp s I st K (MT hI hl hi (fun e he hn=>?_) fun n N hN hn=>?_)
 ·rw[hn]at hk
  exact Aa (fun _=>hk) fun h=>absurd he h
 ·rw[hn]at hk
  obtain⟨hn1,hn2⟩:=EK _ _ _ _ hn
  simp only at hk
  refine Aa (fun h=>absurd rfl h) fun _=>?_
  refine Aa (fun h1=>Aa (fun h2=>?_) fun h2=>?_) fun h1=>?_
  ·rw[if_pos (by omega)]at hk;exact hk
  ·rw[if_neg (by omega),if_pos (by omega)]at hk
   refine Aa (fun h3=>by omega) fun h3=>Aa (fun _=>?_) fun h4=>by omega
   rw[Ly _ (by omega) (by omega),Ab _ (by omega) (by omega),hN,hI]
   exact hk
  ·refine Aa (fun h3=>?_) fun h3=>Aa (fun h4=>by omega) fun h4=>?_
   ·rw[if_neg (by omega),if_pos (by omega)]at hk
    rw[Ly _ (by omega) (by omega),Ab _ (by omega) (by omega),hN,hI]
    exact hk
   ·rw[if_neg (by omega),if_neg (by omega)]at hk
    refine⟨fun q s' i' n' v m st'=>s=s'/\I=i'/\N=n'/\TV.list 1 .full 2 [.int .u8 (92:Int),.int .u8 (117:Int)]=v/\2=m/\st=st'/\(q=0∨(q=1/\4<(s.drop i).length/\bt (s.drop i) 4=92)∨(q=2/\5<(s.drop i).length/\bt (s.drop i) 4=92/\bt (s.drop i) 5=117)),fun q _ _ _ _ _ _=>(2-q).toNat,⟨rfl,rfl,rfl,rfl,rfl,rfl,.inl rfl⟩,?_⟩
    rintro q _ _ _ _ _ _ ⟨rfl,rfl,rfl,rfl,rfl,rfl,hq⟩
    rw[hlen,hb,hb]at hq
    rw[hlen,hb,hb]at hk
    rw[Ab (I+4) (by omega) (by omega)]
    refine Aa (fun g1=>?_) fun g1=>?_
    ·have hld:∀x:Int,(x=92/\q=0∨x=117/\q=1)->Ag st [] (.t (ixT 1 (TV.list 1 .full 2 [.int .u8 (92:Int),.int .u8 (117:Int)]) (Int.toNat q))) 0=some (.int .u8 x):=by
      rintro x (⟨rfl,rfl⟩ | ⟨rfl,rfl⟩)<;>rfl
     rcases hq with rfl | ⟨rfl,q1,q2⟩ | ⟨rfl,_⟩
     ·refine⟨⟨by omega,by decide⟩,Ac (hld 92 (.inl ⟨rfl,rfl⟩)) ?_⟩
      rw[Ab (I+4+0) (by omega) (by omega)]
      refine Aa (fun g2=>?_) fun g2=>⟨⟨by omega,by omega⟩,Aa (fun g3=>?_) fun g3=>⟨⟨rfl,rfl,rfl,rfl,rfl,rfl,.inr (.inl ⟨rfl,?_,?_⟩)⟩,by dsimp only;decide⟩⟩
      ·rw[if_pos (by omega)]at hk;exact hk
      ·rw[show Int.toNat (I+4+0)=i+4 by omega]at g3
       rw[if_neg (by omega),if_pos (by omega)]at hk;exact hk
      ·rw[hlen];omega
      ·rw[show Int.toNat (I+4+0)=i+4 by omega]at g3
       rw[hb];omega
     ·refine⟨⟨by omega,by decide⟩,Ac (hld 117 (.inr ⟨rfl,rfl⟩)) ?_⟩
      rw[Ab (I+4+1) (by omega) (by omega)]
      refine Aa (fun g2=>?_) fun g2=>⟨⟨by omega,by omega⟩,Aa (fun g3=>?_) fun g3=>⟨⟨rfl,rfl,rfl,rfl,rfl,rfl,.inr (.inr ⟨rfl,?_,?_,?_⟩)⟩,by dsimp only;decide⟩⟩
      ·rw[if_neg (by omega),if_neg (by omega),if_pos (by omega)]at hk;exact hk
      ·rw[show Int.toNat (I+4+1)=i+5 by omega]at g3
       rw[if_neg (by omega),if_neg (by omega),if_neg (by omega),if_pos (by omega)]at hk;exact hk
      ·rw[hlen];omega
      ·rw[hb];exact q2
      ·rw[show Int.toNat (I+4+1)=i+5 by omega]at g3
       rw[hb];omega
     ·omega
    ·rcases hq with rfl | ⟨rfl,_⟩ | ⟨rfl,q1,q2,q3⟩
     ·omega
     ·omega
     ·rw[if_neg (by omega),if_neg (by omega),if_neg (by omega),if_neg (by omega),List.drop_drop]at hk
      rw[Ab (I+6) (by omega) (by omega)]
      refine MT (i:=i+6) (by omega) hl (by omega) (fun e he hm=>?_) fun m M hM hm=>?_
      ·rw[hm]at hk
       exact Aa (fun _=>hk) fun h=>absurd he h
      ·rw[hm]at hk
       obtain⟨hm1,hm2⟩:=EK _ _ _ _ hm
       simp only at hk
       refine Aa (fun h=>absurd rfl h) fun _=>?_
       refine Aa (fun h5=>?_) fun h5=>Aa (fun h6=>?_) fun h6=>?_
       ·rw[if_pos (by omega)]at hk;exact hk
       ·rw[if_pos (by omega)]at hk;exact hk
       ·rw[if_neg (by omega)]at hk
        rw[show(2:Int)^(min (Int.toNat (10:Int)) (IntKind.bits .i64))=1024 by decide,Ab (N-55296) (by omega) (by omega),Ab ((N-55296)*1024) (by omega) (by omega),Ab (65536+(N-55296)*1024) (by omega) (by omega),
         Ab (65536+(N-55296)*1024+M) (by omega) (by omega),Ab (65536+(N-55296)*1024+M-56320) (by omega) (by omega),Ly _ (by omega) (by omega),Ab _ (by omega) (by omega)]
        have e1:(65536+(N-55296)*1024+M-56320)=((65536+(n-55296)*1024+(m-56320):Nat):Int):=by omega
        have e2:I+10=((i+10:Nat):Int):=by omega
        rw[e1,e2]
        exact hk
def pK:Except Int (Nat×Nat)->Int | .ok p=>((2+p.2:Nat):Int) | .error _=>0
theorem pair_ok {s:B8} {I:Int} {i:Nat} {st:St} {K:Int->Int->Int->St->Prop} (hI:I=(i:Int)) (hl:s.length<=2000000) (hi:i+2<=s.length)
  (hk:K (eR (DL (s.drop (i+2)))) (pK (DL (s.drop (i+2)))) (eE (DL (s.drop (i+2)))) st):CallT PR BW [.str s,.int .i64 I] [.one (.int .i64),.one (.int .i64),.one (.int .i64)] st K:=by
 have hlen:(s.drop (i+2)).length=s.length-(i+2):=by simp
 have hb:∀j,bt (s.drop (i+2)) j=(s.getD (i+2+j) 0).toNat:=fun j=>BF s (i+2) j
 have hc:DL (s.drop (i+2))=DL (s.drop (i+2)):=rfl
 unfold DL at hk
 refine Fi s I st K ?_
 rw[Ab (I+2) (by omega) (by omega)]
 refine Li (i:=i+2) (by omega) hl hi (fun e he hn=>?_) fun n N hN hn=>?_
 ·rw[hn]at hk
  exact Aa (fun _=>hk) fun h=>absurd he h
 ·rw[hn]at hk
  obtain⟨hn1,hn2⟩:=EK _ _ _ _ hn
  simp only at hk
  refine Aa (fun h=>absurd rfl h) fun _=>Aa (fun h1=>?_) fun h1=>Aa (fun h2=>?_) fun h2=>Aa (fun h3=>?_) fun h3=>?_
  ·rw[if_neg (by omega),if_pos (by omega)]at hk
   rw[hN];exact hk
  ·rw[if_neg (by omega),if_pos (by omega)]at hk
   rw[hN];exact hk
  ·rw[if_pos (by omega)]at hk;exact hk
  ·rw[if_neg (by omega),if_neg (by omega)]at hk
   rw[hlen,hb,hb]at hk
   rw[Ab (I+6) (by omega) (by omega)]
   refine Aa (fun g1=>?_) fun g1=>⟨⟨by omega,by omega⟩,Aa (fun g2=>?_) fun g2=>?_⟩
   ·rw[if_pos (by omega)]at hk;exact hk
   ·rw[show Int.toNat (I+6)=i+2+4 by omega]at g2
    rw[if_neg (by omega),if_pos (by omega)]at hk;exact hk
   ·rw[show Int.toNat (I+6)=i+2+4 by omega]at g2
    rw[Ab (I+7) (by omega) (by omega)]
    refine Aa (fun g3=>?_) fun g3=>⟨⟨by omega,by omega⟩,Aa (fun g4=>?_) fun g4=>?_⟩
    ·rw[if_neg (by omega),if_neg (by omega),if_pos (by omega)]at hk;exact hk
    ·rw[show Int.toNat (I+7)=i+2+5 by omega]at g4
     rw[if_neg (by omega),if_neg (by omega),if_neg (by omega),if_pos (by omega)]at hk;exact hk
    ·rw[show Int.toNat (I+7)=i+2+5 by omega]at g4
     rw[if_neg (by omega),if_neg (by omega),if_neg (by omega),if_neg (by omega),List.drop_drop]at hk
     rw[Ab (I+8) (by omega) (by omega)]
     refine Li (i:=i+2+6) (by omega) hl (by omega) (fun e he hm=>?_) fun m M hM hm=>?_
     ·rw[hm]at hk
      exact Aa (fun _=>hk) fun h=>absurd he h
     ·rw[hm]at hk
      obtain⟨hm1,hm2⟩:=EK _ _ _ _ hm
      simp only at hk
      refine Aa (fun h=>absurd rfl h) fun _=>Aa (fun h5=>?_) fun h5=>Aa (fun h6=>?_) fun h6=>?_
      ·rw[if_pos (by omega)]at hk;exact hk
      ·rw[if_pos (by omega)]at hk;exact hk
      ·rw[if_neg (by omega)]at hk
       rw[Ab (N-55296) (by omega) (by omega),Ab ((N-55296)*1024) (by omega) (by omega),Ab (65536+(N-55296)*1024) (by omega) (by omega),
        Ab (65536+(N-55296)*1024+M) (by omega) (by omega),Ab (65536+(N-55296)*1024+M-56320) (by omega) (by omega)]
       have e1:(65536+(N-55296)*1024+M-56320)=((65536+(n-55296)*1024+(m-56320):Nat):Int):=by omega
       rw[e1]
       exact hk
theorem IX (l:B8):DL l≠.error 0:=by
 unfold DL
 cases hn:Ci 4 l 0 with
 | error e=>intro h;simp only[Except.error.injEq]at h;subst h;exact FE _ _ _ hn
 | ok n=>
  simp only
  repeat' split
  all_goals first | (simp;done) | skip
  rename_i e hm
  intro h;simp only[Except.error.injEq]at h;subst h;exact FE _ _ _ hm
def F1 (c:Nat):Option UInt8:=if c=34 then some 34 else if c=92 then some 92 else if c=47 then some 47 else if c=98 then some 8 else if c=102 then some 12 else if c=110 then some 10 else if c=114 then some 13 else if c=116 then some 9 else none
def simT (n:Nat):Bool:=match F1 n with
 | none=>decide (Lib.indexByte Fp (UInt8.ofNat n)= -1)
 | some d=>decide (0<=Lib.indexByte Fp (UInt8.ofNat n))&&decide (Lib.indexByte Fp (UInt8.ofNat n)<8)&&decide (Jw.getD (Lib.indexByte Fp (UInt8.ofNat n)).toNat 0=d)
theorem N6:∀n,n<256->simT n=true:=by decide+kernel
theorem sim_idx (c:UInt8):(F1 c.toNat=none/\Lib.indexByte Fp c= -1)∨∃d,F1 c.toNat=some d/\0<=Lib.indexByte Fp c/\Lib.indexByte Fp c<8/\Jw.getD (Lib.indexByte Fp c).toNat 0=d:=by
 have h:=N6 c.toNat c.toNat_lt
 unfold simT at h
 rw[UInt8.ofNat_toNat]at h
 cases hd:F1 c.toNat with
 | none=>rw[hd]at h;exact .inl ⟨rfl,by simpa using h⟩
 | some d=>rw[hd]at h;simp only[Bool.and_eq_true,decide_eq_true_eq]at h;exact .inr ⟨d,rfl,h.1.1,h.1.2,h.2⟩
def qF:Nat->Nat->B8->B8->Nat->Except Int (B8×Nat)
 | 0,_,_,_,_=> .error 4
 | f+1,m,l,acc,n=>
  if l.length=0 then .error 4
  else if bt l 0=m then .ok (acc,n+1)
  else if ul l=0∨bt l 0<32 then .error 5
  else if bt l 0≠92∨m=39 then qF f m (l.drop (ul l)) (acc++l.take (ul l)) (n+ul l)
  else if l.length<=1 then .error 4
  else if bt l 1=117 then match DL (l.drop 2)with
   | .error e=> .error e
   | .ok p=>qF f m (l.drop (2+p.2)) (acc++CC p.1) (n+(2+p.2))
  else match F1 (bt l 1)with
   | none=> .error 3
   | some c=>qF f m (l.drop 2) (acc++[c]) (n+2)
def qL:Except Int (B8×Nat)->B8 | .ok p=>p.1 | .error _=>[]
def qN:Except Int (B8×Nat)->Int | .ok p=>p.2 | .error _=>0
theorem I5 {l:B8} {st:St} {K:Int->Int->St->Prop} (hne:l≠ []) (hk:∀R N:Int,((ul l=0/\R=65533/\N=1)∨(ul l≠0/\R=(ur l:Nat)/\N=(ul l:Nat)/\¬(R=65533/\N=1)/\ul l<=l.length/\ul l<=4))->K R N st):CallT PR AP [.str l] [.one (.int .i32),.one (.int .i64)] st K:=by
 refine NG (hk _ _ ?_)
 have hd:dG l=dN l:=by unfold dG;rw[if_neg hne]
 rw[hd]
 by_cases h:ul l=0
 ·rw[(JV l hne).1 h];exact .inl ⟨h,rfl,rfl⟩
 ·rw[OV l h]
  have h1:=ul_not l h
  have h2:=Ic l h
  exact .inr ⟨h,rfl,rfl,by simp only;omega,h2.2.2.1,h2.2.2.2⟩
theorem Hx {s:B8} {I:Int} {i:Nat} {st:St} {K:B8->Int->Int->St->Prop} (hI:I=(i:Int)) (hl:s.length<=2000000) (hi:i<s.length)
  (hk:∀st',Ax st st'->K (qL (qF (s.length+1) (bt (s.drop i) 0) (s.drop (i+1)) [] (i+1))) (qN (qF (s.length+1) (bt (s.drop i) 0) (s.drop (i+1)) [] (i+1))) (eE (qF (s.length+1) (bt (s.drop i) 0) (s.drop (i+1)) [] (i+1))) st'):
  CallT PR AU [.str s,.int .i64 I] [.one (.str),.one (.int .i64),.one (.int .i64)] st K:=by
 have hm0:((List.getD s (Int.toNat I) 0).toNat:Int)=((bt (s.drop i) 0:Nat):Int):=by rw[BF,hI];rfl
 refine Gn s I st K ⟨⟨by omega,by omega⟩,?_⟩
 rw[hm0]
 generalize bt (s.drop i) 0=m at*
 generalize hX:qF (s.length+1) m (s.drop (i+1)) [] (i+1)=X at*
 refine⟨fun j out s' mk st'=>s=s'/\(m:Int)=mk/\Ax st st'/\∃(k f:Nat) (acc:B8),j=(k:Int)/\k<=s.length/\s.length<k+f/\acc.length<=4*k/\HJ st.nt st' out acc/\qF f m (s.drop k) acc k=X,fun j _ _ _ _=>(s.length-j).toNat,⟨rfl,rfl,Ax.refl _,i+1,s.length+1,[],by rw[Ab _ (by omega) (by omega)];omega,by omega,by omega,by simp,HJ.nil _ _,hX⟩,?_⟩
 rintro _ out _ _ st1 ⟨rfl,rfl,e,k,f,acc,rfl,h1,h2,h3,h4,h5⟩
 cases f with
 | zero=>omega
 | succ f=>
 simp only[qF]at h5
 have hlen:(s.drop k).length=s.length-k:=by simp
 have hb:∀j,bt (s.drop k) j=(s.getD (k+j) 0).toNat:=BF s k
 have e0:Int.toNat (k:Int)=k:=rfl
 rw[hb,hb]at h5
 rw[hlen]at h5
 refine Aa (fun g1=>?_) fun g1=>?_
 ·have hne:s.drop k≠ []:=by
   intro h0
   have:=congrArg List.length h0
   rw[hlen]at this;simp at this;omega
  rw[if_neg (by omega)]at h5
  refine⟨⟨by omega,by omega⟩,I5 hne fun R N hD=>⟨⟨by omega,by omega⟩,?_⟩⟩
  rw[e0]at hD
  rw[hlen]at hD
  rw[e0,show(k:Nat)+0=k from rfl]at*
  generalize hc0:(s.getD k 0).toNat=c0 at*
  refine Aa (fun g2=>?_) fun g2=>⟨⟨by omega,by omega⟩,Aa (fun g3=>?_) fun g3=>?_⟩
  ·rw[if_pos (by omega)]at h5
   rw[<-h5]at hk
   rw[Ab _ (by omega) (by omega)]
   refine Ac (show _=some (TV.str acc) by rw[h4.rd.toBytes];rfl) ?_
   exact hk st1 e
  ·rw[if_neg (by omega),if_pos (by omega)]at h5
   rw[<-h5]at hk
   exact hk st1 e
  ·rw[if_neg (by omega)]at h5
   refine Aa (fun g4=>Aa (fun g5=>?_) fun g5=>?_) fun g4=>?_
   ·rw[if_pos (by omega)]at h5
    rw[<-h5]at hk
    exact hk st1 e
   all_goals
    obtain⟨d0,_,d2,d3,d4,d5⟩:(ul (s.drop k)≠0/\R=(ur (s.drop k):Nat)/\N=(ul (s.drop k):Nat)/\¬(R=65533/\N=1)/\ul (s.drop k)<=s.length-k/\ul (s.drop k)<=4):=by
     rcases hD with⟨_,x1,x2⟩ | hD
     ·first | exact absurd x2 g5 | exact absurd x1 g4
     ·exact hD
    rw[if_neg (by omega)]at h5
    refine⟨⟨by omega,by omega⟩,Aa (fun g6=>?_) fun g6=>Aa (fun g6=>?_) fun g7=>Aa (fun g8=>?_) fun g8=>?_⟩
    iterate 2
     ·rw[if_pos (by omega)]at h5
      rw[Ab ((k:Int)+N) (by omega) (by omega)]
      refine⟨⟨by omega,by omega,by omega⟩,Ac rfl (Ae (LU _) ?_)⟩
      rw[CQ,show Int.toNat ((k:Int)+N)-k=ul (s.drop k) by omega]
      refine FR e h4 rfl rfl ?_ fun v' st' e' _ ho=>⟨⟨rfl,rfl,e',k+ul (s.drop k),f,_,by omega,by omega,by omega,?_,ho,?_⟩,by dsimp only;omega⟩
      ·rw[List.length_take,hlen];omega
      ·rw[List.length_append,List.length_take,hlen];omega
      ·rw[<-h5,List.drop_drop]
    ·rw[Ab ((k:Int)+1) (by omega) (by omega)]at g8
     rw[if_neg (by omega),if_pos (by omega)]at h5
     rw[<-h5]at hk
     exact hk st1 e
    ·rw[Ab ((k:Int)+1) (by omega) (by omega)]at g8
     rw[Ab ((k:Int)+1) (by omega) (by omega)]
     rw[if_neg (by omega),if_neg (by omega)]at h5
     refine⟨⟨by omega,by omega⟩,?_⟩
     rw[show Int.toNat ((k:Int)+1)=k+1 from rfl]
     refine Aa (fun g9=>?_) fun g9=>⟨⟨by omega,by omega⟩,EJ ?_⟩
     ·rw[if_pos (by omega),List.drop_drop]at h5
      rw[Ab ((k:Int)+2) (by omega) (by omega)]
      refine ND (i:=k+2) (by omega) hl (by omega) ?_
      cases hes:DL (s.drop (k+2))with
      | error e1=>
       rw[hes]at h5
       rw[<-h5]at hk
       exact Aa (fun _=>hk st1 e) fun h=>absurd hes (by rw[show e1=0 from Decidable.not_not.1 h];exact IX _)
      | ok p=>
       rw[hes]at h5
       simp only at h5
       obtain⟨q1,q2,q3,q4⟩:=Kh hes
       rw[List.length_drop]at q2
       refine Aa (fun h=>absurd rfl h) fun _=>Jr rfl q1 e h4 (by omega) fun v' st' e' ho=>⟨⟨rfl,rfl,e',k+(2+p.2),f,_,?_,by omega,by omega,?_,ho,?_⟩,?_⟩
       ·show((k+2+p.2:Nat):Int)=_;omega
       ·have:=G8 p.1;rw[List.length_append];omega
       ·rw[<-h5,List.drop_drop]
       ·show((s.length:Int)-((k+2+p.2:Nat):Int)).toNat<((s.length:Int)-(k:Int)).toNat
        omega
     ·rw[if_neg (by omega)]at h5
      rw[Int.toNat_natCast,show((s.getD (k+1) 0).toNat).toUInt8=s.getD (k+1) 0 by simp]
      rcases sim_idx (s.getD (k+1) 0)with⟨hd,hx⟩ | ⟨d,hd,hx1,hx2,hx3⟩
      ·rw[hd]at h5
       rw[hx]
       rw[<-h5]at hk
       exact Aa (fun _=>hk st1 e) fun h=>absurd (by decide) h
      ·rw[hd]at h5
       generalize Lib.indexByte Fp (s.getD (k+1) 0)=X1 at*
       refine Aa (fun h=>by omega) fun _=>⟨⟨by omega,by show X1<8;omega⟩,?_⟩
       rw[hx3,Ab ((k:Int)+2) (by omega) (by omega)]
       refine FR (ys:=[d]) e h4 rfl rfl (by simp;omega) fun v' st' e' _ ho=>⟨⟨rfl,rfl,e',k+2,f,_,by omega,by omega,by omega,?_,ho,?_⟩,by dsimp only;omega⟩
       ·simp;omega
       ·rw[<-h5,List.drop_drop]
 ·rw[if_pos (by omega)]at h5
  rw[<-h5]at hk
  exact hk st1 e
def IY (l:B8):Except Int (Nat×Nat):=
 if bt l 0=117 then match DL (l.drop 1)with | .error e=> .error e | .ok p=> .ok (p.1,2+p.2)
 else match F1 (bt l 0)with | none=> .error 3 | some c=> .ok (c.toNat,2)
def rK:Except Int (Nat×Nat)->Int | .ok p=>p.2 | .error _=>0
theorem LJ {s:B8} {I:Int} {i:Nat} {st:St} {K:Int->Int->Int->St->Prop} (hI:I=(i:Int)) (hl:s.length<=2000000) (hi:i<s.length)
  (h0:s.length<=i+1->K 0 0 4 st) (hk:i+1<s.length->K (eR (IY (s.drop (i+1)))) (rK (IY (s.drop (i+1)))) (eE (IY (s.drop (i+1)))) st):
  CallT PR Bz [.str s,.int .i64 I] [.one (.int .i64),.one (.int .i64),.one (.int .i64)] st K:=by
 refine Er s I st K ?_
 rw[Ab (I+1) (by omega) (by omega)]
 refine Aa (fun h1=>h0 (by omega)) fun h1=>⟨⟨by omega,by omega⟩,?_⟩
 have hk:=hk (by omega)
 unfold IY at hk
 have hb:bt (s.drop (i+1)) 0=(s.getD (i+1) 0).toNat:=BF s (i+1) 0
 rw[hb,List.drop_drop]at hk
 rw[show Int.toNat (I+1)=i+1 by omega]
 have hlt:=(s.getD (i+1) 0).toNat_lt
 generalize hc:(s.getD (i+1) 0).toNat=c at*
 refine⟨fun b s' i' n' st'=>s=s'/\I=i'/\(c:Int)=n'/\st=st'/\b=decide (c=34∨c=92∨c=47),?_,?_⟩
 ·refine Aa (fun h=>⟨rfl,rfl,rfl,rfl,decide_eq_decide.2 (by omega)⟩) fun h=>Aa (fun h=>⟨rfl,rfl,rfl,rfl,decide_eq_decide.2 (by omega)⟩) fun h=>⟨rfl,rfl,rfl,rfl,decide_eq_decide.2 (by omega)⟩
 ·rintro b _ _ _ _ ⟨rfl,rfl,rfl,rfl,rfl⟩
  rw[Ab (I+1) (by omega) (by omega),show Int.toNat (I+1)=i+1 by omega,hc]
  have hs:∀d:UInt8,F1 c=some d->c≠117->K (d.toNat:Int) 2 0 st:=fun d hd h117=>by
   rw[if_neg h117,hd]at hk;exact hk
  refine Aa (fun h=>⟨⟨by omega,by omega⟩,?_⟩) fun h=>?_
  ·rw[Ab (c:Int) (by omega) (by omega)]
   rcases h with rfl | rfl | rfl
   ·exact hs 34 rfl (by decide)
   ·exact hs 92 rfl (by decide)
   ·exact hs 47 rfl (by decide)
  ·refine Aa (fun h1=>?_) fun h1=>Aa (fun h2=>?_) fun h2=>Aa (fun h3=>?_) fun h3=>Aa (fun h4=>?_) fun h4=>Aa (fun h5=>?_) fun h5=>Aa (fun h6=>?_) fun h6=>?_
   ·have:c=98:=by omega
    subst this;exact hs 8 rfl (by decide)
   ·have:c=102:=by omega
    subst this;exact hs 12 rfl (by decide)
   ·have:c=110:=by omega
    subst this;exact hs 10 rfl (by decide)
   ·have:c=114:=by omega
    subst this;exact hs 13 rfl (by decide)
   ·have:c=116:=by omega
    subst this;exact hs 9 rfl (by decide)
   ·have:c=117:=by omega
    rw[if_pos this]at hk
    refine pair_ok hI hl (by omega) ?_
    cases hes:DL (s.drop (i+2))with
    | error e=>rw[hes]at hk;exact hk
    | ok p=>rw[hes]at hk;exact hk
   ·rw[if_neg (by omega)]at hk
    have:F1 c=none:=by
     unfold F1
     rw[if_neg (by omega),if_neg (by omega),if_neg (by omega),if_neg (by omega),if_neg (by omega),if_neg (by omega),if_neg (by omega),if_neg (by omega)]
    rw[this]at hk
    exact hk
theorem HN {s:B8} {I:Int} {k:Nat} {st:St} {K:Int->Int->St->Prop} (hI:I=(k:Int)) (hl:s.length<=2000000) (hi:k<=s.length)
  (hk:∀R N:Int,((ul (s.drop k)=0/\R=0/\N=0)∨(ul (s.drop k)≠0/\R=(ur (s.drop k):Nat)/\N=(ul (s.drop k):Nat)/\ul (s.drop k)<=s.length-k/\ul (s.drop k)<=4/\Az (ur (s.drop k))/\(ur (s.drop k)<32↔bt (s.drop k) 0<32)))->K R N st):CallT PR AR [.str s,.int .i64 I] [.one (.int .i64),.one (.int .i64)] st K:=by
 refine K0 hI hl hi (hk _ _ ?_)
 unfold rD
 by_cases h:ul (s.drop k)=0
 ·rw[if_pos h];exact .inl ⟨h,rfl,rfl⟩
 ·rw[if_neg h]
  have h2:=Ic _ h
  have hne:s.drop k≠ []:=fun h0=>h (by rw[h0];simp[ul])
  refine .inr ⟨h,rfl,rfl,by have:=h2.2.2.1;simp only[List.length_drop]at this;exact this,h2.2.2.2,h2.1,?_⟩
  by_cases hb:bt (s.drop k) 0<128
  ·rw[(Im _ hne hb).2]
  ·have:=ul_high _ h (by omega)
   omega
theorem IA {R:Int} {r:Nat} {st:St} {K:B8->Int->St->Prop} (hR:R=(r:Int)) (hc:Az r) (hk:K (CC r) 0 st):CallT PR Ar [.int .i64 R] [.one (.str),.one (.int .i64)] st K:=by
 have:=hc.1
 refine IZ hR (by omega) ?_
 rw[if_pos hc,if_pos hc];exact hk
theorem Jx {c:Nat} {d:UInt8} (h:F1 c=some d):Az d.toNat/\CC d.toNat=[d]:=by
 unfold F1 at h
 repeat' split at h
 all_goals first | (cases h;done) | (simp only[Option.some.injEq]at h;subst h;exact⟨by unfold Az;decide,rfl⟩)
theorem escR_ok {l:B8} {p:Nat×Nat} (h:IY l= .ok p):Az p.1/\p.2<=l.length+1/\2<=p.2∨l.length=0:=by
 by_cases hl:l.length=0
 ·exact .inr hl
 left
 unfold IY at h
 split at h
 ·cases hes:DL (l.drop 1)with
  | error e=>rw[hes]at h;cases h
  | ok q=>
   rw[hes]at h
   simp only[Except.ok.injEq]at h
   subst h
   obtain⟨h1,h2,h3,h4⟩:=Kh (r:=q.1) (k:=q.2) hes
   rw[List.length_drop]at h2
   exact⟨h1,by simp only;omega,by simp only;omega⟩
 ·cases hd:F1 (bt l 0)with
  | none=>rw[hd]at h;cases h
  | some d=>
   rw[hd]at h
   simp only[Except.ok.injEq]at h
   subst h
   exact⟨(Jx hd).1,by simp only;omega,Nat.le_refl _⟩
theorem qF_esc {f m:Nat} {l acc:B8} {n:Nat} (hm:m≠92) (hm2:m≠39) (h0:l.length≠0) (hc:bt l 0=92):
  qF (f+1) m l acc n=if l.length<=1 then .error 4 else match IY (l.drop 1)with | .error e=> .error e | .ok p=>qF f m (l.drop p.2) (acc++CC p.1) (n+p.2):=by
 have hne:l≠ []:=fun h=>h0 (by rw[h];rfl)
 have hu:=(Im l hne (by omega)).1
 simp only[qF]
 rw[if_neg h0,if_neg (by omega),if_neg (by omega),if_neg (by omega)]
 by_cases h1:l.length<=1
 ·rw[if_pos h1,if_pos h1]
 ·rw[if_neg h1,if_neg h1]
  unfold IY
  rw[BF,List.drop_drop]
  by_cases h2:bt l 1=117
  ·rw[if_pos h2,if_pos h2]
   cases DL (l.drop 2)with
   | error e=>rfl
   | ok p=>rfl
  ·rw[if_neg h2,if_neg h2]
   show(match F1 (bt l 1)with | none=>_ | some c=>_)=_
   cases hd:F1 (bt l 1)with
   | none=>simp only[Nat.add_zero,hd]
   | some d=>simp only[Nat.add_zero,hd,(Jx hd).2]
theorem OQ (l:B8):IY l≠.error 0:=by
 unfold IY
 split
 ·cases hes:DL (l.drop 1)with
  | error e=>intro h;simp only[Except.error.injEq]at h;subst h;exact IX _ hes
  | ok p=>simp
 ·cases F1 (bt l 0)<;>simp
theorem LI {s:B8} {I:Int} {i:Nat} {st:St} {K:B8->Int->Int->St->Prop} (hI:I=(i:Int)) (hl:s.length<=2000000) (hi:i<s.length)
  (hk:K (qL (qF (s.length+1) 34 (s.drop (i+1)) [] (i+1))) (qN (qF (s.length+1) 34 (s.drop (i+1)) [] (i+1))) (eE (qF (s.length+1) 34 (s.drop (i+1)) [] (i+1))) st):
  CallT PR BA [.str s,.int .i64 I] [.one (.str),.one (.int .i64),.one (.int .i64)] st K:=by
 generalize hX:qF (s.length+1) 34 (s.drop (i+1)) [] (i+1)=X at*
 refine Es s I st K ⟨fun j acc s' st'=>s=s'/\st=st'/\∃(k f:Nat),j=(k:Int)/\k<=s.length/\s.length<k+f/\acc.length<=4*k/\qF f 34 (s.drop k) acc k=X,fun j _ _ _=>(s.length-j).toNat,⟨rfl,rfl,i+1,s.length+1,by rw[Ab _ (by omega) (by omega)];omega,by omega,by omega,by simp,hX⟩,?_⟩
 rintro _ acc _ _ ⟨rfl,rfl,k,f,rfl,h1,h2,h3,h5⟩
 cases f with
 | zero=>omega
 | succ f=>
 have hlen:(s.drop k).length=s.length-k:=by simp
 have hb:bt (s.drop k) 0=(s.getD k 0).toNat:=BF s k 0
 have e0:Int.toNat (k:Int)=k:=rfl
 refine Aa (fun g1=>?_) fun g1=>?_
 ·simp only[qF]at h5
  rw[if_pos (by omega)]at h5
  rw[<-h5]at hk
  exact hk
 ·rw[e0]
  refine⟨⟨by omega,by omega⟩,Aa (fun g2=>?_) fun g2=>⟨⟨by omega,by omega⟩,Aa (fun g3=>?_) fun g3=>?_⟩⟩
  ·simp only[qF]at h5
   rw[if_neg (by omega),if_pos (by omega)]at h5
   rw[<-h5]at hk
   rw[Ab _ (by omega) (by omega)]
   exact hk
  ·rw[qF_esc (by decide) (by decide) (by omega) (by omega),hlen,List.drop_drop]at h5
   refine LJ rfl hl (by omega) (fun g4=>?_) fun g4=>?_
   ·rw[if_pos (by omega)]at h5
    rw[<-h5]at hk
    exact Aa (fun _=>hk) fun h=>absurd (by decide) h
   ·rw[if_neg (by omega)]at h5
    cases hes:IY (s.drop (k+1))with
    | error e1=>
     rw[hes]at h5
     rw[<-h5]at hk
     exact Aa (fun _=>hk) fun h=>absurd hes (by rw[show e1=0 from Decidable.not_not.1 h];exact OQ _)
    | ok p=>
     rw[hes]at h5
     simp only at h5
     have hq:=escR_ok hes
     rw[List.length_drop]at hq
     obtain⟨q1,q2,q3⟩:Az p.1/\p.2<=s.length-(k+1)+1/\2<=p.2:=by
      rcases hq with hq | hq
      ·exact hq
      ·omega
     have hel:=G8 p.1
     refine Aa (fun h=>absurd rfl h) fun _=>IA (r:=p.1) rfl q1 ?_
     rw[Ab ((k:Int)+rK (.ok p)) (by show _<=(k:Int)+(p.2:Int);omega) (by show(k:Int)+(p.2:Int)<=_;omega)]
     refine⟨by omega,⟨rfl,rfl,k+p.2,f,rfl,by omega,by omega,by rw[List.length_append];omega,?_⟩,?_⟩
     ·rw[<-h5,List.drop_drop]
     ·show((s.length:Int)-((k:Int)+(p.2:Int))).toNat<((s.length:Int)-(k:Int)).toNat
      omega
  ·simp only[qF]at h5
   rw[if_neg (by omega),if_neg (by omega)]at h5
   refine HN rfl hl (by omega) fun R N hD=>?_
   refine Aa (fun g4=>Aa (fun _=>?_) fun h=>absurd (by decide) h) fun g4=>Aa (fun g5=>Aa (fun _=>?_) fun h=>absurd (by decide) h) fun g5=>Aa (fun h=>absurd rfl h) fun _=>?_
   ·rw[if_pos (by omega)]at h5
    rw[<-h5]at hk
    exact hk
   ·rw[if_pos (by omega)]at h5
    rw[<-h5]at hk
    exact hk
   ·obtain⟨d0,d1,d2,d3,d4,d5,d6⟩:(ul (s.drop k)≠0/\R=(ur (s.drop k):Nat)/\N=(ul (s.drop k):Nat)/\ul (s.drop k)<=s.length-k/\ul (s.drop k)<=4/\Az (ur (s.drop k))/\(ur (s.drop k)<32↔bt (s.drop k) 0<32)):=by
     rcases hD with⟨_,_,x2⟩ | hD
     ·exact absurd x2 g4
     ·exact hD
    rw[if_neg (by omega),if_pos (by omega),List.drop_drop]at h5
    have he:=(Ic _ d0).2.1
    refine IA d1 d5 ?_
    have hel:=G8 (ur (s.drop k))
    rw[Ab ((k:Int)+N) (by omega) (by omega),he]
    rw[he]at hel
    refine⟨by omega,⟨rfl,rfl,k+ul (s.drop k),f,by omega,by omega,by omega,by rw[List.length_append];omega,h5⟩,by dsimp only;omega⟩
theorem JA:∀(f:Nat) (s:B8) (k i:Nat),i<=k->k<=s.length->s.length<k+f->∀acc,acc=(s.take k).drop i->
  (∃n,i<=n/\n+1<=s.length/\qF f 39 (s.drop k) acc k= .ok ((s.take n).drop i,n+1))∨∃e,e≠0/\qF f 39 (s.drop k) acc k= .error e
 | 0,s,k,i,h1,h2,h3,acc,ha=>by omega
 | f+1,s,k,i,h1,h2,h3,acc,ha=>by
  have hlen:(s.drop k).length=s.length-k:=by simp
  simp only[qF]
  by_cases g1:(s.drop k).length=0
  ·rw[if_pos g1];exact .inr ⟨4,by decide,rfl⟩
  rw[if_neg g1]
  by_cases g2:bt (s.drop k) 0=39
  ·rw[if_pos g2];exact .inl ⟨k,h1,by omega,by rw[ha]⟩
  rw[if_neg g2]
  by_cases g3:ul (s.drop k)=0∨bt (s.drop k) 0<32
  ·rw[if_pos g3];exact .inr ⟨5,by decide,rfl⟩
  rw[if_neg g3,if_pos (.inr trivial),List.drop_drop]
  have hu:=MD (s.drop k)
  refine JA f s (k+ul (s.drop k)) i (by omega) (by omega) (by omega) _ ?_
  rw[ha,List.take_add,List.drop_append_of_le_length (by rw[List.length_take];omega)]
theorem Nn {s:B8} {I:Int} {i:Nat} {st:St} {K:Int->Int->St->Prop} (hI:I=(i:Int)) (hl:s.length<=2000000) (hi:i<s.length)
  (hk:K (qN (qF (s.length+1) 39 (s.drop (i+1)) [] (i+1))) (eE (qF (s.length+1) 39 (s.drop (i+1)) [] (i+1))) st):
  CallT PR Bx [.str s,.int .i64 I] [.one (.int .i64),.one (.int .i64)] st K:=by
 generalize hX:qF (s.length+1) 39 (s.drop (i+1)) [] (i+1)=X at*
 refine Ep s I st K ⟨fun j s' st'=>s=s'/\st=st'/\∃(k f:Nat) (acc:B8),j=(k:Int)/\k<=s.length/\s.length<k+f/\qF f 39 (s.drop k) acc k=X,fun j _ _=>(s.length-j).toNat,⟨rfl,rfl,i+1,s.length+1,[],by rw[Ab _ (by omega) (by omega)];omega,by omega,by omega,hX⟩,?_⟩
 rintro _ _ _ ⟨rfl,rfl,k,f,acc,rfl,h1,h2,h5⟩
 cases f with
 | zero=>omega
 | succ f=>
 have hlen:(s.drop k).length=s.length-k:=by simp
 have hb:bt (s.drop k) 0=(s.getD k 0).toNat:=BF s k 0
 have e0:Int.toNat (k:Int)=k:=rfl
 simp only[qF]at h5
 refine Aa (fun g1=>⟨⟨by omega,by omega⟩,?_⟩) fun g1=>?_
 ·rw[e0]
  rw[if_neg (by omega)]at h5
  refine Aa (fun g2=>?_) fun g2=>HN rfl hl (by omega) fun R N hD=>?_
  ·rw[if_pos (by omega)]at h5
   rw[<-h5]at hk
   rw[Ab _ (by omega) (by omega)]
   exact hk
  ·rw[if_neg (by omega)]at h5
   refine Aa (fun g4=>?_) fun g4=>Aa (fun g5=>?_) fun g5=>?_
   ·rw[if_pos (by omega)]at h5
    rw[<-h5]at hk
    exact hk
   ·rw[if_pos (by omega)]at h5
    rw[<-h5]at hk
    exact hk
   ·rw[if_neg (by omega),if_pos (.inr trivial),List.drop_drop]at h5
    rw[Ab ((k:Int)+N) (by omega) (by omega)]
    exact⟨⟨rfl,rfl,k+ul (s.drop k),f,_,by omega,by omega,by omega,h5⟩,by dsimp only;omega⟩
 ·rw[if_pos (by omega)]at h5
  rw[<-h5]at hk
  exact hk
theorem Hy:∀(ps:List (Option UInt8)) (l:B8) (n:Nat),ps.length<=n->CF ps (l.take n)=CF ps l
 | [],l,n,h=>by simp[CF]
 | _::_,[],n,h=>by simp
 | none::ps,c::cs,0,h=>by simp at h
 | some a::ps,c::cs,0,h=>by simp at h
 | none::ps,c::cs,n+1,h=>by simp only[List.take_succ_cons,CF];rw[Hy ps cs n (by simpa using h)]
 | some a::ps,c::cs,n+1,h=>by simp only[List.take_succ_cons,CF];rw[Hy ps cs n (by simpa using h)]
theorem pat11:Df 100 [100,100,100,100,45,100,100,45,100,100,32,100,100,58]=Df 48 N2++Df 48 N1:=by decide
theorem K3 (l:B8):CF (Df 100 [100,100,100,100,45,100,100,45,100,100,32,100,100,58]) l=(CF (Df 48 N2) (l.take 10)&&CF (Df 48 N1) (l.drop 10)):=by
 rw[pat11,Fz,Hy _ _ _ (by decide)]
 rfl
def Lz (l:B8):Nat:=if twl CG l=10/\CF (Df 100 [100,100,100,100,45,100,100,45,100,100,32,100,100,58]) l=true then 11+twl CG (l.drop 11)else twl CG l
theorem wlen_le (l:B8):Lz l<=l.length:=by
 unfold Lz
 split
 ·rename_i h
  have h1:=Ip CG (l.drop 11)
  have h2:14<=l.length:=by
   apply Decidable.byContradiction
   intro hh
   rw[Dy _ _ (by show l.length<14;omega)]at h
   exact absurd h.2 (by decide)
  rw[List.length_drop]at h1
  omega
 ·exact Ip _ _
theorem NT {s:B8} {I:Int} {i:Nat} {st:St} {K:Int->St->Prop} (hI:I=(i:Int)) (hl:s.length<=2000000) (hi:i<=s.length) (hk:∀st',Ax st st'->K ((i+Lz (s.drop i):Nat):Int) st'):
  CallT PR Cy [.str s,.int .i64 I] [.one (.int .i64)] st K:=by
 have htl:=Ip CG (s.drop i)
 rw[List.length_drop]at htl
 refine GG s I st K (GA fun v u st1 e c1 c2=>GN hI hl hi c2 ?_)
 have hsp:=K3 (s.drop i)
 rw[List.drop_drop]at hsp
 have hw:∀x,(if twl CG (s.drop i)=10/\CF (Df 100 [100,100,100,100,45,100,100,45,100,100,32,100,100,58]) (s.drop i)=true then 11+twl CG (s.drop (i+11))else twl CG (s.drop i))=x->K ((i+x:Nat):Int) st1:=by
  intro x hx
  have:=hk st1 e
  unfold Lz at this
  rw[List.drop_drop,hx]at this
  exact this
 generalize hN:((i+twl CG (s.drop i):Nat):Int)=N
 refine Aa (fun h1=>?_) fun h1=>?_
 ·rw[Ab _ (by omega) (by omega)]at h1
  have h10:twl CG (s.drop i)=10:=by omega
  refine⟨⟨by omega,by omega,by omega⟩,IE (by decide) ?_⟩
  rw[CQ,show Int.toNat N-Int.toNat I=10 by omega,show Int.toNat I=i by omega]
  refine Ay (fun h2=>⟨⟨by omega,by omega⟩,IE (by decide) ?_⟩) fun h2=>?_
  ·rw[show Int.toNat N=i+10 by omega]
   refine Ay (fun h3=>?_) fun h3=>?_
   ·have h14:4<=(s.drop (i+10)).length:=by
     apply Decidable.byContradiction
     intro hh
     rw[Dy _ _ (by show _<4;omega)]at h3
     exact absurd h3 (by decide)
    rw[List.length_drop]at h14
    rw[Ab _ (by omega) (by omega)]
    refine GN (i:=i+11) (by omega) hl (by omega) c2 ?_
    have:=hw _ (if_pos ⟨h10,by rw[hsp,h2,h3];rfl⟩)
    rw[show i+(11+twl CG (s.drop (i+11)))=i+11+twl CG (s.drop (i+11)) by omega]at this
    exact this
   ·rw[<-hN]
    refine hw _ (if_neg fun h=>absurd h3 ?_)
    have:=h.2
    rw[hsp,Bool.and_eq_true]at this
    rw[this.2];decide
  ·rw[<-hN]
   refine hw _ (if_neg fun h=>absurd h2 ?_)
   have:=h.2
   rw[hsp,Bool.and_eq_true]at this
   rw[this.1];decide
 ·rw[Ab _ (by omega) (by omega)]at h1
  rw[<-hN]
  exact hw _ (if_neg fun h=>h1 (by omega))
theorem crlf (l:B8):l.take Jv.length=Jv↔1<l.length/\bt l 0=13/\bt l 1=10:=by
 have e:∀(a b:UInt8),a=b↔a.toNat=b.toNat:=fun a b=>UInt8.toNat_inj.symm
 rcases l with _ | ⟨a,_ | ⟨b,l⟩⟩
 ·simp[Jv]
 ·simp[Jv]
 ·simp[Jv,bt,e]
def cF:Nat->B8->Nat->Option Nat
 | 0,_,_=>none
 | f+1,l,k=>if l.length=0 then some k else if bt l 0=10 then some k else if 1<l.length/\bt l 0=13/\bt l 1=10 then some k
  else if ul l=0 then none else cF f (l.drop (ul l)) (k+ul l)
theorem cF_le:∀(f:Nat) (l:B8) (k n:Nat),cF f l k=some n->k<=n/\n<=k+l.length
 | 0,l,k,n,h=>by cases h
 | f+1,l,k,n,h=>by
  simp only[cF]at h
  repeat' split at h
  all_goals first | (cases h;done) | (simp only[Option.some.injEq]at h;omega) | skip
  have h1:=cF_le f _ _ _ h
  have h2:=MD l
  rw[List.length_drop]at h1
  omega
theorem Ml {s:B8} {I:Int} {i:Nat} {st:St} {K:Int->Int->St->Prop} (hI:I=(i:Int)) (hl:s.length<=2000000) (hi:i<=s.length)
  (h1:∀(k:Nat),cF (s.length+1) (s.drop i) i=some k->K (k:Int) 0 st) (h2:cF (s.length+1) (s.drop i) i=none->K 0 5 st):
  CallT PR B7 [.str s,.int .i64 I] [.one (.int .i64),.one (.int .i64)] st K:=by
 refine FU s I st K ⟨fun j s' st'=>s=s'/\st=st'/\∃k f:Nat,j=(k:Int)/\k<=s.length/\s.length<k+f/\cF f (s.drop k) k=cF (s.length+1) (s.drop i) i,fun j _ _=>(s.length-j).toNat,⟨rfl,rfl,i,s.length+1,hI,hi,by omega,rfl⟩,?_⟩
 rintro _ _ _ ⟨rfl,rfl,k,f,rfl,h3,h4,h5⟩
 cases f with
 | zero=>omega
 | succ f=>
 have hlen:(s.drop k).length=s.length-k:=by simp
 have hb:bt (s.drop k) 0=(s.getD k 0).toNat:=BF s k 0
 have e0:Int.toNat (k:Int)=k:=rfl
 simp only[cF]at h5
 rw[e0]
 refine Aa (fun g1=>⟨⟨by omega,by omega⟩,?_⟩) fun g1=>?_
 ·rw[if_neg (by omega)]at h5
  have hne:s.drop k≠ []:=by
   intro h0
   have:=congrArg List.length h0
   rw[hlen]at this;simp at this;omega
  refine Aa (fun g2=>⟨⟨by omega,by omega⟩,G5 (Ay (fun g3=>?_) fun g3=>?_)⟩) fun g2=>?_
  ·have g3:¬(1<(s.drop k).length/\bt (s.drop k) 0=13/\bt (s.drop k) 1=10):=fun h=>by
    rw[decide_eq_true ((crlf _).2 h)]at g3;exact absurd g3 (by decide)
   rw[if_neg (by omega),if_neg g3]at h5
   refine⟨⟨by omega,by omega⟩,I5 hne fun R N hD=>?_⟩
   refine Aa (fun g4=>Aa (fun g5=>?_) fun g5=>?_) fun g4=>?_
   ·rw[if_pos (by omega)]at h5
    exact h2 h5.symm
   all_goals
    obtain⟨d0,d2,d3⟩:(ul (s.drop k)≠0/\N=(ul (s.drop k):Nat)/\ul (s.drop k)<=(s.drop k).length):=by
     rcases hD with⟨_,x1,x2⟩ | hD
     ·first | exact absurd x2 g5 | exact absurd x1 g4
     ·exact⟨hD.1,hD.2.2.1,hD.2.2.2.2.1⟩
    rw[if_neg (by omega),List.drop_drop]at h5
    rw[Ab _ (by omega) (by omega)]
    exact⟨⟨rfl,rfl,k+ul (s.drop k),f,by omega,by omega,by omega,h5⟩,by dsimp only;omega⟩
  ·have g3:1<(s.drop k).length/\bt (s.drop k) 0=13/\bt (s.drop k) 1=10:=by
    refine(crlf _).1 (Decidable.byContradiction fun h=>absurd g3 ?_)
    rw[decide_eq_false h];decide
   rw[if_neg (by omega),if_pos g3]at h5
   exact h1 k h5.symm
  ·rw[if_pos (by omega)]at h5
   exact h1 k h5.symm
 ·rw[if_pos (by omega)]at h5
  exact h1 k h5.symm
theorem J6:∀(f m:Nat) (l acc:B8) (n:Nat),qF f m l acc n≠.error 0
 | 0,m,l,acc,n=>by simp[qF]
 | f+1,m,l,acc,n=>by
  simp only[qF]
  repeat' split
  all_goals first | (simp;done) | exact J6 f _ _ _ _ | skip
  rename_i e he
  intro h;simp only[Except.error.injEq]at h;subst h;exact IX _ he
theorem ML:∀(f m:Nat) (l acc:B8) (n:Nat) (p:B8×Nat),qF f m l acc n= .ok p->n<p.2/\p.2<=n+l.length
 | 0,m,l,acc,n,p,h=>by simp[qF]at h
 | f+1,m,l,acc,n,p,h=>by
  simp only[qF]at h
  by_cases g1:l.length=0
  ·rw[if_pos g1]at h;cases h
  rw[if_neg g1]at h
  by_cases g2:bt l 0=m
  ·rw[if_pos g2]at h
   simp only[Except.ok.injEq]at h
   subst h
   exact⟨by simp only;omega,by simp only;omega⟩
  rw[if_neg g2]at h
  by_cases g3:ul l=0∨bt l 0<32
  ·rw[if_pos g3]at h;cases h
  rw[if_neg g3]at h
  by_cases g4:bt l 0≠92∨m=39
  ·rw[if_pos g4]at h
   have h1:=ML f _ _ _ _ _ h
   have h2:=MD l
   rw[List.length_drop]at h1
   omega
  rw[if_neg g4]at h
  by_cases g5:l.length<=1
  ·rw[if_pos g5]at h;cases h
  rw[if_neg g5]at h
  by_cases g6:bt l 1=117
  ·rw[if_pos g6]at h
   cases hes:DL (l.drop 2)with
   | error e=>rw[hes]at h;cases h
   | ok q=>
    rw[hes]at h
    have h1:=ML f _ _ _ _ _ h
    have h2:=(Kh (r:=q.1) (k:=q.2) hes).2.1
    rw[List.length_drop]at h1 h2
    omega
  rw[if_neg g6]at h
  cases hd:F1 (bt l 1)with
  | none=>rw[hd]at h;cases h
  | some c=>
   rw[hd]at h
   have h1:=ML f _ _ _ _ _ h
   rw[List.length_drop]at h1
   omega
def Of (c:Nat):Bool:=decide (c=91∨c=93∨c=123∨c=125∨c=44∨c=61)
theorem Nt:∀n,n<256->decide (0<=Lib.indexByte N3 (UInt8.ofNat n))=Of n:=by decide+kernel
theorem Ns (c:UInt8):0<=Lib.indexByte N3 c↔Of c.toNat=true:=by
 have h:=Nt c.toNat c.toNat_lt
 rw[UInt8.ofNat_toNat]at h
 rw[<-h,decide_eq_true_eq]
theorem Jj {l:B8} {C:Int} {c:UInt8} {st:St} {K:Int->St->Prop} (hC:C=(c.toNat:Int)) (hk:K (Lib.indexByte l c) st):CallT PR AL [.str l,.int .u8 C] [.one (.int .i64)] st K:=by
 refine EJ ?_
 rw[hC,Int.toNat_natCast,show(c.toNat).toUInt8=c by simp]
 exact hk
theorem MP {s:B8} {I:Int} {i:Nat} {st:St} {K:Int->Int->St->Prop} (hI:I=(i:Int)) (hl:s.length<=2000000) (hi:i<s.length)
  (h1:(s.getD i 0).toNat=10->K ((i+1:Nat):Int) 0 st) (h2:(s.getD i 0).toNat≠10->s.length=i+1->K 0 4 st) (h3:(s.getD i 0).toNat≠10->s.length≠i+1->(s.getD (i+1) 0).toNat=10->K ((i+2:Nat):Int) 0 st)
  (h4:(s.getD i 0).toNat≠10->s.length≠i+1->(s.getD (i+1) 0).toNat≠10->K 0 3 st):CallT PR B3 [.str s,.int .i64 I] [.one (.int .i64),.one (.int .i64)] st K:=by
 refine He s I st K ⟨⟨by omega,by omega⟩,?_⟩
 rw[Ab (I+1) (by omega) (by omega),Ab (I+2) (by omega) (by omega),show Int.toNat I=i by omega,show Int.toNat (I+1)=i+1 by omega]
 rw[show((i+1:Nat):Int)=I+1 by omega]at h1
 rw[show((i+2:Nat):Int)=I+2 by omega]at h3
 refine Aa (fun g1=>h1 (by omega)) fun g1=>Aa (fun g2=>h2 (by omega) (by omega)) fun g2=>⟨⟨by omega,by omega⟩,Aa (fun g3=>h3 (by omega) (by omega) (by omega)) fun g3=>h4 (by omega) (by omega) (by omega)⟩
def tokC (c c1:Nat) (s:B8) (i:Nat):Except Int (Int×Nat):=
 if c=32∨c=9 then .ok (1,i+twl Ho (s.drop i))
 else if c=10 then .ok (2,i+1)
 else if c=13 then(if s.length=i+1 then .error 4 else if c1=10 then .ok (2,i+2)else .error 3)
 else if c=35 then(match cF (s.length+1) (s.drop i) i with | none=> .error 5 | some k=> .ok (3,k))
 else if c=91∨c=93∨c=123∨c=125∨c=44∨c=61 then .ok (4,i+1)
 else if c=34∨c=39 then(match qF (s.length+1) c (s.drop (i+1)) [] (i+1)with | .error e=> .error e | .ok p=> .ok (5,p.2))
 else if CG (c:Int)=true then .ok (6,i+Lz (s.drop i))else .error 3
def KB (s:B8) (i:Nat):Except Int (Int×Nat):=tokC (bt (s.drop i) 0) (bt (s.drop i) 1) s i
theorem tend_ok {s:B8} {I:Int} {i:Nat} {st:St} {K:Int->Int->Int->St->Prop} (hI:I=(i:Int)) (hl:s.length<=2000000) (hi:i<s.length)
  (h1:∀p st',Ax st st'->KB s i= .ok p->K p.1 (p.2:Nat) 0 st') (h2:∀e kd k st',Ax st st'->KB s i= .error e->K kd k e st'):
  CallT PR CZ [.str s,.int .i64 I] [.one (.int .i64),.one (.int .i64),.one (.int .i64)] st K:=by
 refine H2 s I st K (GA fun v u st1 e c1 c2=>⟨⟨by omega,by omega⟩,?_⟩)
 rw[show Int.toNat I=i by omega]
 unfold KB at h1 h2
 have hb:bt (s.drop i) 0=(s.getD i 0).toNat:=BF s i 0
 have hb1:bt (s.drop i) 1=(s.getD (i+1) 0).toNat:=BF s i 1
 have hpi:=Ns (s.getD i 0)
 rw[hb]at h1 h2
 rw[hb1]at h1 h2
 generalize hc:(s.getD i 0).toNat=c at*
 unfold tokC at h1 h2
 refine Aa (fun g1=>?_) fun g1=>Aa (fun g2=>?_) fun g2=>Aa (fun g3=>?_) fun g3=>Aa (fun g4=>?_) fun g4=>Aa (fun g5=>?_) fun g5=>Jj (c:=s.getD i 0) (by rw[hc]) (Aa (fun g6=>?_) fun g6=>Aa (fun g7=>?_) fun g7=>Aa (fun g8=>?_) fun g8=>?_)
 ·refine GN hI hl (by omega) (Lo st1) ?_
  rw[if_pos (by omega)]at h1
  exact h1 _ _ e rfl
 ·refine GN hI hl (by omega) (Lo st1) ?_
  rw[if_pos (by omega)]at h1
  exact h1 _ _ e rfl
 ·refine MP hI hl hi (fun q=>?_) (fun q=>?_) (fun q=>?_) fun q=>?_
  ·rw[if_neg (by omega),if_pos (by omega)]at h1;exact h1 _ _ e rfl
  all_goals omega
 ·refine MP hI hl hi (fun q=>?_) (fun q q2=>?_) (fun q q2 q3=>?_) fun q q2 q3=>?_
  ·omega
  ·rw[if_neg (by omega),if_neg (by omega),if_pos (by omega),if_pos q2]at h2;exact h2 _ _ _ _ e rfl
  ·rw[if_neg (by omega),if_neg (by omega),if_pos (by omega),if_neg q2,if_pos q3]at h1;exact h1 _ _ e rfl
  ·rw[if_neg (by omega),if_neg (by omega),if_pos (by omega),if_neg q2,if_neg q3]at h2;exact h2 _ _ _ _ e rfl
 ·rw[if_neg (by omega),if_neg (by omega),if_neg (by omega),if_pos (by omega)]at h1 h2
  refine Ml hI hl (by omega) (fun k hk=>?_) fun hk=>?_
  ·rw[hk]at h1;exact h1 _ _ e rfl
  ·rw[hk]at h2;exact h2 _ _ _ _ e rfl
 ·have g6:=of_decide_eq_true (hpi.1 g6)
  rw[if_neg (by omega),if_neg (by omega),if_neg (by omega),if_neg (by omega),if_pos (by omega)]at h1
  rw[Ab _ (by omega) (by omega),show I+1=((i+1:Nat):Int) by omega]
  exact h1 _ _ e rfl
 ·have g6:=of_decide_eq_false (Bool.eq_false_iff.2 fun h=>g6 (hpi.2 h))
  rw[if_neg (by omega),if_neg (by omega),if_neg (by omega),if_neg (by omega),if_neg (by omega),if_pos (by omega)]at h1 h2
  refine Hx hI hl hi fun st2 e2=>?_
  rw[hb]
  cases hq:qF (s.length+1) c (s.drop (i+1)) [] (i+1)with
  | error er=>rw[hq]at h2;exact h2 _ _ _ _ (e.trans e2) rfl
  | ok p=>rw[hq]at h1;exact h1 _ _ (e.trans e2) rfl
 ·have g6:=of_decide_eq_false (Bool.eq_false_iff.2 fun h=>g6 (hpi.2 h))
  rw[if_neg (by omega),if_neg (by omega),if_neg (by omega),if_neg (by omega),if_neg (by omega),if_pos (by omega)]at h1 h2
  refine Hx hI hl hi fun st2 e2=>?_
  rw[hb]
  cases hq:qF (s.length+1) c (s.drop (i+1)) [] (i+1)with
  | error er=>rw[hq]at h2;exact h2 _ _ _ _ (e.trans e2) rfl
  | ok p=>rw[hq]at h1;exact h1 _ _ (e.trans e2) rfl
 ·have g6:=of_decide_eq_false (Bool.eq_false_iff.2 fun h=>g6 (hpi.2 h))
  rw[if_neg (by omega),if_neg (by omega),if_neg (by omega),if_neg (by omega),if_neg (by omega),if_neg (by omega)]at h1 h2
  refine c2 _ (Ax.refl _) _ _ (Ay (fun g9=>?_) fun g9=>?_)
  ·rw[if_pos g9]at h1
   refine NT hI hl (by omega) fun st2 e2=>h1 _ _ (e.trans e2) rfl
  ·rw[if_neg (by rw[g9];decide)]at h2
   exact h2 _ _ _ _ e rfl
theorem NU (s:B8) (i:Nat):KB s i≠.error 0:=by
 unfold KB tokC
 repeat' split
 all_goals first | (simp;done) | skip
 rename_i e he
 intro h;simp only[Except.error.injEq]at h;subst h;exact J6 _ _ _ _ _ he
theorem tokS_le {s:B8} {i:Nat} {p:Int×Nat} (hi:i<s.length) (h:KB s i= .ok p):i<p.2/\p.2<=s.length/\1<=p.1/\p.1<=6:=by
 have hb:bt (s.drop i) 0=(s.getD i 0).toNat:=BF s i 0
 have hb1:bt (s.drop i) 1=(s.getD (i+1) 0).toNat:=BF s i 1
 have hlen:(s.drop i).length=s.length-i:=by simp
 have hlen1:(s.drop (i+1)).length=s.length-(i+1):=by simp
 have hne:s.drop i≠ []:=by
  intro h0
  have:=congrArg List.length h0
  rw[hlen]at this;simp at this;omega
 unfold KB at h
 rw[hb]at h
 rw[hb1]at h
 have hsp:=GM Ho s i hi
 have hwd:=GM CG s i hi
 have hcf:(s.getD i 0).toNat=35->∀k,cF (s.length+1) (s.drop i) i=some k->i<k/\k<=s.length:=fun hc k hk=>by
  have hu:=(Im _ hne (by omega)).1
  simp only[cF]at hk
  rw[if_neg (by omega),if_neg (by omega),if_neg (by omega),if_neg (by omega)]at hk
  have h1:=cF_le _ _ _ _ hk
  rw[List.length_drop,hu]at h1
  omega
 generalize (s.getD i 0).toNat=c at*
 unfold tokC at h
 by_cases g1:c=32∨c=9
 ·rw[if_pos g1]at h
  simp only[Except.ok.injEq]at h
  subst h
  have h1:=Ip Ho (s.drop i)
  rw[if_pos (by unfold Ho;exact decide_eq_true (by omega))]at hsp
  exact⟨by simp only;omega,by simp only;omega,by simp only;decide,by simp only;decide⟩
 rw[if_neg g1]at h
 by_cases g2:c=10
 ·rw[if_pos g2]at h
  simp only[Except.ok.injEq]at h
  subst h
  exact⟨by simp only;omega,by simp only;omega,by simp only;decide,by simp only;decide⟩
 rw[if_neg g2]at h
 by_cases g3:c=13
 ·rw[if_pos g3]at h
  split at h
  ·cases h
  ·split at h
   ·simp only[Except.ok.injEq]at h
    subst h
    exact⟨by simp only;omega,by simp only;omega,by simp only;decide,by simp only;decide⟩
   ·cases h
 rw[if_neg g3]at h
 by_cases g4:c=35
 ·rw[if_pos g4]at h
  cases hk:cF (s.length+1) (s.drop i) i with
  | none=>rw[hk]at h;cases h
  | some k=>
   rw[hk]at h
   simp only[Except.ok.injEq]at h
   subst h
   have:=hcf g4 k hk
   exact⟨by simp only;omega,by simp only;omega,by simp only;decide,by simp only;decide⟩
 rw[if_neg g4]at h
 by_cases g5:c=91∨c=93∨c=123∨c=125∨c=44∨c=61
 ·rw[if_pos g5]at h
  simp only[Except.ok.injEq]at h
  subst h
  exact⟨by simp only;omega,by simp only;omega,by simp only;decide,by simp only;decide⟩
 rw[if_neg g5]at h
 by_cases g6:c=34∨c=39
 ·rw[if_pos g6]at h
  cases hq:qF (s.length+1) c (s.drop (i+1)) [] (i+1)with
  | error e=>rw[hq]at h;cases h
  | ok q=>
   rw[hq]at h
   simp only[Except.ok.injEq]at h
   subst h
   have:=ML _ _ _ _ _ _ hq
   rw[hlen1]at this
   exact⟨by simp only;omega,by simp only;omega,by simp only;decide,by simp only;decide⟩
 rw[if_neg g6]at h
 by_cases g7:CG (c:Int)=true
 ·rw[if_pos g7]at h
  simp only[Except.ok.injEq]at h
  subst h
  rw[if_pos g7]at hwd
  have h1:=wlen_le (s.drop i)
  have h2:0<Lz (s.drop i):=by
   unfold Lz
   split<;>omega
  exact⟨by simp only;omega,by simp only;omega,by simp only;decide,by simp only;decide⟩
 ·rw[if_neg g7]at h;cases h
def nxt (s:B8) (at':Int):Except Int (Int×B8×Int):=
 if at'<0∨(s.length:Int)<at' then .error 1 else if at'=(s.length:Int)then .error 7
 else match KB s at'.toNat with | .error e=> .error e | .ok p=> .ok (p.1,(s.drop at'.toNat).take (p.2-at'.toNat),at')
def nK:Except Int (Int×B8×Int)->Int | .ok p=>p.1 | .error _=>0
def nT:Except Int (Int×B8×Int)->B8 | .ok p=>p.2.1 | .error _=>[]
def nA:Except Int (Int×B8×Int)->Int | .ok p=>p.2.2 | .error _=>0
theorem MN {s:B8} {I:Int} {st:St} {K:Int->B8->Int->Int->St->Prop} (hl:s.length<=2000000)
  (hk:∀st',Ax st st'->K (nK (nxt s I)) (nT (nxt s I)) (nA (nxt s I)) (eE (nxt s I)) st'):
  CallT PR B4 [.str s,.int .i64 I] [.agg [.int .i64,.str,.int .i64],.one (.int .i64)] st K:=by
 unfold nxt at hk
 refine Hf s I st K (Aa (fun g1=>?_) fun g1=>Aa (fun g2=>?_) fun g2=>Aa (fun g3=>?_) fun g3=>?_)
 ·rw[if_pos (by omega)]at hk;exact hk _ (Ax.refl _)
 ·rw[if_pos (by omega)]at hk;exact hk _ (Ax.refl _)
 ·rw[if_neg (by omega),if_pos g3]at hk;exact hk _ (Ax.refl _)
 ·rw[if_neg (by omega),if_neg g3]at hk
  refine tend_ok (i:=I.toNat) (by omega) hl (by omega) (fun p st' e hp=>Aa (fun h=>absurd rfl h) fun _=>?_) fun er kd k st' e hp=>Aa (fun _=>?_) fun h=>absurd hp (by rw[show er=0 from Decidable.not_not.1 h];exact NU _ _)
  ·rw[hp]at hk
   have:=tokS_le (by omega) hp
   refine⟨⟨by omega,by omega,by omega⟩,?_⟩
   rw[CQ,Int.toNat_natCast]
   exact hk _ e
  ·rw[hp]at hk;exact hk _ e
def unq (s:B8):Except Int B8:=
 if s=[]then .error 4 else if bt s 0≠34/\bt s 0≠39 then .error 3
 else match qF (s.length+1) (bt s 0) (s.drop 1) [] 1 with
  | .error e=> .error e
  | .ok p=>if p.2=s.length then .ok p.1 else .error 3
def uL:Except Int B8->B8 | .ok l=>l | .error _=>[]
theorem MF {s:B8} {st:St} {K:B8->Int->St->Prop} (hl:s.length<=2000000) (hk:∀st',Ax st st'->K (uL (unq s)) (eE (unq s)) st'):
  CallT PR A5 [.str s] [.one (.str),.one (.int .i64)] st K:=by
 unfold unq at hk
 have hb:bt s 0=(s.getD 0 0).toNat:=rfl
 refine FW s st K (Aa (fun g1=>?_) fun g1=>?_)
 ·rw[if_pos g1]at hk;exact hk _ (Ax.refl _)
 rw[if_neg g1]at hk
 have hlen:0<s.length:=List.length_pos_iff.2 g1
 rw[show Int.toNat (0:Int)=0 from rfl]
 refine⟨⟨by omega,by omega⟩,Aa (fun g2=>⟨⟨by omega,by omega⟩,Aa (fun g3=>?_) fun g3=>?_⟩) fun g2=>?_⟩
 ·rw[if_pos (by omega)]at hk;exact hk _ (Ax.refl _)
 all_goals
  rw[if_neg (by omega)]at hk
  refine Hx (i:=0) rfl hl hlen fun st' e=>?_
  rw[show qF (s.length+1) (bt (s.drop 0) 0) (s.drop (0+1)) [] (0+1)=qF (s.length+1) (bt s 0) (s.drop 1) [] 1 from rfl]
  cases hq:qF (s.length+1) (bt s 0) (s.drop 1) [] 1 with
  | error er=>
   rw[hq]at hk
   exact Aa (fun _=>hk _ e) fun h=>absurd hq (by rw[show er=0 from Decidable.not_not.1 h];exact J6 _ _ _ _ _)
  | ok p=>
   rw[hq]at hk
   simp only at hk
   refine Aa (fun h=>absurd rfl h) fun _=>Aa (fun g4=>?_) fun g4=>?_
   ·rw[if_neg (fun h=>g4 (by show(p.2:Int)=_;omega))]at hk;exact hk _ e
   ·rw[if_pos (by have:(p.2:Int)=(s.length:Int):=Decidable.not_not.1 g4
                  omega)]at hk;exact hk _ e
theorem bare_ok {s:B8} {st:St} {K:Bool->St->Prop} (hl:s.length<=2000000) (hk:∀st',Ax st st'->K (decide (s≠ [])&&decide (twl HX s=s.length)) st'):
  CallT PR CN [.str s] [.one (.bool)] st K:=by
 refine Hg s st K (GA fun v u st1 e c1 c2=>Aa (fun g1=>GN (i:=0) rfl hl (by omega) c1 ?_) fun g1=>?_)
 ·have:=hk st1 e
  rw[decide_eq_true g1,Bool.true_and]at this
  refine DM (decide_eq_decide.2 ?_) this
  show((0+twl HX s:Nat):Int)=_↔_
  omega
 ·have:=hk st1 e
  rw[decide_eq_false g1,Bool.false_and]at this
  exact this
theorem nxt0:nK (nxt N5 0)=6/\nT (nxt N5 0)=str3/\nA (nxt N5 0)=0/\eE (nxt N5 0)=0:=by decide+kernel
theorem nxt1:nT (nxt str1 0)=str4/\eE (nxt str1 0)=0:=by decide+kernel
theorem unq2:uL (unq str2)=str5/\eE (unq str2)=0:=by decide+kernel
theorem Lt {st:St} {K:Bool->St->Prop} (hk:∀st',Ax st st'->K true st'):CallT PR Bh [] [.one (.bool)] st K:=by
 refine Fc st K (MN (by decide) fun st1 e1=>MN (by decide) fun st2 e2=>MF (by decide) fun st3 e3=>?_)
 rw[nxt0.1,nxt0.2.1,nxt0.2.2.1,nxt0.2.2.2,nxt1.1,nxt1.2,unq2.1,unq2.2]
 refine Ay (fun _=>?_) fun h=>absurd h (by decide)
 refine Aa (fun _=>?_) fun h=>absurd rfl h
 refine Aa (fun _=>?_) fun h=>absurd rfl h
 refine Aa (fun _=>?_) fun h=>absurd rfl h
 refine Aa (fun _=>?_) fun h=>absurd rfl h
 refine Aa (fun _=>?_) fun h=>absurd rfl h
 refine bare_ok (by decide) fun st4 e4=>?_
 rw[show(decide (str6≠ [])&&decide (twl HX str6=str6.length))=true by decide+kernel]
 exact hk _ (((e1.trans e2).trans e3).trans e4)
def hexC (n:Nat):UInt8:=str20.getD n 0
def escN (n:Nat):B8:=if n=34 then [92,34]else if n=92 then [92,92]else if n=8 then [92,98]else if n=12 then [92,102]else if n=10 then [92,110]else if n=13 then [92,114]else if n=9 then [92,116]
 else if n<32 then [92,117,48,48,hexC (n/16),hexC (n%16)]else [UInt8.ofNat n]
def escQ (s:B8):B8:=s.flatMap fun c=>escN c.toNat
def quo (s:B8):B8:=34::(escQ s++[34])
theorem KW {s:B8} {st:St} {K:B8->Int->St->Prop} (hl:s.length<=2000000) (hk:K (uL (unq s)) (eE (unq s)) st):
  CallT PR A1 [.str s] [.one (.str),.one (.int .i64)] st K:=by
 unfold unq at hk
 have hb:bt s 0=(s.getD 0 0).toNat:=rfl
 refine Eb s st K (Aa (fun g1=>?_) fun g1=>?_)
 ·rw[if_pos g1]at hk;exact hk
 rw[if_neg g1]at hk
 have hlen:0<s.length:=List.length_pos_iff.2 g1
 rw[show Int.toNat (0:Int)=0 from rfl]
 refine⟨⟨by omega,by omega⟩,Aa (fun g2=>?_) fun g2=>?_⟩
 ·refine Ec s st _ (Aa (fun g3=>absurd g3 g1) fun _=>?_)
  rw[show Int.toNat (0:Int)=0 from rfl]
  refine⟨⟨by omega,by omega⟩,Aa (fun g3=>?_) fun g3=>?_⟩
  ·rw[if_pos (by omega)]at hk;exact hk
  ·rw[if_neg (by omega)]at hk
   refine LI (i:=0) rfl hl hlen ?_
   rw[show bt s 0=34 by omega]at hk
   rw[show qF (s.length+1) 34 (s.drop (0+1)) [] (0+1)=qF (s.length+1) 34 (s.drop 1) [] 1 from rfl]
   cases hq:qF (s.length+1) 34 (s.drop 1) [] 1 with
   | error er=>
    rw[hq]at hk
    exact Aa (fun _=>hk) fun h=>absurd hq (by rw[show er=0 from Decidable.not_not.1 h];exact J6 _ _ _ _ _)
   | ok p=>
    rw[hq]at hk
    simp only at hk
    refine Aa (fun h=>absurd rfl h) fun _=>Aa (fun g4=>?_) fun g4=>?_
    ·rw[if_neg (fun h=>g4 (by show(p.2:Int)=_;omega))]at hk;exact hk
    ·rw[if_pos (by have:(p.2:Int)=(s.length:Int):=Decidable.not_not.1 g4
                   omega)]at hk;exact hk
 ·rw[if_neg (by omega)]at hk
  refine Nn (i:=0) rfl hl hlen ?_
  rw[show bt s 0=39 by omega]at hk
  have hs:=JA (s.length+1) s 1 1 (by omega) (by omega) (by omega) [] (by rw[List.drop_of_length_le (by simp;omega)])
  rw[show qF (s.length+1) 39 (s.drop (0+1)) [] (0+1)=qF (s.length+1) 39 (s.drop 1) [] 1 from rfl]
  rcases hs with⟨n,n1,n2,hq⟩ | ⟨er,he,hq⟩
  ·rw[hq]at hk⊢
   simp only at hk
   refine Aa (fun h=>absurd rfl h) fun _=>Aa (fun g4=>?_) fun g4=>?_
   ·rw[if_neg (fun h=>g4 (by show((n+1:Nat):Int)=_;omega))]at hk;exact hk
   ·have:((n+1:Nat):Int)=(s.length:Int):=Decidable.not_not.1 g4
    rw[if_pos (by omega)]at hk
    have w:i64.wrap (qN (.ok ((s.take n).drop 1,n+1))-1)=(n:Int):=by
     show i64.wrap (((n+1:Nat):Int)-1)=_
     rw[Ab _ (by omega) (by omega)];omega
    rw[w]
    exact⟨⟨by omega,by omega,by omega⟩,hk⟩
  ·rw[hq]at hk⊢
   exact Aa (fun _=>hk) fun h=>absurd (Decidable.not_not.1 h) he
theorem Ej (s:B8) (k:Nat):(s.drop k).getD 0 0=s.getD k 0:=by simp[List.getD]
theorem J3 {s:B8} {k:Nat} (hl:s.length<=1000000000) (hk0:k<=s.length) {I:Int} (hI:I=(k:Nat)) {st:St} {K:Int->St->Prop} (hk:K ((k+(Aj (s.drop k)).length:Nat):Int) st):CallT PR A6 [.str s,.int .i64 I] [.one (.int .i64)] st K:=by
 subst hI
 refine F0 s _ st K ⟨fun n s' st'=>s=s'/\st=st'/\∃j:Nat,n=((k+j:Nat):Int)/\k+j<=s.length/\∀i,i<j->AH (s.getD (k+i) 0),fun n _ _=>(s.length-n).toNat,⟨rfl,rfl,0,rfl,by omega,fun j h=>absurd h (Nat.not_lt_zero _)⟩,?_⟩
 rintro _ _ _ ⟨rfl,rfl,j,rfl,hj1,hd⟩
 rw[Int.toNat_natCast]
 have fin:(k+j=s.length∨¬AH (s.getD (k+j) 0))->K ((k+j:Nat):Int) st:=fun h=>by
  have:=El (s.drop k) j (by rw[List.length_drop];omega) (fun i hi=>by have:=hd i hi;simpa [List.getD]using this) (by
   rcases h with h | h
   ·left;rw[List.length_drop];omega
   ·right;simpa [List.getD]using h)
  rw[this]at hk;exact hk
 refine Aa (fun g=>⟨⟨by omega,g⟩,Aa (fun g1=>⟨⟨by omega,g⟩,Aa (fun g2=>?_) fun g2=>fin (.inr fun h=>g2 (by have:=h.2;omega))⟩) fun g1=>fin (.inr fun h=>g1 (by have:=h.1;omega))⟩) fun g=>fin (.inl (by omega))
 rw[Ab _ (by omega) (by omega)]
 refine⟨⟨rfl,rfl,j+1,by omega,by omega,fun i hi=>?_⟩,by dsimp only;omega⟩
 by_cases hij:i=j
 ·subst hij;exact⟨by omega,by omega⟩
 ·exact hd i (by omega)
theorem KJ:∀(s:B8) (k:Nat),k<=s.length->(∀j,j<k->s.getD j 0=48)->(k=s.length∨s.getD k 0≠48)->AI s=s.drop k
 | [],k,_,_,_=>by simp[AI]
 | a::s,0,_,_,h=>by
  have:a≠48:=by
   rcases h with h | h
   ·simp at h
   ·exact h
  rw[Fo this];rfl
 | a::s,k+1,h1,h2,h3=>by
  have ha:a=48:=h2 0 (by omega)
  subst ha
  have:=Gt 1 s
  rw[show List.replicate 1 (48:UInt8)++s=48::s from rfl]at this
  rw[this,List.drop_succ_cons]
  exact KJ s k (by simpa using h1) (fun j hj=>h2 (j+1) (by omega)) (by
   rcases h3 with h3 | h3
   ·exact .inl (by simpa using h3)
   ·exact .inr h3)
theorem KI {s:B8} (hl:s.length<=1000000000) {st:St} {K:B8->St->Prop} (hk:K (AI s) st):CallT PR Bg [.str s] [.one .str] st K:=by
 refine Fb s st K ⟨fun n s' st'=>s=s'/\st=st'/\∃k:Nat,n=k/\k<=s.length/\∀j,j<k->s.getD j 0=48,fun n _ _=>(s.length-n).toNat,⟨rfl,rfl,0,rfl,Nat.zero_le _,fun j h=>absurd h (Nat.not_lt_zero _)⟩,?_⟩
 rintro _ _ _ ⟨rfl,rfl,k,rfl,hk1,hd⟩
 rw[Int.toNat_natCast]
 have fin:(k=s.length∨s.getD k 0≠48)->K (s.drop k) st:=fun h=>by rw[KJ s k hk1 hd h]at hk;exact hk
 refine Aa (fun g=>⟨⟨by omega,g⟩,Aa (fun g1=>?_) fun g1=>⟨⟨by omega,by omega⟩,fin (.inr fun h=>g1 (u8i (k:=48) |>.2 h))⟩⟩) fun g=>⟨⟨by omega,by omega⟩,fin (.inl (by omega))⟩
 rw[Ab _ (by omega) (by omega)]
 refine⟨⟨rfl,rfl,k+1,by omega,by omega,fun j hj=>?_⟩,by dsimp only;omega⟩
 by_cases hjk:j=k
 ·subst hjk;exact(u8i (k:=48)).1 g1
 ·exact hd j (by omega)
theorem Nq {l:B8} (hl:l.length<=18) (hd:∀c,c∈l->AH c) (h0:l.getD 0 0≠48) {st:St} {K:Int->Int->St->Prop} (hk:K (A3 l:Nat) 0 st):CallT PR BN [.str l] [.one (.int .i64),.one (.int .i64)] st K:=by
 refine Fa l st K (rNum_ok (by omega) ?_)
 have hno:decide (Hc l)=true:=decide_eq_true ⟨by omega,hd,fun _=>h0⟩
 rw[hno]
 refine Ay (fun h=>by cases h) fun _=>Aa (fun g=>by omega) fun _=>Aa (fun g=>by omega) fun _=>?_
 refine⟨fun n i l' st'=>l=l'/\st=st'/\∃k:Nat,i=k/\k<=l.length/\n=(A3 (l.take k):Nat),fun _ i _ _=>(l.length-i).toNat,⟨rfl,rfl,0,rfl,Nat.zero_le _,rfl⟩,?_⟩
 rintro _ _ _ _ ⟨rfl,rfl,k,rfl,hkl,rfl⟩
 rw[Int.toNat_natCast]
 refine Aa (fun g=>⟨⟨by omega,g⟩,?_⟩) fun g=>?_
 ·have hk':k<l.length:=by omega
  have hv:=EA hd hl k hk'
  have hs:=Ed hk'
  have hc:=hd _ (Dz hk')
  obtain⟨c1,c2⟩:=hc
  rw[Ab (10*_) (by omega) (by omega),Ab ((List.getD l k 0).toNat:Int) (by omega) (by omega),Ab (_+_) (by omega) (by omega),Ab _ (by omega) (by omega),Ab _ (by omega) (by omega)]
  exact⟨⟨rfl,rfl,k+1,by omega,by omega,by rw[hs];omega⟩,by dsimp only;omega⟩
 ·have:k=l.length:=by omega
  subst this
  rw[List.take_length]at*;exact hk
theorem Oh {l:B8} (hl:l.length<=1000000) (hd:∀c,c∈l->AH c) {st:St} {K:Int->St->Prop} (hk:K ((if (AI l).length<=9 then A3 l else 1000000000:Nat):Int) st):CallT PR BK [.str l] [.one (.int .i64)] st K:=by
 refine E6 l st K (KI (by omega) (Aa (fun g=>?_) fun g=>?_))
 ·rw[if_neg (by omega)]at hk;exact hk
 ·rw[if_pos (by omega)]at hk
  refine Nq (by omega) (fun c hc=>hd c (EB l c hc)) (Fn l) ?_
  rw[Dv];exact hk
theorem Nw {neg:Bool} {s:B8} {ex:Int} (hl:s.length<=2000000) (h1: -3000000000000<=ex) (h2:ex<=3000000000000) {st:St} {K:Bool->B8->Int->Int->St->Prop} (hk:KD K (dcN neg (AI s) ex) st):
  CallT PR BD [.bool neg,.str s,.int .i64 ex] [.agg [.bool,.str,.int .i64],.one (.int .i64)] st K:=by
 refine Ey neg s ex st K (KI (by omega) ?_)
 have hsl:=CJ s
 generalize AI s=t at*
 unfold KD dcN at hk
 refine Aa (fun g=>by rw[if_pos g]at hk;exact hk) fun g=>Np (by omega) ?_
 rw[if_neg g]at hk
 have ht:=Ii t
 have e2:i64.wrap ((t.length:Int)-(Bi t:Nat))=((t.length-Bi t:Nat):Int):=by rw[Ab _ (by omega) (by omega)];omega
 rw[e2,Int.toNat_natCast,Ab (ex+_) (by omega) (by omega)]
 have hlen:(t.take (t.length-Bi t)).length=t.length-Bi t:=by rw[List.length_take];omega
 rw[hlen]
 refine⟨⟨by omega,by omega⟩,Aa (fun g1=>?_) fun g1=>Aa (fun g2=>?_) fun g2=>Aa (fun g3=>?_) fun g3=>Aa (fun g4=>?_) fun g4=>?_⟩
 ·rw[if_pos (by omega)]at hk;exact hk
 ·rw[if_pos (by omega)]at hk;exact hk
 ·rw[if_pos (by omega)]at hk;exact hk
 ·rw[if_pos (by omega)]at hk;exact hk
 ·rw[if_neg (by omega)]at hk;exact hk
theorem Cm {s:B8} {k:Nat} {c:UInt8} (hc:c≠0) (h:s.getD k 0=c):k<s.length:=by
 by_cases hk:k<s.length
 ·exact hk
 ·rw[show s.getD k 0=0 by simp[List.getD,Nat.le_of_not_lt hk]]at h
  exact absurd h.symm hc
theorem rP_ok {s:B8} (hl:s.length<=1000000) {st:St} {K:Bool->B8->Int->Int->St->Prop} (hk:KD K (dcP s) st):CallT PR Bf [.str s] [.agg [.bool,.str,.int .i64],.one (.int .i64)] st K:=by
 refine E7 s st K ⟨fun i s1 _ _ _ st'=>s=s1/\st=st'/\∃j:Nat,i=j/\j<=1/\j<=s.length/\dcP s=dcQ (decide (i=1)) (s.drop j),?_,?_⟩
 ·have no:¬s.getD 0 0=45->dcP s=dcQ (decide ((0:Int)=1)) (s.drop 0):=fun h=>by unfold dcP;rw[if_neg h];rfl
  refine Aa (fun g=>⟨⟨by omega,g⟩,Aa (fun g1=>⟨rfl,rfl,1,rfl,by omega,by omega,?_⟩) fun g1=>⟨rfl,rfl,0,rfl,by omega,by omega,no fun h=>g1 (u8i (k:=45) |>.2 h)⟩⟩) fun g=>⟨rfl,rfl,0,rfl,by omega,by omega,no fun h=>?_⟩
  ·unfold dcP;rw[if_pos (show s.getD 0 0=45 from(u8i (k:=45)).1 g1)];rfl
  ·have:=Cm (by decide) h;omega
 rintro i _ _ _ _ _ ⟨rfl,rfl,j,rfl,hj1,hjl,h1⟩
 rw[h1]at hk
 clear h1
 generalize decide (((j:Nat):Int)=1)=neg at*
 have hrl:=Bs (s.drop j)
 rw[List.length_drop]at hrl
 refine J3 (by omega) hjl rfl ?_
 have hdr:s.drop (j+(Aj (s.drop j)).length)=(s.drop j).drop (Aj (s.drop j)).length:=by rw[List.drop_drop]
 have htk:(s.take (j+(Aj (s.drop j)).length)).drop j=Aj (s.drop j):=by rw[List.drop_take,Nat.add_sub_cancel_left];exact Ck _
 have hdg:=DB (s.drop j)
 have hlen:(Aj (s.drop j)).length=(Aj (s.drop j)).length:=rfl
 generalize ha:Aj (s.drop j)=a at*
 refine⟨fun s2 i2 neg2 k2 _ _ _ st'=>s=s2/\((j:Nat):Int)=i2/\neg=neg2/\((j+a.length:Nat):Int)=k2/\st=st'/\dcQ neg (s.drop j)=dcF neg a (s.drop (j+a.length)),Aa (fun g=>?_) fun g=>?_,?_⟩
 ·have:a=[]:=List.length_eq_zero_iff.1 (by omega)
  unfold KD dcQ at hk
  rw[ha,if_pos (.inl this)]at hk;exact hk
 ·have hpos:j<s.length:=by omega
  rw[Int.toNat_natCast]
  have hne:a≠ []:=fun h=>g (by rw[h];simp)
  refine⟨⟨by omega,by omega⟩,Aa (fun g3=>?_) fun g3=>⟨rfl,rfl,rfl,rfl,rfl,?_⟩⟩
  ·have h48:(s.drop j).getD 0 0=48:=by rw[Ej];exact(u8i (k:=48)).1 g3
   rw[Ab _ (by omega) (by omega)]
   refine Aa (fun g4=>?_) fun g4=>⟨rfl,rfl,rfl,rfl,rfl,?_⟩
   ·unfold KD dcQ at hk
    rw[ha,if_pos (.inr ⟨by omega,h48⟩)]at hk;exact hk
   ·unfold dcQ
    rw[ha,if_neg (by rintro(h | ⟨h,_⟩);exact hne h;omega),hdr]
  ·unfold dcQ
   rw[ha,if_neg (by rintro(h | ⟨_,h⟩);exact hne h;exact g3 (by rw[Ej]at h;exact(u8i (k:=48)).2 h)),hdr]
 rintro _ _ _ _ _ _ _ _ ⟨rfl,rfl,rfl,rfl,rfl,h2⟩
 rw[h2]at hk
 have hka:j+a.length<=s.length:=by omega
 rw[Int.toNat_natCast,Int.toNat_natCast,htk]
 have hal:a.length<=1000000:=by omega
 have hjk:j<=j+a.length:=Nat.le_add_right _ _
 have hak:a.length<=j+a.length:=Nat.le_add_left _ _
 generalize hkk:j+a.length=k at*
 clear h2 htk hdr hkk ha hlen hrl
 refine⟨⟨by omega,by omega,by omega⟩,?_⟩
 refine⟨fun k3 all ex s3 neg3 _ _ _ st'=>s=s3/\neg=neg3/\st=st'/\ -1000000<=ex/\ex<=0/\all.length<=1000000/\(∀c,c∈all->AH c)/\∃m:Nat,k3=m/\m<=s.length/\dcF neg a (s.drop k)=dcE neg all ex (s.drop m),?_,?_⟩
 ·refine⟨fun b s3 neg3 k3 dg ex _ _ _ st'=>s=s3/\neg=neg3/\((k:Nat):Int)=k3/\a=dg/\(0:Int)=ex/\st=st'/\b=decide ((s.drop k).getD 0 0=46),Aa (fun g=>⟨⟨by omega,g⟩,rfl,rfl,rfl,rfl,rfl,rfl,?_⟩) fun g=>⟨rfl,rfl,rfl,rfl,rfl,rfl,?_⟩,?_⟩
  ·rw[Ej];exact decide_eq_decide.2 (u8i (k:=46))
  ·refine(decide_eq_false fun h=>?_).symm
   rw[Ej]at h
   have:=Cm (by decide) h;omega
  rintro b _ _ _ _ _ _ _ _ _ ⟨rfl,rfl,rfl,rfl,rfl,rfl,rfl⟩
  refine Aa (fun g=>?_) fun g=>⟨rfl,rfl,rfl,by omega,by omega,hal,hdg,k,rfl,hka,?_⟩
  ·have g46:s.getD k 0=46:=by rw[<-Ej];exact g
   have hkl:=Cm (by decide) g46
   have hf1:=Bs (s.drop (k+1))
   rw[List.length_drop]at hf1
   have htk:(s.take (k+1+(Aj (s.drop (k+1))).length)).drop (k+1)=Aj (s.drop (k+1)):=by rw[List.drop_take,Nat.add_sub_cancel_left];exact Ck _
   have hdf:=DB (s.drop (k+1))
   rw[Ab (((k:Nat):Int)+1) (by omega) (by omega)]
   refine J3 (k:=k+1) (by omega) (by omega) (by omega) ?_
   have hd1:(s.drop k).drop 1=s.drop (k+1):=by rw[List.drop_drop]
   generalize hf:Aj (s.drop (k+1))=f at*
   refine Aa (fun g2=>?_) fun g2=>?_
   ·have:f=[]:=List.length_eq_zero_iff.1 (by omega)
    unfold KD dcF at hk
    rw[if_pos g,hd1,hf,if_pos this]at hk;exact hk
   ·rw[show(((k:Nat):Int)+1).toNat=k+1 by omega,Int.toNat_natCast,htk,Ab _ (by omega) (by omega)]
    refine⟨⟨by omega,by omega,by omega⟩,by omega,rfl,rfl,rfl,by omega,by omega,by rw[List.length_append];omega,fun c hc=>?_,k+1+f.length,rfl,by omega,?_⟩
    ·rcases List.mem_append.1 hc with hc | hc
     ·exact hdg c hc
     ·exact hdf c hc
    ·unfold dcF
     rw[if_pos g,hd1,hf,if_neg (fun e=>g2 (by rw[e];simp)),List.drop_drop]
     rw[show((k:Nat):Int)+1-((k+1+f.length:Nat):Int)= -(f.length:Nat) by omega,show k+(1+f.length)=k+1+f.length by omega]
  ·unfold dcF;rw[if_neg g]
 rintro _ all ex _ _ _ _ _ _ ⟨rfl,rfl,rfl,x1,x2,x3,x5,m,rfl,hm,h3⟩
 rw[h3]at hk
 clear h3 hdg hal hka hak
 refine⟨fun k7 ex7 s7 neg7 dg7 _ _ _ st'=>s=s7/\neg=neg7/\all=dg7/\st=st'/\ -3000000000<=ex7/\ex7<=3000000000/\∃p:Nat,k7=p/\p<=s.length/\dcE neg all ex (s.drop m)=(if p<s.length then Gi else dcN neg (AI all) ex7),?_,?_⟩
 ·refine⟨fun b s5 neg5 k5 dg5 ex5 _ _ _ st'=>s=s5/\neg=neg5/\((m:Nat):Int)=k5/\all=dg5/\ex=ex5/\st=st'/\b=decide ((s.drop m).getD 0 0=101∨(s.drop m).getD 0 0=69),Aa (fun g=>?_) fun g=>⟨rfl,rfl,rfl,rfl,rfl,rfl,?_⟩,?_⟩
  ·rw[Ej,Int.toNat_natCast]
   refine⟨⟨by omega,g⟩,Aa (fun g1=>⟨rfl,rfl,rfl,rfl,rfl,rfl,?_⟩) fun g1=>⟨⟨by omega,g⟩,rfl,rfl,rfl,rfl,rfl,rfl,?_⟩⟩
   ·exact(decide_eq_true (.inl ((u8i (k:=101)).1 g1))).symm
   ·refine decide_eq_decide.2 ⟨fun h=> .inr ((u8i (k:=69)).1 h),fun h=>?_⟩
    rcases h with h | h
    ·exact absurd ((u8i (k:=101)).2 h) g1
    ·exact(u8i (k:=69)).2 h
  ·refine(decide_eq_false fun h=>?_).symm
   rw[Ej]at h
   rcases h with h | h
   ·have:=Cm (by decide) h;omega
   ·have:=Cm (by decide) h;omega
  rintro b _ _ _ _ _ _ _ _ _ ⟨rfl,rfl,rfl,rfl,rfl,rfl,rfl⟩
  refine Aa (fun g=>?_) fun g=>⟨rfl,rfl,rfl,rfl,by omega,by omega,m,rfl,hm,?_⟩
  ·have hml:m<s.length:=by
    rw[Ej]at g
    rcases g with h | h
    ·exact Cm (by decide) h
    ·exact Cm (by decide) h
   have hne:s.drop m≠ []:=fun e=>by have:=congrArg List.length e;rw[List.length_drop]at this;simp at this;omega
   rw[Ab (((m:Nat):Int)+1) (by omega) (by omega),show(((m:Nat):Int)+1).toNat=m+1 by omega]
   have hd1:(s.drop m).drop 1=s.drop (m+1):=by rw[List.drop_drop]
   have hd2:(s.drop m).drop 2=s.drop (m+1+1):=by rw[List.drop_drop]
   have hE:dcE neg all ex (s.drop m)=if s.getD (m+1) 0=45 then dcX neg all ex true (s.drop (m+1+1))else if s.getD (m+1) 0=43 then dcX neg all ex false (s.drop (m+1+1))else dcX neg all ex false (s.drop (m+1)):=by
    unfold dcE
    rw[if_neg hne,if_pos g,hd1,hd2,Ej]
   refine⟨fun down s6 neg6 k6 dg6 ex6 _ _ _ st'=>s=s6/\neg=neg6/\(((m+1:Nat):Nat):Int)=k6/\all=dg6/\ex=ex6/\st=st'/\down=decide (s.getD (m+1) 0=45),Aa (fun g1=>⟨⟨by omega,g1⟩,rfl,rfl,by omega,rfl,rfl,rfl,decide_eq_decide.2 (u8i (k:=45))⟩) fun g1=>⟨rfl,rfl,by omega,rfl,rfl,rfl,(decide_eq_false fun h=>by have:=Cm (by decide) h;omega).symm⟩,?_⟩
   rintro down _ _ _ _ _ _ _ _ _ ⟨rfl,rfl,rfl,rfl,rfl,rfl,rfl⟩
   rw[Int.toNat_natCast]
   refine⟨fun k8 s8 neg8 dg8 ex8 down8 _ _ _ st'=>s=s8/\neg=neg8/\all=dg8/\ex=ex8/\st=st'/\∃q:Nat,k8=q/\q<=s.length/\dcE neg all ex (s.drop m)=dcX neg all ex down8 (s.drop q),?_,?_⟩
   ·refine Aa (fun g1=>⟨⟨by omega,g1⟩,Aa (fun g2=>⟨rfl,rfl,rfl,rfl,rfl,m+1+1,?_,by omega,?_⟩) fun g2=>⟨⟨by omega,g1⟩,Aa (fun g3=>⟨rfl,rfl,rfl,rfl,rfl,m+1+1,?_,by omega,?_⟩) fun g3=>⟨rfl,rfl,rfl,rfl,rfl,m+1,rfl,by omega,?_⟩⟩⟩) fun g1=>⟨rfl,rfl,rfl,rfl,rfl,m+1,rfl,by omega,?_⟩
    ·rw[Ab _ (by omega) (by omega)];omega
    ·have g2':=(u8i (k:=45)).1 g2
     rw[hE,if_pos g2',decide_eq_true g2']
    ·rw[Ab _ (by omega) (by omega)];omega
    ·have g2':¬s.getD (m+1) 0=45:=fun h=>g2 ((u8i (k:=45)).2 h)
     rw[hE,if_neg g2',if_pos ((u8i (k:=43)).1 g3),decide_eq_false g2']
    ·have g2':¬s.getD (m+1) 0=45:=fun h=>g2 ((u8i (k:=45)).2 h)
     rw[hE,if_neg g2',if_neg (fun h=>g3 ((u8i (k:=43)).2 h)),decide_eq_false g2']
    ·have g2':¬s.getD (m+1) 0=45:=fun h=>by have:=Cm (by decide) h;omega
     rw[hE,if_neg g2',if_neg (fun h=>by have:=Cm (by decide) h;omega),decide_eq_false g2']
   rintro _ _ _ _ _ less _ _ _ _ ⟨rfl,rfl,rfl,rfl,rfl,q,rfl,hq,h5⟩
   rw[h5]at hk⊢
   refine J3 (by omega) hq rfl ?_
   have hf1:=Bs (s.drop q)
   rw[List.length_drop]at hf1
   have htk:(s.take (q+(Aj (s.drop q)).length)).drop q=Aj (s.drop q):=by rw[List.drop_take,Nat.add_sub_cancel_left];exact Ck _
   have hdf:=DB (s.drop q)
   refine Aa (fun g1=>?_) fun g1=>?_
   ·unfold KD dcX at hk
    rw[if_pos]at hk
    ·exact hk
    ·by_cases h0:s.drop q=[]
     ·exact .inl h0
     ·refine .inr fun h=>h0 (List.length_eq_zero_iff.1 (by omega))
   ·rw[Int.toNat_natCast,Int.toNat_natCast,htk]
    refine⟨⟨by omega,by omega,by omega⟩,Oh (by omega) hdf ?_⟩
    have key:∀z:Int,z=(if less then ex-((if (AI (Aj (s.drop q))).length<=9 then A3 (Aj (s.drop q))else 1000000000:Nat):Int)else ex+((if (AI (Aj (s.drop q))).length<=9 then A3 (Aj (s.drop q))else 1000000000:Nat):Int))->dcX neg all ex less (s.drop q)=(if q+(Aj (s.drop q)).length<s.length then Gi else dcN neg (AI all) z):=by
     intro z hz
     unfold dcX
     by_cases hfull:q+(Aj (s.drop q)).length<s.length
     ·rw[if_pos hfull,if_pos (.inr (by rw[List.length_drop];omega))]
     ·have hall:Aj (s.drop q)=s.drop q:=by
       have:=HH (s.drop q)
       have h0:(s.drop q).drop (Aj (s.drop q)).length=[]:=List.drop_of_length_le (by rw[List.length_drop];omega)
       rw[h0,List.append_nil]at this
       exact this.symm
      rw[if_neg hfull,if_neg (by rintro(h | h);exact g1 (by rw[h];simp[Aj]);exact h (by rw[hall])),hz]
      have hd5:∀c,c∈s.drop q->AH c:=by rw[<-hall];exact hdf
      rw[hall]
      by_cases h9:(AI (s.drop q)).length<=9
      ·rw[if_pos h9]
      ·rw[if_neg h9]
       have hf:=Kz (k:=9) hd5 (by omega)
       exact(M6 (n:=((1000000000:Nat):Int)) (m:=(A3 (s.drop q):Nat)) (by have:=CJ all;omega) (by omega) (by omega) (by omega) (by omega) less).symm
    have hb:(if (AI (Aj (s.drop q))).length<=9 then A3 (Aj (s.drop q))else 1000000000)<=1000000000:=by
     split
     ·rename_i h9
      have:=Js hdf h9
      omega
     ·exact Nat.le_refl _
    generalize (if (AI (Aj (s.drop q))).length<=9 then A3 (Aj (s.drop q))else 1000000000)=N at*
    refine Ay (fun hb1=>⟨rfl,rfl,rfl,rfl,?_,?_,_,rfl,by omega,key _ ?_⟩) fun hb1=>⟨rfl,rfl,rfl,rfl,?_,?_,_,rfl,by omega,key _ ?_⟩
    ·rw[Ab (0-_) (by omega) (by omega),Ab _ (by omega) (by omega)];omega
    ·rw[Ab (0-_) (by omega) (by omega),Ab _ (by omega) (by omega)];omega
    ·rw[Ab (0-_) (by omega) (by omega),Ab _ (by omega) (by omega),if_pos hb1];omega
    ·rw[Ab _ (by omega) (by omega)];omega
    ·rw[Ab _ (by omega) (by omega)];omega
    ·rw[Ab _ (by omega) (by omega),hb1];rfl
  ·unfold dcE
   by_cases hm2:m<s.length
   ·rw[if_pos hm2,if_neg (fun e=>by have:=congrArg List.length e;rw[List.length_drop]at this;simp at this;omega),if_neg g]
   ·rw[if_neg hm2,if_pos (List.drop_of_length_le (by omega))]
 rintro _ ex7 _ _ _ _ _ _ _ ⟨rfl,rfl,rfl,rfl,y1,y2,p,rfl,hp,h4⟩
 rw[h4]at hk
 unfold KD at hk
 refine Aa (fun g=>?_) fun g=>?_
 ·rw[if_pos (by omega)]at hk;exact hk
 ·rw[if_neg (by omega)]at hk
  exact Nw (by omega) (by omega) (by omega) hk
theorem Hw {s:B8} {k:Nat} (hl:s.length<=1000000000) (hk0:k<=s.length) {I:Int} (hI:I=(k:Nat)) {st:St} {K:Int->St->Prop} (hk:K ((k+(Aj (s.drop k)).length:Nat):Int) st):CallT PR Ao [.str s,.int .i64 I] [.one (.int .i64)] st K:=by
 subst hI
 refine FX s _ st K ⟨fun n s' st'=>s=s'/\st=st'/\∃j:Nat,n=((k+j:Nat):Int)/\k+j<=s.length/\∀i,i<j->AH (s.getD (k+i) 0),fun n _ _=>(s.length-n).toNat,⟨rfl,rfl,0,rfl,by omega,fun j h=>absurd h (Nat.not_lt_zero _)⟩,?_⟩
 rintro _ _ _ ⟨rfl,rfl,j,rfl,hj1,hd⟩
 rw[Int.toNat_natCast]
 have fin:(k+j=s.length∨¬AH (s.getD (k+j) 0))->K ((k+j:Nat):Int) st:=fun h=>by
  have:=El (s.drop k) j (by rw[List.length_drop];omega) (fun i hi=>by have:=hd i hi;simpa [List.getD]using this) (by
   rcases h with h | h
   ·left;rw[List.length_drop];omega
   ·right;simpa [List.getD]using h)
  rw[this]at hk;exact hk
 have hB:D2 ((s.getD (k+j) 0).toNat:Int)=decide (AH (s.getD (k+j) 0)):=by
  unfold D2 AH
  exact decide_eq_decide.2 ⟨fun h=>⟨by omega,by omega⟩,fun h=>⟨by omega,by omega⟩⟩
 refine Aa (fun g=>⟨⟨by omega,g⟩,Ll (Ay (fun g1=>?_) fun g1=>fin (.inr fun h=>?_))⟩) fun g=>fin (.inl (by omega))
 ·rw[hB]at g1
  rw[Ab _ (by omega) (by omega)]
  refine⟨⟨rfl,rfl,j+1,by omega,by omega,fun i hi=>?_⟩,by dsimp only;omega⟩
  by_cases hij:i=j
  ·rw[hij];exact of_decide_eq_true g1
  ·exact hd i (by omega)
 ·rw[hB,decide_eq_true h]at g1;cases g1
def isX (r:B8):Prop:=r≠ []/\(Aj r).length=r.length
def isE (r:B8):Prop:=r=[]∨((r.getD 0 0=101∨r.getD 0 0=69)/\(if (r.drop 1).getD 0 0=45∨(r.drop 1).getD 0 0=43 then isX (r.drop 2)else isX (r.drop 1)))
def isF (r:B8):Prop:=if r.getD 0 0=46 then Aj (r.drop 1)≠ []/\isE (r.drop (1+(Aj (r.drop 1)).length))else isE r
def isQ (t:B8):Prop:=Aj t≠ []/\¬(1<(Aj t).length/\t.getD 0 0=48)/\isF (t.drop (Aj t).length)
instance (r:B8):Decidable (isX r):=inferInstanceAs (Decidable (_/\_))
instance (r:B8):Decidable (isE r):=by unfold isE;infer_instance
instance (r:B8):Decidable (isF r):=by unfold isF;infer_instance
instance (r:B8):Decidable (isQ r):=by unfold isQ;infer_instance
theorem M7 (neg:Bool) (s:B8) (ex:Int):(dcN neg s ex).2.2.2=0∨(dcN neg s ex).2.2.2=2:=by
 unfold dcN;split
 ·exact .inl rfl
 ·split
  ·exact .inr rfl
  ·exact .inl rfl
def okE (e:Int):Prop:=e=0∨e=2
theorem Kl (neg:Bool) (all:B8) (ex:Int) (less:Bool) (r:B8):(isX r->okE (dcX neg all ex less r).2.2.2)/\(¬isX r->(dcX neg all ex less r).2.2.2=3):=by
 unfold dcX isX
 by_cases h:r=[]∨(Aj r).length≠r.length
 ·rw[if_pos h]
  refine⟨fun g=>?_,fun _=>rfl⟩
  rcases h with h | h
  ·exact absurd h g.1
  ·exact absurd g.2 h
 ·rw[if_neg h]
  have h':r≠ []/\(Aj r).length=r.length:=⟨fun e=>h (.inl e),Decidable.not_not.1 fun e=>h (.inr e)⟩
  exact⟨fun _=>M7 _ _ _,fun g=>absurd h' g⟩
theorem M9 (neg:Bool) (all:B8) (ex:Int) (r:B8):(isE r->okE (dcE neg all ex r).2.2.2)/\(¬isE r->(dcE neg all ex r).2.2.2=3):=by
 unfold dcE isE
 by_cases h:r=[]
 ·rw[if_pos h];exact⟨fun _=>M7 _ _ _,fun g=>absurd (.inl h) g⟩
 rw[if_neg h]
 by_cases h2:r.getD 0 0=101∨r.getD 0 0=69
 ·rw[if_pos h2]
  by_cases h3:(r.drop 1).getD 0 0=45
  ·rw[if_pos h3,if_pos (.inl h3)]
   have:=Kl neg all ex true (r.drop 2)
   exact⟨fun g=>this.1 (by rcases g with g | g;exact absurd g h;exact g.2),fun g=>this.2 fun g2=>g (.inr ⟨h2,g2⟩)⟩
  ·rw[if_neg h3]
   by_cases h4:(r.drop 1).getD 0 0=43
   ·rw[if_pos h4,if_pos (.inr h4)]
    have:=Kl neg all ex false (r.drop 2)
    exact⟨fun g=>this.1 (by rcases g with g | g;exact absurd g h;exact g.2),fun g=>this.2 fun g2=>g (.inr ⟨h2,g2⟩)⟩
   ·rw[if_neg h4,if_neg (by rintro(g | g);exact h3 g;exact h4 g)]
    have:=Kl neg all ex false (r.drop 1)
    exact⟨fun g=>this.1 (by rcases g with g | g;exact absurd g h;exact g.2),fun g=>this.2 fun g2=>g (.inr ⟨h2,g2⟩)⟩
 ·rw[if_neg h2]
  exact⟨fun g=>by rcases g with g | g;exact absurd g h;exact absurd g.1 h2,fun _=>rfl⟩
theorem dcF_err (neg:Bool) (a r:B8):(isF r->okE (dcF neg a r).2.2.2)/\(¬isF r->(dcF neg a r).2.2.2=3):=by
 unfold dcF isF
 by_cases h:r.getD 0 0=46
 ·rw[if_pos h,if_pos h]
  by_cases h2:Aj (r.drop 1)=[]
  ·rw[if_pos h2];exact⟨fun g=>absurd h2 g.1,fun _=>rfl⟩
  ·rw[if_neg h2]
   have:=M9 neg (a++Aj (r.drop 1)) (-(Aj (r.drop 1)).length) (r.drop (1+(Aj (r.drop 1)).length))
   exact⟨fun g=>this.1 g.2,fun g=>this.2 fun g2=>g ⟨h2,g2⟩⟩
 ·rw[if_neg h,if_neg h];exact M9 _ _ _ _
theorem MZ (neg:Bool) (t:B8):(isQ t->okE (dcQ neg t).2.2.2)/\(¬isQ t->(dcQ neg t).2.2.2=3):=by
 unfold dcQ isQ
 by_cases h:Aj t=[]∨(1<(Aj t).length/\t.getD 0 0=48)
 ·rw[if_pos h]
  refine⟨fun g=>?_,fun _=>rfl⟩
  rcases h with h | h
  ·exact absurd h g.1
  ·exact absurd h g.2.1
 ·rw[if_neg h]
  have:=dcF_err neg (Aj t) (t.drop (Aj t).length)
  exact⟨fun g=>this.1 g.2.2,fun g=>this.2 fun g2=>g ⟨fun e=>h (.inl e),fun e=>h (.inr e),g2⟩⟩
def CK (s:B8):Nat:=if s.getD 0 0=45 then 1 else 0
theorem M0 (s:B8):(isQ (s.drop (CK s))->okE (dcP s).2.2.2)/\(¬isQ (s.drop (CK s))->(dcP s).2.2.2=3):=by
 unfold dcP CK
 by_cases h:s.getD 0 0=45
 ·rw[if_pos h,if_pos h];exact MZ _ _
 ·rw[if_neg h,if_neg h,List.drop_zero];exact MZ _ _
theorem OD {s:B8} (hl:s.length<=1000000) {st:St} {K:Bool->Bool->St->Prop} (hk:∀b2,K (decide (isQ (s.drop (CK s)))) b2 st):CallT PR AW [.str s] [.one .bool,.one .bool] st K:=by
 refine DW s st K ⟨fun i s' st'=>s=s'/\st=st'/\i=((CK s:Nat):Int),?_,?_⟩
 ·refine Aa (fun g=>⟨⟨by omega,g⟩,Aa (fun g1=>⟨rfl,rfl,?_⟩) fun g1=>⟨rfl,rfl,?_⟩⟩) fun g=>⟨rfl,rfl,?_⟩
  ·rw[Ab _ (by omega) (by omega)];unfold CK;rw[if_pos (show s.getD 0 0=45 from(u8i (k:=45)).1 g1)];rfl
  ·unfold CK;rw[if_neg (show ¬s.getD 0 0=45 from fun h=>g1 ((u8i (k:=45)).2 h))];rfl
  ·unfold CK;rw[if_neg (show ¬s.getD 0 0=45 from fun h=>by have:=Cm (by decide) h;omega)];rfl
 rintro _ _ _ ⟨rfl,rfl,rfl⟩
 have hjl:CK s<=s.length:=by
  unfold CK;split
  ·rename_i h;have:=Cm (by decide) h;omega
  ·exact Nat.zero_le _
 have hj1:CK s<=1:=by unfold CK;split<;>omega
 generalize CK s=j at*
 have no:¬isQ (s.drop j)->∀b2,K false b2 st:=fun hn b2=>by have:=hk b2;rw[decide_eq_false hn]at this;exact this
 have hrl:=Bs (s.drop j)
 rw[List.length_drop]at hrl
 refine Aa (fun g=>no (fun h=>h.1 ?_) _) fun g=>Hw (by omega) hjl rfl ?_
 ·rw[List.drop_of_length_le (by omega)];rfl
 have hqq:isQ (s.drop j)↔Aj (s.drop j)≠ []/\¬(1<(Aj (s.drop j)).length/\(s.drop j).getD 0 0=48)/\isF ((s.drop j).drop (Aj (s.drop j)).length):=Iff.rfl
 rw[List.drop_drop,Ej]at hqq
 generalize ha:Aj (s.drop j)=a at*
 rw[Ab _ (by omega) (by omega),Int.toNat_natCast]
 have hgo:a≠ []->¬(1<a.length/\s.getD j 0=48)->(isQ (s.drop j)↔isF (s.drop (j+a.length))):=fun h1 h2=>by rw[hqq];exact⟨fun h=>h.2.2,fun h=>⟨h1,h2,h⟩⟩
 have hne:¬((j+a.length:Nat):Int)=(j:Int)->a≠ []:=fun g e=>g (by rw[e];simp)
 refine⟨fun s2 k2 st'=>s=s2/\st=st'/\k2=((j+a.length:Nat):Int)/\(isQ (s.drop j)↔isF (s.drop (j+a.length))),Aa (fun g1=>no (fun h=>(hqq.1 h).1 (List.length_eq_zero_iff.1 (by omega))) _) fun g1=>⟨⟨by omega,by omega⟩,Aa (fun g2=>Aa (fun g3=>no (fun h=>(hqq.1 h).2.1 ⟨by omega,(u8i (k:=48)).1 g2⟩) _) fun g3=>⟨rfl,rfl,rfl,hgo (hne g1) fun h=>g3 (by omega)⟩) fun g2=>⟨rfl,rfl,rfl,hgo (hne g1) fun h=>g2 ((u8i (k:=48)).2 h.2)⟩⟩,?_⟩
 rintro _ _ _ ⟨rfl,rfl,rfl,h2⟩
 replace hk:∀b2,K (decide (isF (s.drop (j+a.length)))) b2 st:=fun b=>by have:=hk b;rw[decide_eq_decide.2 h2]at this;exact this
 clear no hqq hgo hne h2 ha
 have hkl:j+a.length<=s.length:=by omega
 generalize j+a.length=k at*
 clear hrl hjl hj1 g
 have no:¬isF (s.drop k)->∀b2,K false b2 st:=fun hn b2=>by have:=hk b2;rw[decide_eq_false hn]at this;exact this
 have hff:isF (s.drop k)↔(if s.getD k 0=46 then Aj (s.drop (k+1))≠ []/\isE (s.drop (k+(1+(Aj (s.drop (k+1))).length)))else isE (s.drop k)):=by
  unfold isF;rw[Ej,List.drop_drop,List.drop_drop]
 refine⟨fun i2 s2 st'=>s=s2/\st=st'/\∃m:Nat,i2=m/\m<=s.length/\(isF (s.drop k)↔isE (s.drop m)),?_,?_⟩
 ·have w1:i64.wrap (((k:Nat):Int)+1)=((k+1:Nat):Int):=by rw[Ab _ (by omega) (by omega)];omega
  rw[w1,Int.toNat_natCast]
  refine Aa (fun g=>⟨⟨by omega,g⟩,Aa (fun g1=>Hw (by omega) (by omega) rfl ?_) fun g1=>⟨rfl,rfl,k,rfl,hkl,?_⟩⟩) fun g=>⟨rfl,rfl,k,rfl,hkl,?_⟩
  ·rw[if_pos ((u8i (k:=46)).1 g1)]at hff
   have hrl:=Bs (s.drop (k+1))
   rw[List.length_drop]at hrl
   refine Aa (fun g2=>no (fun h=>(hff.1 h).1 (List.length_eq_zero_iff.1 (by omega))) _) fun g2=>⟨rfl,rfl,_,rfl,by omega,?_⟩
   rw[hff,show k+1+(Aj (s.drop (k+1))).length=k+(1+(Aj (s.drop (k+1))).length) by omega]
   exact⟨fun h=>h.2,fun h=>⟨fun e=>g2 (by rw[e];simp),h⟩⟩
  ·rw[if_neg (fun h=>g1 ((u8i (k:=46)).2 h))]at hff;exact hff
  ·rw[if_neg (fun h=>by have:=Cm (by decide) h;omega)]at hff;exact hff
 rintro _ _ _ ⟨rfl,rfl,m,rfl,hml,h3⟩
 replace hk:∀b2,K (decide (isE (s.drop m))) b2 st:=fun b=>by have:=hk b;rw[decide_eq_decide.2 h3]at this;exact this
 clear no hff h3 hkl
 have tail:∀(p:Nat),p<=s.length->(∀b2,K (decide (isX (s.drop p))) b2 st)->CallT PR Ao [.str s,.int .i64 ((p:Nat):Int)] [.one (.int .i64)] st (fun n st'=>BIf (decide (n=((p:Nat):Int))) (K false (decide (n=(s.length:Int))) st') (K (decide (n=(s.length:Int))) (decide (n=(s.length:Int))) st')):=fun p hp h=>by
  refine Hw (by omega) hp rfl ?_
  have hrl:=Bs (s.drop p)
  rw[List.length_drop]at hrl
  refine Aa (fun g=>?_) fun g=>?_
  ·have:=h (decide (((p+(Aj (s.drop p)).length:Nat):Int)=(s.length:Int)))
   rw[decide_eq_false (fun hx=>?_)]at this
   ·exact this
   ·have h1:=hx.2
    have h2:=List.length_pos_iff.2 hx.1
    have g':((p+(Aj (s.drop p)).length:Nat):Int)=((p:Nat):Int):=g
    rw[List.length_drop]at h1 h2
    omega
  ·have:=h (decide (((p+(Aj (s.drop p)).length:Nat):Int)=(s.length:Int)))
   rw[decide_eq_decide.2 (show isX (s.drop p)↔((p+(Aj (s.drop p)).length:Nat):Int)=(s.length:Int)from ?_)]at this
   ·exact this
   ·unfold isX
    rw[List.length_drop]
    exact⟨fun h=>by omega,fun h=>⟨fun e=>g (by rw[e];simp[Aj]),by omega⟩⟩
 have hee:isE (s.drop m)↔m=s.length∨((s.getD m 0=101∨s.getD m 0=69)/\(if s.getD (m+1) 0=45∨s.getD (m+1) 0=43 then isX (s.drop (m+2))else isX (s.drop (m+1)))):=by
  unfold isE
  rw[Ej,List.drop_drop,List.drop_drop,Ej,List.drop_eq_nil_iff]
  exact⟨fun h=>h.imp (fun h=>by omega) id,fun h=>h.imp (fun h=>by omega) id⟩
 have w1:i64.wrap (((m:Nat):Int)+1)=((m+1:Nat):Int):=by rw[Ab _ (by omega) (by omega)];omega
 have w2:i64.wrap (((m+1:Nat):Int)+1)=((m+2:Nat):Int):=by rw[Ab _ (by omega) (by omega)];omega
 simp only[w1,w2,Int.toNat_natCast]
 have go:m<s.length->(s.getD m 0=101∨s.getD m 0=69)->∀p,p<=s.length->((if s.getD (m+1) 0=45∨s.getD (m+1) 0=43 then isX (s.drop (m+2))else isX (s.drop (m+1)))↔isX (s.drop p))->CallT PR Ao [.str s,.int .i64 ((p:Nat):Int)] [.one (.int .i64)] st (fun n st'=>BIf (decide (n=((p:Nat):Int))) (K false (decide (n=(s.length:Int))) st') (K (decide (n=(s.length:Int))) (decide (n=(s.length:Int))) st')):=fun hlt hc p hp hi=>tail p hp fun b2=>by
  have:=hk b2
  rw[decide_eq_decide.2 (show isE (s.drop m)↔isX (s.drop p)from ?_)]at this
  ·exact this
  ·rw[hee,hi];exact⟨fun h=>h.elim (fun h=>by omega) fun h=>h.2,fun h=> .inr ⟨hc,h⟩⟩
 have fin:¬(s.getD m 0=101∨s.getD m 0=69)->∀b2,K (decide (((m:Nat):Int)=(s.length:Int))) b2 st:=fun hn b2=>by
  have:=hk b2
  rw[decide_eq_decide.2 (show isE (s.drop m)↔((m:Nat):Int)=(s.length:Int)from ?_)]at this
  ·exact this
  ·rw[hee];exact⟨fun h=>h.elim (fun h=>by omega) fun h=>absurd h.1 hn,fun h=> .inl (by omega)⟩
 refine Aa (fun g=>⟨⟨by omega,g⟩,Aa (fun g1=>?q1) fun g1=>⟨⟨by omega,g⟩,Aa (fun g2=>?q2) fun g2=>?_⟩⟩) fun g=>?_
 case q1 | q2=>
  have hc:s.getD m 0=101∨s.getD m 0=69:=by first | exact .inl ((u8i (k:=101)).1 (by assumption)) | exact .inr ((u8i (k:=69)).1 (by assumption))
  have hlt:m<s.length:=by omega
  refine Aa (fun g4=>⟨⟨by omega,g4⟩,Aa (fun g5=>go hlt hc (m+2) (by omega) (by rw[if_pos (.inr ((u8i (k:=43)).1 g5))])) fun g5=>⟨⟨by omega,g4⟩,Aa (fun g6=>go hlt hc (m+2) (by omega) (by rw[if_pos (.inl ((u8i (k:=45)).1 g6))])) fun g6=>go hlt hc (m+1) (by omega) (by rw[if_neg (by rintro(h | h);exact g6 ((u8i (k:=45)).2 h);exact g5 ((u8i (k:=43)).2 h))])⟩⟩) fun g4=>go hlt hc (m+1) (by omega) ?_
  rw[if_neg (by rintro(h | h)<;>(have:=Cm (by decide) h;omega))]
 ·exact fin (by rintro(h | h);exact g1 ((u8i (k:=101)).2 h);exact g2 ((u8i (k:=69)).2 h)) _
 ·exact fin (by rintro(h | h)<;>(have:=Cm (by decide) h;omega)) _
def scK (k:Nat):Sc:=⟨(k:Nat),false,false,[],0,0,0,0,0,[],[]⟩
theorem vlLeaf (st:St) (s:Sc) (h:s.bytes=[]):VlR st (.mk s [] []) (EO s .nilSlice .nilSlice .nilSlice):=by
 unfold VlR
 refine⟨_,_,_,[],[],rfl,?_,.of_rd (.inl ⟨rfl,rfl,rfl⟩),by unfold VsR;rfl,.of_rd (.inl ⟨rfl,rfl,rfl⟩),by unfold FsR;rfl⟩
 rw[h];exact .of_rd (.inl ⟨rfl,rfl,rfl⟩)
def Mv (l:B8) (i:Nat):Nat:=(l.getD (i/8) 0).toNat/2^(7-i%8)%2
def bdg (l:B8) (i:Nat):Nat->Nat
 | 0=>0
 | m+1=>bdg l i m*2+Mv l (i+m)
theorem dg6 (l:B8) (i:Nat):bdg l i 6=((((Mv l i*2+Mv l (i+1))*2+Mv l (i+2))*2+Mv l (i+3))*2+Mv l (i+4))*2+Mv l (i+5):=by
 simp[bdg]
theorem szl' (s:Sc):(Vl.mk s [] []).sz=1+s.bytes.length+s.text.length+s.dg.length:=by rw[szs];rfl
abbrev K14':=Int->Bool->Bool->B8->Int->Int->Int->Int->Int->B8->TV->TV->TV->Int->St->Prop
def tkT (s:B8):Sc:=⟨4,false,false,[],0,0,0,0,0,s,[]⟩
def tkB (b:Bool):Sc:=⟨1,b,false,[],0,0,0,0,0,[],[]⟩
def tkN (neg:Bool) (dg:B8) (ex:Int):Sc:=⟨2,false,neg,dg,ex,0,0,0,0,[],[]⟩
def tkM (k d n z:Int):Sc:=⟨3,false,false,[],0,k,d,n,z,[],[]⟩
def scS (s:B8):Sc×Int:=
 if s.getD 0 0=34∨s.getD 0 0=39 then
  (if eE (unq s)≠0 then(scK 0,eE (unq s))else if 65536<(uL (unq s)).length then(scK 0,10)else(tkT (uL (unq s)),0))
 else if s=Hn then(tkB true,0)else if s=NZ then(tkB false,0)
 else if (dcP s).2.2.2=0 then(tkN (dcP s).1 (dcP s).2.1 (dcP s).2.2.1,0)
 else if (dcP s).2.2.2≠3 then(scK 0,(dcP s).2.2.2)
 else if (tmP s).2.2.2.2≠0 then(scK 0,(tmP s).2.2.2.2)
 else(tkM (tmP s).1 (tmP s).2.1 (tmP s).2.2.1 (tmP s).2.2.2.1,0)
def KS (K:K14') (x:Sc×Int) (st:St):Prop:=K x.1.kind x.1.b x.1.neg x.1.dg x.1.ex x.1.tk x.1.td x.1.tn x.1.tz x.1.text .nilSlice .nilSlice .nilSlice x.2 st
theorem Jy (s:B8):(scS s).1.bytes=[]:=by
 unfold scS
 repeat' split
 all_goals rfl
theorem LD {s:B8} (hl:s.length<=1000000) {st:St} {K:K14'} (hk:∀st',Ax st st'->KS K (scS s) st'):
  CallT PR Cj [.str s] [.agg [.int .i64,.bool,.bool,.str,.int .i64,.int .i64,.int .i64,.int .i64,.int .i64,.str,.tv,.tv,.tv],.one (.int .i64)] st K:=by
 refine Gq s st K (Aa (fun g=>⟨⟨by omega,by have:=List.length_pos_iff.2 g;omega⟩,Aa (fun g1=>?q1) fun g1=>⟨⟨by omega,by have:=List.length_pos_iff.2 g;omega⟩,Aa (fun g2=>?q2) fun g2=>?r1⟩⟩) fun g=>?r2)
 case q1 | q2=>
  have hq:s.getD 0 0=34∨s.getD 0 0=39:=by first | exact .inl ((u8i (k:=34)).1 g1) | exact .inr ((u8i (k:=39)).1 g2)
  unfold scS at hk
  rw[if_pos hq]at hk
  refine MF (by omega) fun st1 e1=>?_
  replace hk:=hk st1 e1
  generalize unq s=u at*
  refine Aa (fun h1=>Aa (fun h2=>Aa (fun _=>?_) fun h=>absurd (by omega) h) fun h2=>Aa (fun h=>absurd h1 h) fun _=>?_) fun h1=>Aa (fun _=>?_) fun h=>absurd h1 h
  ·rw[if_neg (by omega),if_pos (by omega)]at hk;exact hk
  ·rw[if_neg (by omega),if_neg (by omega)]at hk;exact hk
  ·rw[if_pos h1]at hk;exact hk
 case r1 | r2=>
  have hq:¬(s.getD 0 0=34∨s.getD 0 0=39):=by
   first
    | exact fun h=>h.elim (fun h=>g1 ((u8i (k:=34)).2 h)) fun h=>g2 ((u8i (k:=39)).2 h)
    | (have:s=[]:=Decidable.not_not.1 g;rw[this];decide)
  unfold scS at hk
  rw[if_neg hq]at hk
  refine Aa (fun h1=>?_) fun h1=>Aa (fun h2=>?_) fun h2=>dP_ok hl ?_
  ·rw[decide_eq_true h1]
   have:=hk st (Ax.refl _)
   rw[if_pos h1]at this;exact this
  ·rw[decide_eq_false h1]
   have:=hk st (Ax.refl _)
   rw[if_neg h1,if_pos h2]at this;exact this
  rw[if_neg h1,if_neg h2]at hk
  unfold KD
  generalize dcP s=d at*
  refine Aa (fun h3=>?_) fun h3=>Aa (fun h4=>?_) fun h4=>tP_ok hl fun st4 e4=>?_
  ·have:=hk st (Ax.refl _)
   rw[if_pos h3]at this;exact this
  ·have:=hk st (Ax.refl _)
   rw[if_neg h3,if_pos h4]at this;exact this
  ·replace hk:=hk st4 e4
   rw[if_neg h3,if_neg h4]at hk
   unfold KT
   generalize tmP s=t at*
   refine Aa (fun h5=>?_) fun h5=>?_
   ·rw[if_pos h5]at hk;exact hk
   ·rw[if_neg h5]at hk;exact hk
theorem LO {s:B8} (hl:s.length<=1000000) {st:St} {K:K14'} (hk:∀st',Ax st st'->KS K (scS s) st'):
  CallT PR By [.str s] [.agg [.int .i64,.bool,.bool,.str,.int .i64,.int .i64,.int .i64,.int .i64,.int .i64,.str,.tv,.tv,.tv],.one (.int .i64)] st K:=by
 replace hk:=hk st (Ax.refl _)
 refine Eq s st K (Aa (fun g=>⟨⟨by omega,by have:=List.length_pos_iff.2 g;omega⟩,Aa (fun g1=>?q1) fun g1=>⟨⟨by omega,by have:=List.length_pos_iff.2 g;omega⟩,Aa (fun g2=>?q2) fun g2=>?r1⟩⟩) fun g=>?r2)
 case q1 | q2=>
  have hq:s.getD 0 0=34∨s.getD 0 0=39:=by first | exact .inl ((u8i (k:=34)).1 g1) | exact .inr ((u8i (k:=39)).1 g2)
  unfold scS at hk
  rw[if_pos hq]at hk
  refine KW (by omega) ?_
  generalize unq s=u at*
  refine Aa (fun h1=>Aa (fun h2=>Aa (fun _=>?_) fun h=>absurd (by omega) h) fun h2=>Aa (fun h=>absurd h1 h) fun _=>?_) fun h1=>Aa (fun _=>?_) fun h=>absurd h1 h
  ·rw[if_neg (by omega),if_pos (by omega)]at hk;exact hk
  ·rw[if_neg (by omega),if_neg (by omega)]at hk;exact hk
  ·rw[if_pos h1]at hk;exact hk
 case r1 | r2=>
  have hq:¬(s.getD 0 0=34∨s.getD 0 0=39):=by
   first
    | exact fun h=>h.elim (fun h=>g1 ((u8i (k:=34)).2 h)) fun h=>g2 ((u8i (k:=39)).2 h)
    | (have:s=[]:=Decidable.not_not.1 g;rw[this];decide)
  unfold scS at hk
  rw[if_neg hq]at hk
  refine Aa (fun h1=>?_) fun h1=>Aa (fun h2=>?_) fun h2=>OD hl fun b2=>Aa (fun hn=>rP_ok hl ?_) fun hn=>rtP_ok hl ?_
  ·rw[decide_eq_true h1]
   rw[if_pos h1]at hk;exact hk
  ·rw[decide_eq_false h1]
   rw[if_neg h1,if_pos h2]at hk;exact hk
  ·rw[if_neg h1,if_neg h2]at hk
   have he:=(M0 s).1 hn
   unfold KD
   generalize dcP s=d at*
   unfold okE at he
   refine Aa (fun h3=>?_) fun h3=>?_
   ·have h2:d.2.2.2=2:=by omega
    rw[if_neg h3,if_pos (by omega),h2]at hk;exact hk
   ·rw[if_pos (Decidable.not_not.1 h3)]at hk;exact hk
  ·rw[if_neg h1,if_neg h2]at hk
   have he:=(M0 s).2 hn
   rw[if_neg (by omega),if_neg (by omega)]at hk
   unfold KT
   generalize tmP s=t at*
   refine Aa (fun h5=>?_) fun h5=>?_
   ·rw[if_pos h5]at hk;exact hk
   ·rw[if_neg h5]at hk;exact hk
theorem scS_sz (s:B8):(Vl.mk (scS s).1 [] []).sz<=65600+s.length:=by
 have hd:=dcP_len s
 rw[szl',Jy]
 unfold scS
 repeat' split
 all_goals (try (show 1+0+0+0<=_;omega))
 ·rename_i h1 h2 h3
  show 1+0+(uL (unq s)).length+0<=_;omega
 ·show 1+0+0+(dcP s).2.1.length<=_;omega
theorem lscalars_ok {s:B8} {st:St} {K:Bool->St->Prop} (hk:∀st',K true st'):CallT PR fn_datakitlaw24_TablelexScalars [.str s] [.one .bool] st K:=by
 refine CE s st K (Aa (fun _=>Lt fun _ _=>hk _) fun g=>?_)
 refine LD (s:=s) (by omega) fun st1 e1=>?_
 unfold KS
 refine Ae (MM rfl rfl rfl) ?_
 refine LO (s:=s) (by omega) fun st2 e2=>?_
 unfold KS
 refine Ae (MM rfl rfl rfl) ?_
 have hv:∀st,VlR st (.mk (scS s).1 [] []) (EO (scS s).1 .nilSlice .nilSlice .nilSlice):=fun st=>vlLeaf st _ (Jy s)
 have hz:=scS_sz s
 exact Same_ok 2000000 (.mk (scS s).1 [] []) (.mk (scS s).1 [] []) (by omega) (by omega) (Nat.le_refl _) (hv st2) (hv st2) (Hd.refl _) fun r h=>by rw[h.2 rfl];exact Ay (fun _=>Aa (fun _=>Lt fun _ _=>hk _) fun g=>absurd rfl g) fun g=>by cases g
end Go.TVF
