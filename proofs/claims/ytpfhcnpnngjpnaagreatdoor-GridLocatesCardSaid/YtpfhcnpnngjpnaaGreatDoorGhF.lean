/- What the laws below rest on: a framework for Go programs, and contracts of the functions that they reach. -/
import Derived.Test.YtpfhcnpnngjpnaaGreatDoorGhE
set_option maxRecDepth 20000
set_option linter.unusedVariables false
set_option linter.unusedSimpArgs false
namespace Go.TVF
open Go.IntKind(i64 u8)
open Go Go.Proofs
theorem MY {l:B8} {c:UInt8} (hc:c.toNat<128) {st:St} {K:B8->St->Prop} (hk:K (l.dropWhile (·==c)) st):CallT PR DI [.str l,.str [c]] [.one .str] st K:=by
 refine DA (fun _ _=>by kernel_rfl) fun g w vargs s hr=>?_
 obtain⟨v,u,rfl,hv,hu⟩:=Ox hr
 rw[Bo hv,Bo hu]
 refine Calls.mono (Tryz.strings_TrimLeft_one ⟨l.toArray⟩ c hc w) ?_
 rintro e w' ⟨rfl,rfl⟩
 exact⟨_,rfl,.str _,st,g,hk,s,Rel.str _,Ext.refl _ _⟩
theorem Rv {s p:B8} {st:St} {K:Bool->St->Prop} (hk:K (decide (s.take p.length=p)) st):CallT PR A1 [.str s,.str p] [.one (.bool)] st K:=by
 refine Ja s p st K (GU s p st _ (Aa (fun h=>⟨⟨by omega,h⟩,?_⟩) fun h=>?_))
 ·exact hk
 ·have:¬s.take p.length=p:=fun h0=>by
   have:=congrArg List.length h0
   rw[List.length_take]at this
   omega
  rw[decide_eq_false this]at hk
  exact hk
theorem u8i {c k:UInt8}:((c.toNat:Int)=(k.toNat:Int))↔c=k:=⟨fun h=>UInt8.toNat_inj.1 (by omega),fun h=>by rw[h]⟩
theorem take1 {s:B8} {c:UInt8} (hc:c≠0):s.take [c].length=[c]↔s.getD 0 0=c:=by
 cases s with
 | nil=>exact⟨fun h=>absurd h (by simp),fun h=>absurd (show(0:UInt8)=c from h).symm hc⟩
 | cons a s=>show [a]=[c]↔a=c;simp
theorem J9 {s:B8} {c:UInt8} (hc:c≠0) {st:St} {K:Bool->St->Prop} (hk:K (decide (s.getD 0 0=c)) st):CallT PR A1 [.str s,.str [c]] [.one (.bool)] st K:=
 Rv (by rw[decide_eq_decide.2 (take1 hc)];exact hk)
theorem HA:∀(s:B8) (k:Nat),k<=s.length->(∀j,j<k->AS (s.getD j 0))->(k=s.length∨¬AS (s.getD k 0))->(Aw s).length=k
 | [],k,h,_,_=>by
  have:k=0:=by simpa using h
  subst this;rfl
 | a::s,0,_,_,h=>by
  have h2:¬AS a:=by
   rcases h with h | h
   ·simp at h
   ·exact h
  unfold Aw
  rw[List.takeWhile_cons_of_neg (by simpa using h2)];rfl
 | a::s,k+1,h1,h2,h3=>by
  have ha:AS a:=h2 0 (by omega)
  have ih:=HA s k (by simpa using h1) (fun j hj=>h2 (j+1) (by omega)) (by
   rcases h3 with h3 | h3
   ·exact .inl (by simpa using h3)
   ·exact .inr h3)
  unfold Aw at ih⊢
  rw[List.takeWhile_cons_of_pos (by simpa using ha),List.length_cons,ih]
theorem TT {s:B8} (hl:s.length<=1000000000) {st:St} {K:Int->St->Prop} (hk:K ((Aw s).length:Nat) st):CallT PR Dq [.str s] [.one (.int .i64)] st K:=by
 refine Ob s st K ⟨fun n s' st'=>s=s'/\st=st'/\∃k:Nat,n=k/\k<=s.length/\∀j,j<k->AS (s.getD j 0),fun n _ _=>(s.length-n).toNat,⟨rfl,rfl,0,rfl,Nat.zero_le _,fun j h=>absurd h (Nat.not_lt_zero _)⟩,?_⟩
 rintro _ _ _ ⟨rfl,rfl,k,rfl,hk1,hd⟩
 rw[Int.toNat_natCast]
 have fin:(k=s.length∨¬AS (s.getD k 0))->K ((k:Nat):Int) st:=fun h=>by rw[HA s k hk1 hd h]at hk;exact hk
 refine Aa (fun g=>⟨⟨by omega,g⟩,Aa (fun g1=>⟨⟨by omega,g⟩,Aa (fun g2=>?_) fun g2=>fin (.inr fun h=>g2 (by have:=h.2;omega))⟩) fun g1=>fin (.inr fun h=>g1 (by have:=h.1;omega))⟩) fun g=>fin (.inl (by omega))
 rw[Ah _ (by omega) (by omega)]
 refine⟨⟨rfl,rfl,k+1,by omega,by omega,fun j hj=>?_⟩,by dsimp only;omega⟩
 by_cases hjk:j=k
 ·subst hjk;exact⟨by omega,by omega⟩
 ·exact hd j (by omega)
theorem Hm {l:B8} {k:Nat} (h:k<l.length):Bq (l.take (k+1))=10*Bq (l.take k)+((List.getD l k 0).toNat-48):=by
 rw[List.take_succ_eq_append_getElem h]
 unfold Bq
 rw[Oc]
 have:l[k]=List.getD l k 0:=by simp[List.getD,h]
 rw[<-this];rfl
theorem HY {l:B8} (hd:∀c,c∈l->AS c) (h:l.length<=18) (k:Nat) (hk:k<l.length):Bq (l.take k)<100000000000000000:=by
 have h1:=J0 (l.take k) fun c hc=>hd c (List.mem_of_mem_take hc)
 rw[List.length_take,Nat.min_eq_left (by omega)]at h1
 have:(10:Nat)^k<=10^17:=Nat.pow_le_pow_right (by decide) (by omega)
 omega
theorem W4 {l:B8} (hl:l.length<=18) (hd:∀c,c∈l->AS c) (h0:l.getD 0 0≠48) {st:St} {K:Int->Int->St->Prop} (hk:K (Bq l:Nat) 0 st):CallT PR Fm [.str l] [.one (.int .i64),.one (.int .i64)] st K:=by
 refine Nu l st K (QD (by omega) ?_)
 have hno:decide (JS l)=true:=decide_eq_true ⟨by omega,hd,fun _=>h0⟩
 rw[hno]
 refine Ak (fun h=>by cases h) fun _=>?_
 refine⟨fun n i l' m st'=>l=l'/\st=st'/\(l.length:Int)=m/\∃k:Nat,i=k/\k<=l.length/\n=(Bq (l.take k):Nat),fun _ i _ _ _=>(l.length-i).toNat,⟨rfl,rfl,rfl,0,rfl,Nat.zero_le _,rfl⟩,?_⟩
 rintro _ _ _ _ _ ⟨rfl,rfl,rfl,k,rfl,hkl,rfl⟩
 rw[Int.toNat_natCast]
 refine Aa (fun g=>⟨⟨by omega,g⟩,?_⟩) fun g=>?_
 ·have hk':k<l.length:=by omega
  have hv:=HY hd hl k hk'
  have hs:=Hm hk'
  have hc:=hd _ (Gd hk')
  obtain⟨c1,c2⟩:=hc
  rw[LZ _ (by omega) (by omega),Ah (((List.getD l k 0).toNat:Int)-48) (by omega) (by omega),Ah (9223372036854775807-_) (by omega) (by omega),Int.tdiv_eq_ediv_of_nonneg (by omega),Ah _ (by omega) (by omega)]
  refine Aa (fun g2=>by omega) fun g2=>?_
  rw[Ah (((Bq (l.take k):Nat):Int)*10) (by omega) (by omega),Ah _ (by omega) (by omega),Ah _ (by omega) (by omega)]
  exact⟨⟨rfl,rfl,rfl,k+1,by omega,by omega,by rw[hs];omega⟩,by dsimp only;omega⟩
 ·have:k=l.length:=by omega
  subst this
  rw[List.take_length];exact hk
theorem XI {ex:Int} {less:Bool} {l:B8} (h1: -100000000<=ex) (h2:ex<=100000000) (hd:∀c,c∈l->AS c) (h0:l.getD 0 0≠48) {st:St} {K:Int->St->Prop}
  (hk:K (if less then ex-((if l.length<=12 then Bq l else 1099511627776:Nat):Int)else ex+((if l.length<=12 then Bq l else 1099511627776:Nat):Int)) st):CallT PR EQ [.int .i64 ex,.bool less,.str l] [.one (.int .i64)] st K:=by
 refine L7 ex less l st K (Aa (fun g=>?_) fun g=>?_)
 ·have g':l.length<=12:=by omega
  rw[if_pos g']at hk
  have hv:=J0 l hd
  have:(10:Nat)^l.length<=10^12:=Nat.pow_le_pow_right (by decide) g'
  refine W4 (by omega) hd h0 (Ak (fun e=>?_) fun e=>?_)
  ·rw[Ah _ (by omega) (by omega)];rw[if_pos e]at hk;exact hk
  ·rw[Ah _ (by omega) (by omega)];rw[e]at hk;exact hk
 ·rw[if_neg (show ¬l.length<=12 by omega)]at hk
  refine Ak (fun e=>?_) fun e=>?_
  ·rw[Ah _ (by omega) (by omega)];rw[if_pos e]at hk;exact hk
  ·rw[Ah _ (by omega) (by omega)];rw[e]at hk;exact hk
abbrev KD (K:Bool->B8->Int->Int->St->Prop) (r:Bool×B8×Int×Int) (st:St):Prop:=K r.1 r.2.1 r.2.2.1 r.2.2.2 st
theorem norm_ok {neg:Bool} {s:B8} {ex:Int} (hl:s.length<=2000000) (h1: -3000000000000<=ex) (h2:ex<=3000000000000) {st:St} {K:Bool->B8->Int->Int->St->Prop} (hk:KD K (dcN neg s ex) st):
  CallT PR Fp [.bool neg,.str s,.int .i64 ex] [.agg [.bool,.str,.int .i64],.one (.int .i64)] st K:=by
 unfold KD dcN at hk
 refine Nx neg s ex st K (Aa (fun g=>by rw[if_pos g]at hk;exact hk) fun g=>Ln (by decide) (by omega) ?_)
 rw[if_neg g]at hk
 have ht:=Js s
 have e1:i64.wrap ((s.length:Int)-((Lib.trimRightB s 48).length:Int))=(Bu s:Nat):=by rw[Ah _ (by omega) (by omega)];omega
 rw[e1]
 have e2:i64.wrap ((s.length:Int)-(Bu s:Nat))=((s.length-Bu s:Nat):Int):=by rw[Ah _ (by omega) (by omega)];omega
 rw[e2,Int.toNat_natCast,Ah (400-_) (by omega) (by omega),Ah (-400-_) (by omega) (by omega),Ah (ex+_) (by omega) (by omega)]
 have hlen:(s.take (s.length-Bu s)).length=s.length-Bu s:=by rw[List.length_take];omega
 rw[hlen]
 refine⟨⟨by omega,by omega⟩,Aa (fun g1=>?_) fun g1=>Aa (fun g2=>?_) fun g2=>Aa (fun g3=>?_) fun g3=>?_⟩
 ·rw[if_pos (by omega)]at hk;exact hk
 ·rw[if_pos (by omega)]at hk;exact hk
 ·rw[if_pos (by omega)]at hk;exact hk
 ·rw[if_neg (by omega)]at hk;exact hk
theorem Rt {neg:Bool} {s:B8} {ex:Int} (hl:s.length<=2000000) (hd:∀c,c∈s->AS c) (h1: -3000000000000<=ex) (h2:ex<=3000000000000) {st:St} {K:Bool->B8->Int->Int->St->Prop} (hk:KD K (dcN neg (A2 s) ex) st):
  CallT PR CN [.bool neg,.str s,.int .i64 ex] [.agg [.bool,.str,.int .i64],.one (.int .i64)] st K:=by
 refine Ny neg s ex st K ⟨fun i neg' s' ex' n _ _ _ st'=>neg=neg'/\s=s'/\ex=ex'/\(s.length:Int)=n/\st=st'/\0<=i,fun i _ _ _ _ _ _ _ _=>(s.length-i).toNat,⟨rfl,rfl,rfl,rfl,rfl,by omega⟩,?_⟩
 rintro i _ _ _ _ _ _ _ _ ⟨rfl,rfl,rfl,rfl,rfl,hi⟩
 refine Aa (fun g=>?_) fun g=>?_
 ·have hc:=hd _ (Gd (show i.toNat<s.length by omega))
  obtain⟨c1,c2⟩:=hc
  refine⟨⟨hi,g⟩,Aa (fun g1=>by omega) fun _=>⟨⟨hi,g⟩,Aa (fun g1=>by omega) fun _=>?_⟩⟩
  rw[Ah _ (by omega) (by omega)]
  exact⟨⟨rfl,rfl,rfl,rfl,rfl,by omega⟩,by dsimp only;omega⟩
 ·refine MY (by decide) (norm_ok (Nat.le_trans (EI s) hl) h1 h2 hk)
theorem dP_ok {s:B8} (hl:s.length<=1000000) {st:St} {K:Bool->B8->Int->Int->St->Prop} (hk:KD K (dcP s) st):CallT PR Cq [.str s] [.agg [.bool,.str,.int .i64],.one (.int .i64)] st K:=by
 refine L9 s st K (J9 (by decide) ?_)
 refine⟨fun s1 neg _ _ _ st'=>st=st'/\dcP s=dcQ neg s1/\s1.length<=s.length,Aa (fun g=>?_) fun g=>?_,?_⟩
 ·refine⟨⟨by omega,?_⟩,rfl,?_,?_⟩
  ·cases s with
   | nil=>exact absurd g (by decide)
   | cons a s=>rw[List.length_cons];omega
  ·unfold dcP;rw[if_pos g,decide_eq_true g];rfl
  ·rw[List.length_drop];omega
 ·refine⟨rfl,?_,Nat.le_refl _⟩
  unfold dcP;rw[if_neg g,decide_eq_false g]
 rintro s1 neg _ _ _ _ ⟨rfl,h1,hl1⟩
 rw[h1]at hk
 refine TT (by omega) ?_
 have hrl:=Cu s1
 refine⟨fun s2 neg2 n _ _ _ st'=>s1=s2/\neg=neg2/\n=((Aw s1).length:Nat)/\st=st'/\dcQ neg s1=dcF neg (Aw s1) (s1.drop (Aw s1).length),Aa (fun g=>?_) fun g=>Aa (fun g2=>?_) fun g2=>?_,?_⟩
 ·have:Aw s1=[]:=List.length_eq_zero_iff.1 (by omega)
  unfold KD dcQ at hk
  rw[if_pos (.inl this)]at hk;exact hk
 ·refine⟨⟨by omega,by omega⟩,Aa (fun g3=>?_) fun g3=>⟨rfl,rfl,rfl,rfl,?_⟩⟩
  ·have:s1.getD 0 0=48:=u8i.1 g3
   unfold KD dcQ at hk
   rw[if_pos (.inr ⟨by omega,this⟩)]at hk;exact hk
  ·unfold dcQ
   rw[if_neg]
   rintro(h | ⟨_,h⟩)
   ·exact g (by rw[h];rfl)
   ·exact g3 (by show((s1.getD 0 0).toNat:Int)=48;rw[h];rfl)
 ·refine⟨rfl,rfl,rfl,rfl,?_⟩
  unfold dcQ
  rw[if_neg]
  rintro(h | ⟨h,_⟩)
  ·exact g (by rw[h];rfl)
  ·omega
 rintro _ _ _ _ _ _ _ ⟨rfl,rfl,rfl,rfl,h2⟩
 rw[h2]at hk
 rw[Int.toNat_natCast,D5]
 refine⟨⟨by omega,by omega⟩,⟨by omega,by omega⟩,?_⟩
 have hdg:=Gk s1
 generalize hr:s1.drop (Aw s1).length=r at*
 generalize ha:Aw s1=a at*
 have hrl2:a.length+r.length<=1000000:=by
  have:r.length=s1.length-a.length:=by rw[<-hr,List.length_drop]
  omega
 clear hr ha h1 h2
 refine⟨fun s3 all ex neg3 _ _ _ st'=>neg=neg3/\st=st'/\dcF neg a r=dcE neg all ex s3/\ -1000000<=ex/\ex<=0/\all.length<=1000000/\s3.length<=1000000/\∀c,c∈all->AS c,J9 (by decide) (Aa (fun g=>?_) fun g=>?_),?_⟩
 ·have hr1:1<=r.length:=by
   cases r with
   | nil=>exact absurd g (by decide)
   | cons c r=>rw[List.length_cons];omega
  refine⟨⟨by omega,by omega⟩,TT (by show(r.drop 1).length<=_;rw[List.length_drop];omega) ?_⟩
  rw[show Int.toNat (1:Int)=1 from rfl]
  have hd1:=Cu (r.drop 1)
  have hd2:=Gk (r.drop 1)
  have hd3:=D5 (r.drop 1)
  rw[List.length_drop]at hd1
  generalize hf:Aw (r.drop 1)=f at*
  refine Aa (fun g2=>?_) fun g2=>?_
  ·have:f=[]:=List.length_eq_zero_iff.1 (by omega)
   unfold KD dcF at hk
   rw[if_pos g,hf,if_pos this]at hk;exact hk
  ·rw[Ah (((f.length:Nat):Int)+1) (by omega) (by omega),Ah (0-_) (by omega) (by omega),show((((f.length:Nat):Int)+1).toNat)=1+f.length by omega]
   have hdt:(r.take (1+f.length)).drop 1=f:=by rw[List.drop_take,Nat.add_sub_cancel_left];exact hd3
   refine⟨⟨by omega,by omega,by omega⟩,?_⟩
   show(a.length+((r.take (1+f.length)).drop 1).length<=_)/\_
   rw[hdt]
   refine⟨by omega,⟨by omega,by omega⟩,rfl,rfl,?_,by omega,by omega,by rw[List.length_append];omega,by rw[List.length_drop];omega,fun c hc=>?_⟩
   ·unfold dcF
    rw[if_pos g,hf,if_neg (fun e=>g2 (by rw[e];rfl))]
    rw[show(0:Int)-(f.length:Nat)= -(f.length:Nat) by omega]
   ·rcases List.mem_append.1 hc with hc | hc
    ·exact hdg c hc
    ·exact hd2 c hc
 ·refine⟨rfl,rfl,?_,by omega,by omega,by omega,by omega,hdg⟩
  unfold dcF;rw[if_neg g]
 rintro s3 all ex _ _ _ _ _ ⟨rfl,rfl,h3,x1,x2,x3,x4,x5⟩
 rw[h3]at hk
 clear h3 hdg hrl2
 refine Aa (fun g=>?_) fun g=>?_
 ·have hpos:1<=s3.length:=List.length_pos_iff.2 g
  refine⟨fun s4 neg4 all4 ex4 _ _ _ st'=>s3=s4/\neg=neg4/\all=all4/\ex=ex4/\st=st'/\(s3.getD 0 0=101∨s3.getD 0 0=69),?_,?_⟩
  ·have n101:((s3.getD 0 0).toNat:Int)≠101↔s3.getD 0 0≠101:=not_congr (u8i (k:=101))
   have n69:((s3.getD 0 0).toNat:Int)≠69↔s3.getD 0 0≠69:=not_congr (u8i (k:=69))
   refine⟨⟨by omega,by omega⟩,Aa (fun g1=>⟨⟨by omega,by omega⟩,Aa (fun g2=>?_) fun g2=>⟨rfl,rfl,rfl,rfl,rfl,.inr (Decidable.not_not.1 fun h=>g2 (n69.2 h))⟩⟩) fun g1=>⟨rfl,rfl,rfl,rfl,rfl,.inl (Decidable.not_not.1 fun h=>g1 (n101.2 h))⟩⟩
   unfold KD dcE at hk
   rw[if_neg g,if_neg (by rintro(h | h);exact n101.1 g1 h;exact n69.1 g2 h)]at hk
   exact hk
  rintro _ _ _ _ _ _ _ _ ⟨rfl,rfl,rfl,rfl,rfl,he⟩
  unfold KD dcE at hk
  rw[if_neg g,if_pos he]at hk
  refine⟨⟨by omega,by omega⟩,J9 (by decide) ?_⟩
  show ∃_,_
  refine⟨fun s5 neg5 all5 ex5 less _ _ _ st'=>neg=neg5/\all=all5/\ex=ex5/\st=st'/\s5.length<=1000000/\KD K (dcX neg all ex less s5) st,Aa (fun g1=>?_) fun g1=>J9 (by decide) (Aa (fun g2=>?_) fun g2=>?_),?_⟩
  ·have g1':(s3.drop 1).getD 0 0=45:=g1
   rw[if_pos g1']at hk
   refine⟨⟨by omega,?_⟩,rfl,rfl,rfl,rfl,?_,?_⟩
   ·have:1<=(s3.drop 1).length:=by
     cases hc:s3.drop 1 with
     | nil=>rw[hc]at g1';exact absurd g1' (by decide)
     | cons c r=>rw[List.length_cons];omega
    exact Int.ofNat_le.2 this
   ·show((s3.drop 1).drop 1).length<=_;rw[List.length_drop,List.length_drop];omega
   ·rw[decide_eq_true g1]
    show KD K (dcX neg all ex true ((s3.drop 1).drop 1)) st
    rw[List.drop_drop];exact hk
  ·have g1':¬(s3.drop 1).getD 0 0=45:=g1
   have g2':(s3.drop 1).getD 0 0=43:=g2
   rw[if_neg g1',if_pos g2']at hk
   refine⟨⟨by omega,?_⟩,rfl,rfl,rfl,rfl,?_,?_⟩
   ·have:1<=(s3.drop 1).length:=by
     cases hc:s3.drop 1 with
     | nil=>rw[hc]at g2';exact absurd g2' (by decide)
     | cons c r=>rw[List.length_cons];omega
    exact Int.ofNat_le.2 this
   ·show((s3.drop 1).drop 1).length<=_;rw[List.length_drop,List.length_drop];omega
   ·rw[decide_eq_false g1]
    show KD K (dcX neg all ex false ((s3.drop 1).drop 1)) st
    rw[List.drop_drop];exact hk
  ·have g1':¬(s3.drop 1).getD 0 0=45:=g1
   have g2':¬(s3.drop 1).getD 0 0=43:=g2
   rw[if_neg g1',if_neg g2']at hk
   refine⟨rfl,rfl,rfl,rfl,?_,?_⟩
   ·show(s3.drop 1).length<=_;rw[List.length_drop];omega
   ·rw[decide_eq_false g1];exact hk
  rintro s5 _ _ _ less _ _ _ _ ⟨rfl,rfl,rfl,rfl,hl5,hk5⟩
  unfold KD dcX at hk5
  refine Aa (fun g1=>by rw[if_pos (.inl g1)]at hk5;exact hk5) fun g1=>TT (by omega) (Aa (fun g2=>?_) fun g2=>?_)
  ·rw[if_pos (.inr (by omega))]at hk5;exact hk5
  ·have hall:Aw s5=s5:=by
    have:=MS s5
    have h0:s5.drop (Aw s5).length=[]:=List.drop_of_length_le (by omega)
    rw[h0,List.append_nil]at this
    exact this.symm
   have hd5:∀c,c∈s5->AS c:=by rw[<-hall];exact Gk s5
   rw[if_neg (by rintro(h | h);exact g1 h;exact h (by rw[hall]))]at hk5
   refine MY (by decide) (XI (by omega) (by omega) (fun c hc=>hd5 c (H3 s5 c hc)) (Jt s5) ?_)
   show CallT PR CN [.bool neg,.str all,.int .i64 (if less=true then ex-((if (A2 s5).length<=12 then Bq (A2 s5)else 1099511627776:Nat):Int)else ex+((if (A2 s5).length<=12 then Bq (A2 s5)else 1099511627776:Nat):Int))] _ _ _
   rw[F5]
   have sm:=EI all
   by_cases h12:(A2 s5).length<=12
   ·have hn:=PY hd5 h12
    rw[if_pos h12]
    refine Rt (by omega) x5 ?_ ?_ hk5
    ·split<;>omega
    ·split<;>omega
   ·have hf:=Sf (k:=12) hd5 (by omega)
    rw[if_neg h12]
    refine Rt (by omega) x5 ?_ ?_ ?_
    ·split<;>omega
    ·split<;>omega
    ·have:=VW (neg:=neg) (s:=A2 all) (ex:=ex) (n:=((1099511627776:Nat):Int)) (m:=(Bq s5:Nat)) (by omega) (by omega) (by omega) (by omega) (by omega) less
     unfold KD
     rw[this];exact hk5
 ·have g0:s3=[]:=Decidable.not_not.1 g
  unfold KD dcE at hk
  rw[if_pos g0]at hk
  exact Rt (by omega) x5 (by omega) (by omega) hk
theorem SlR.ldb {st:St} {u:TV} {l:B8} {k:Nat} (h:SlR st 1 u l.length (AF l)) (hk:k<l.length):Ac st [] (.t (ixT 1 u k)) 0=some (Gq l[k]):=by
 have:=h.ldc (by rw[DS];omega) hk
 rw[List.drop_eq_getElem_cons (by rw[DS];omega)]at this
 simp only[Aj,List.take_succ_cons,List.take_zero]at this
 cases hq:Ac st [] (.t (ixT 1 u k)) 0 with
 | none=>rw[hq]at this;cases this
 | some y=>
  rw[hq]at this
  simp only[Option.map_some,Option.some.injEq,List.cons.injEq,and_true]at this
  rw[this];simp[AF]
def zs (n:Nat):B8:=List.replicate n 48
theorem Ov:∀n,Lib.repeatL [48] n=zs n
 | 0=>rfl
 | n+1=>by
  show [48]++Lib.repeatL [48] n=_
  rw[Ov n];rfl
theorem TF (n:Nat):(zs n).length=n:=by simp[zs]
theorem Qb {n:Nat} (hn:n<=2000000) {st:St} {K:B8->St->Prop} (hk:K (zs n) st):CallT PR Eo [.str [48],.int .i64 (n:Int)] [.one .str] st K:=by
 refine DA (fun _ _=>by kernel_rfl) fun g w vargs s hr=>?_
 obtain⟨v,u,rfl,hv,hu⟩:=Ox hr
 rw[Bo hv,SL hu]
 refine Calls.mono (Tryz.strings_Repeat ⟨#[48]⟩ n w (by omega) (by simp[ByteArray.size];omega)) ?_
 rintro e w' ⟨rfl,hb⟩
 obtain⟨s',e'⟩:=s.world hb.size (s.below.trans (hb.mono s.fits)) hb.block
 refine⟨_,rfl,.str (zs n),st,g,hk,s',?_,e'⟩
 have:Lib.repeatL (ByteArray.mk #[48]).data.toList n=zs n:=Ov n
 rw[this];exact Rel.str _
theorem E3 (st:St) (b:Nat) (o:Lb):(st.put b o).box b=o:=by simp[St.put]
theorem HG (st:St) (o:Lb) (t:Option Nat):(st.push o t).box st.nb=o:=by simp[St.push]
theorem GR.set {st:St} {u:TV} {n i:Nat} {xs:List TV} {bs:List Nat} {x:TV} {K:St->Prop} (h:GR st 1 u n xs bs) (hi:i<n) (hK:∀st',GR st' 1 u n (xs.set i x) bs->StX (·∈bs) st st'->K st'):stB st (ixT 1 u i) [x] K:=by
 rcases h with⟨h0,_⟩ | ⟨b,cap,tail,rfl,h1,h2,h3,h4,h5,rfl⟩
 ·omega
 ·simp only[ixT,Nat.zero_add,Nat.mul_one,stB]
  have hl:(xs++tail).length=cap:=by omega
  rw[List.length_append]at hl
  refine⟨_,h2,by rw[List.length_append,List.length_singleton];omega,hK _ (.inr ⟨b,cap,tail,rfl,h1,?_,by rw[List.length_append,List.length_set];omega,by rw[List.length_set];exact h4,h5,rfl⟩) (StX.put (S:=(·∈ [b])) (.head _) _)⟩
  rw[E3]
  simp only[setAll]
  rw[List.set_append_left _ _ (by omega)]
def BxB (st0 st:St) (u:TV) (l:B8):Prop:=∃bs,GR st 1 u l.length (AF l) bs/\Aq st0 st/\∀x,x∈bs->st0.nb<=x
theorem BxB.nil {st0 st:St} (e:Aq st0 st):BxB st0 st .nilSlice []:=⟨[],GR.nil _ _,e,fun x hx=>by cases hx⟩
theorem BxB.rd {st0 st:St} {u:TV} {l:B8} (h:BxB st0 st u l):SlR st 1 u l.length (AF l):=by
 obtain⟨bs,h1,_⟩:=h;exact h1.rd
theorem BxB.ext {st0 st:St} {u:TV} {l:B8} (h:BxB st0 st u l):Aq st0 st:=by
 obtain⟨bs,_,h2,_⟩:=h;exact h2
theorem BxB.app {st0 st:St} {u:TV} {l:B8} {c:UInt8} {x:TV} {K:TV->St->Prop} (h:BxB st0 st u l) (hx:x=Gq c) (hl:l.length<=100000000) (hK:∀u' st',BxB st0 st' u' (l++[c])->K u' st'):MV 5 1 1 u 1 [x] st K:=by
 obtain⟨bs,h1,h2,h3⟩:=h
 subst hx
 refine QL h1 (by omega) rfl (by omega) fun u' st' bs' ho e hb=>hK u' st' ⟨bs',?_,?_,?_⟩
 ·rw[List.length_append,List.length_singleton,<-KN];exact ho
 ·exact StX.ext h2 e h3
 ·rcases hb with⟨rfl,_⟩ | rfl
  ·exact h3
  ·intro y hy;rw[List.mem_singleton.1 hy];exact h2.nb
theorem U7 (l:B8) (i:Nat) (c:UInt8):(AF l).set i (Gq c)=AF (l.set i c):=by
 unfold AF;rw[List.map_set]
theorem BxB.set {st0 st:St} {u:TV} {l:B8} {i:Nat} {c:UInt8} {x:TV} {K:St->Prop} (h:BxB st0 st u l) (hx:x=Gq c) (hi:i<l.length) (hK:∀st',BxB st0 st' u (l.set i c)->K st'):stB st (ixT 1 u i) [x] K:=by
 obtain⟨bs,h1,h2,h3⟩:=h
 subst hx
 refine h1.set hi fun st' ho e=>hK st' ⟨bs,?_,StX.ext h2 e h3,h3⟩
 rw[List.length_set,<-U7];exact ho
theorem zrep_u8 (n:Nat):Iz [.int .u8 (0:Int)] (n*1)=AF (List.replicate n 0):=by
 unfold Iz AF
 rw[Nat.mul_one,List.map_replicate]
 refine List.ext_getElem (by simp) fun i h1 h2=>?_
 simp[Gq,Nat.mod_one]
theorem BxB.make {st0 st:St} (e:Aq st0 st) (n:Nat):BxB st0 (st.push (.cells (Iz [.int .u8 (0:Int)] (n*1))) (some 5)) (.ms 1 st.nb 0 n n) (List.replicate n 0):=by
 refine⟨[st.nb],.inr ⟨st.nb,n,[],by rw[List.length_replicate],by simp[St.push],?_,?_,?_,?_,rfl⟩,e.push _ _,fun x hx=>by rw[List.mem_singleton.1 hx];exact e.nb⟩
 ·rw[zrep_u8,List.append_nil,HG]
 ·rw[List.append_nil,DS,List.length_replicate,Nat.mul_one]
 ·rw[DS];omega
 ·rw[List.length_replicate];exact Nat.le_refl _
theorem VQ {c:UInt8} {f:Int->Prop} (h:f (c.toNat:Int)):Af (.int .u8) (Gq c) f:=Ax h
theorem BxB.ld {st0 st:St} {u:TV} {l:B8} {i:Nat} (h:BxB st0 st u l) (hi:i<l.length):Ac st [] (.t (ixT 1 u i)) 0=some (Gq l[i]):=h.rd.ldb hi
theorem BxB.str {st0 st:St} {u:TV} {l:B8} {K:B8->Prop} (h:BxB st0 st u l) (hk:K l):Ag ((toBytes st u).map TV.str) fun x=>Af .str x K:=
 Ad (x:= .str l) (by rw[h.rd.toBytes];rfl) (Am hk)
theorem TX {st0 st:St} {u:TV} {l:B8} (hl:l.length<=100000000) (h:BxB st0 st u l) {K:St->Prop} (hk:∀st',BxB st0 st' u l.reverse->K st'):CallT PR Er [u] [] st K:=by
 refine Lf u st K (Ab h.rd.isSl ?_)
 rw[h.rd.lenS,Ah _ (by omega) (by omega)]
 refine⟨fun i k b st'=>u=b/\∃(n:Nat) (m:B8),i=n/\k=(l.length:Int)-1-n/\2*n<=l.length+1/\m.length=l.length/\BxB st0 st' u m/\∀j,j<l.length->m.getD j 0=if j<n∨l.length-n<=j then l.getD (l.length-1-j) 0 else l.getD j 0,fun i _ _ _=>(l.length-i).toNat,⟨rfl,0,l,rfl,by omega,by omega,rfl,h,fun j hj=>by rw[if_neg (by omega)]⟩,?_⟩
 rintro _ _ _ st1 ⟨rfl,n,m,rfl,rfl,hn,hm,hb,hall⟩
 refine Aa (fun g=>?_) fun g=>hk _ ?_
 ·have hk':Int.toNat ((l.length:Int)-1-n)=l.length-1-n:=by omega
  have hr:=hb.rd
  have hnl:n<m.length:=by omega
  have hkl:l.length-1-n<m.length:=by omega
  rw[hr.lenZ,hk',Int.toNat_natCast]
  refine⟨⟨by omega,by omega⟩,Ad (hb.ld hkl) (VQ ⟨⟨by omega,by omega⟩,Ad (hb.ld hnl) (VQ ⟨⟨by omega,by omega⟩,hb.set (c:=m[l.length-1-n]) rfl hnl fun st2 hb2=>⟨⟨by omega,by omega⟩,hb2.set (c:=m[n]) rfl (by rw[List.length_set];exact hkl) fun st3 hb3=>?_⟩⟩)⟩)⟩
  rw[Ah _ (by omega) (by omega),Ah _ (by omega) (by omega)]
  refine⟨⟨rfl,n+1,_,by omega,by omega,by omega,by rw[List.length_set,List.length_set];exact hm,hb3,fun j hj=>?_⟩,by dsimp only;omega⟩
  have h1:=hall n (by omega)
  have h2:=hall (l.length-1-n) (by omega)
  rw[if_neg (by omega)]at h1 h2
  have e1:m.getD n 0=m[n]:=by rw[List.getD_eq_getElem?_getD,List.getElem?_eq_getElem hnl];rfl
  have e2:m.getD (l.length-1-n) 0=m[l.length-1-n]:=by rw[List.getD_eq_getElem?_getD,List.getElem?_eq_getElem hkl];rfl
  have e3:((m.set n m[l.length-1-n]).set (l.length-1-n) m[n]).getD j 0=if j=l.length-1-n then m[n]else if j=n then m[l.length-1-n]else m.getD j 0:=by
   rw[List.getD_eq_getElem?_getD,List.getElem?_set,List.getElem?_set]
   by_cases c1:j=l.length-1-n
   ·rw[if_pos c1.symm,if_pos c1,if_pos (by rw[List.length_set];omega)];rfl
   ·rw[if_neg (fun e=>c1 e.symm),if_neg c1]
    by_cases c2:j=n
    ·rw[if_pos c2.symm,if_pos c2,if_pos (by omega)];rfl
    ·rw[if_neg (fun e=>c2 e.symm),if_neg c2,List.getD_eq_getElem?_getD]
  rw[e3]
  by_cases c1:j=l.length-1-n
  ·rw[if_pos c1,if_pos (by omega),<-e1,h1];congr 1;omega
  ·rw[if_neg c1]
   by_cases c2:j=n
   ·rw[if_pos c2,if_pos (by omega),<-e2,h2];congr 1;omega
   ·rw[if_neg c2,hall j hj]
    by_cases c3:j<n∨l.length-n<=j
    ·rw[if_pos c3,if_pos (by omega)]
    ·rw[if_neg c3,if_neg (by omega)]
 ·have:m=l.reverse:=by
   refine List.ext_getElem (by simpa using hm) fun j h1 h2=>?_
   have:=hall j (by omega)
   rw[List.getD_eq_getElem?_getD,List.getElem?_eq_getElem h1,Option.getD_some]at this
   rw[this,List.getElem_reverse]
   by_cases c:j<n∨l.length-n<=j
   ·rw[if_pos c,List.getD_eq_getElem?_getD,List.getElem?_eq_getElem (by omega),Option.getD_some]
   ·rw[if_neg c,List.getD_eq_getElem?_getD,List.getElem?_eq_getElem (by omega),Option.getD_some]
    congr 1;omega
  rw[<-this];exact hb
theorem dg_w8 {n:Nat} (x:Int) (h:x=n):u8.wrap (i64.wrap (48+x.tmod 10))=(((48+n%10).toUInt8.toNat:Nat):Int):=by
 subst h
 rw[Int.tmod_eq_emod_of_nonneg (by omega),Ah _ (by omega) (by omega),VP _ (by omega),LZ _ (by omega) (by omega)];omega
theorem UK {n:Nat} (hn:n<=9000000000000000000) {st:St} {K:B8->St->Prop} (hk:∀st',Aq st st'->K (NE n) st'):CallT PR Es [.int .i64 (n:Int)] [.one .str] st K:=by
 have hlen:(NE n).length<=19:=OI 19 n (by omega)
 refine Lg _ st K ⟨fun k b st'=>∃(m:Nat) (l:B8),k=m/\m<=n/\BxB st st' b l/\NE n=NE m++l.reverse,fun k _ _=>k.toNat,⟨n,[],rfl,Nat.le_refl _,BxB.nil (Aq.refl _),by simp⟩,?_⟩
 rintro _ b st1 ⟨m,l,rfl,hm,hb,he⟩
 have hll:l.length<=19:=by rw[he,List.length_append,List.length_reverse]at hlen;omega
 refine Aa (fun g=>?_) fun g=>?_
 ·refine hb.app (c:=(48+m%10).toUInt8) (by rw[dg_w8 _ rfl];rfl) (by omega) fun u' st2 hb2=>?_
  have hd:i64.wrap ((m:Int).tdiv 10)=((m/10:Nat):Int):=by rw[Int.tdiv_eq_ediv_of_nonneg (by omega),Ah _ (by omega) (by omega)];omega
  rw[hd]
  refine⟨⟨m/10,_,rfl,by omega,hb2,?_⟩,by dsimp only;omega⟩
  rw[he,Qk (by omega),List.reverse_append,List.reverse_singleton,List.append_assoc]
 ·have h0:m=0:=by omega
  subst h0
  rw[MD,List.nil_append]at he
  refine TX (by omega) hb fun st2 hb2=>hb2.str ?_
  rw[<-he];exact hk _ hb2.ext
theorem R6 {n:Nat} (hn:n<=9000000000000000000) {st:St} {K:B8->St->Prop} (hk:∀st',Aq st st'->K (whN n) st'):CallT PR DC [.int .i64 (n:Int)] [.one .str] st K:=by
 unfold whN at hk
 refine L6 _ st K (Aa (fun g=>?_) fun g=>UK hn fun st' e=>?_)
 ·have:=hk st (Aq.refl _)
  rw[if_pos (by omega)]at this;exact this
 ·have:=hk st' e
  rw[if_neg (by omega)]at this;exact this
theorem expT_eq (p:Int):expT p=if p<1 then 101::45::whN (1-p).toNat else 101::whN (p-1).toNat:=by
 unfold expT;split<;>rfl
def PG (neg:Bool):B8:=if neg then [45]else []
theorem Xc (neg:Bool):(PG neg).length<=1:=by cases neg<;>decide
theorem Vn {n:Nat} (h:n<10^18):(whN n).length<=18:=by
 unfold whN;split
 ·decide
 ·exact OI 18 n h
theorem Yn {neg:Bool} {dg:B8} {ex:Int} (h:FD neg dg ex) {st:St} {K:B8->St->Prop} (hk:∀st',Aq st st'->K (dcT neg dg ex) st'):CallT PR D1 [.agg [.bool neg,.str dg,.int .i64 ex]] [.one .str] st K:=by
 have e0:=Aq.refl st
 unfold dcT at hk
 by_cases hne:dg=[]
 ·rw[if_pos hne]at hk
  refine Iq neg dg ex st K ⟨fun _ _ _ _=>False,Aa (fun _=>hk st e0) fun g=>absurd hne g,fun _ _ _ _ h=>h.elim⟩
 rw[if_neg hne]at hk
 obtain⟨h1,h2,h3,h4,h5,h6⟩:=h.2 hne
 have hpos:=List.length_pos_iff.2 hne
 have hs:=Xc neg
 have hw:i64.wrap ((dg.length:Int)+ex)=dg.length+ex:=Ah _ (by omega) (by omega)
 refine Iq neg dg ex st K ⟨fun b s n st'=>neg=b/\dg=s/\ex=n/\st=st',Aa (fun g=>absurd g hne) fun _=>Ng (by omega) ?_,?_⟩
 ·rw[decide_eq_true h]
  exact⟨rfl,rfl,rfl,rfl⟩
 rintro _ _ _ _ ⟨rfl,rfl,rfl,rfl⟩
 refine⟨fun s b s1 n st'=>PG neg=s/\neg=b/\dg=s1/\ex=n/\st=st',Ak (fun hb=>⟨by rw[hb];rfl,rfl,rfl,rfl,rfl⟩) fun hb=>⟨by rw[hb];rfl,rfl,rfl,rfl,rfl⟩,?_⟩
 rintro _ _ _ _ _ ⟨rfl,rfl,rfl,rfl,rfl⟩
 rw[hw]
 have hk':=hk
 rw[show(if neg=true then [45]else [])=PG neg from rfl]at hk
 refine⟨fun s n p b s2 n2 st'=>PG neg=s/\(dg.length:Int)=n/\(dg.length:Int)+ex=p/\dg=s2/\st=st'/\¬(0<=ex/\dg.length+ex<=21)/\¬(ex<0/\1<=dg.length+ex/\dg.length+ex<=21)/\¬(-5<=dg.length+ex/\dg.length+ex<=0),?_,?_⟩
 ·refine⟨fun b s n p b4 s3 n3 st'=>b=decide (0<=ex/\dg.length+ex<=21)/\PG neg=s/\(dg.length:Int)=n/\(dg.length:Int)+ex=p/\dg=s3/\ex=n3/\st=st',?_,?_⟩
  ·refine Aa (fun g=>⟨?_,rfl,rfl,rfl,rfl,rfl,rfl⟩) fun g=>⟨?_,rfl,rfl,rfl,rfl,rfl,rfl⟩
   ·exact decide_eq_decide.2 ⟨fun g2=>⟨g,g2⟩,fun g2=>g2.2⟩
   ·exact(decide_eq_false fun g2=>g g2.1).symm
  rintro _ _ _ _ _ _ _ _ ⟨rfl,rfl,rfl,rfl,rfl,rfl,rfl⟩
  refine Aa (fun g=>?_) fun g=>?_
  ·rw[if_pos g]at hk
   obtain⟨g1,g2⟩:=g
   obtain⟨m,rfl⟩:∃m:Nat,ex=m:=⟨ex.toNat,by omega⟩
   refine⟨by omega,Qb (by omega) ⟨by rw[List.length_append,TF];omega,?_⟩⟩
   have:=hk st e0
   rw[Int.toNat_natCast,<-List.append_assoc]at this
   exact this
  rw[if_neg g]at hk
  refine⟨fun b s n p b5 s5 n4 st'=>b=decide (ex<0/\1<=dg.length+ex/\dg.length+ex<=21)/\PG neg=s/\(dg.length:Int)=n/\(dg.length:Int)+ex=p/\dg=s5/\ex=n4/\st=st',?_,?_⟩
  ·refine Aa (fun g1=>Aa (fun g2=>⟨?_,rfl,rfl,rfl,rfl,rfl,rfl⟩) fun g2=>⟨?_,rfl,rfl,rfl,rfl,rfl,rfl⟩) fun g1=>⟨?_,rfl,rfl,rfl,rfl,rfl,rfl⟩
   ·exact decide_eq_decide.2 ⟨fun g3=>⟨g1,g2,g3⟩,fun g3=>g3.2.2⟩
   ·exact(decide_eq_false fun g3=>g2 g3.2.1).symm
   ·exact(decide_eq_false fun g3=>g1 g3.1).symm
  rintro _ _ _ _ _ _ _ _ ⟨rfl,rfl,rfl,rfl,rfl,rfl,rfl⟩
  refine Aa (fun g2=>?_) fun g2=>?_
  ·rw[if_pos g2]at hk
   obtain⟨g3,g4,g5⟩:=g2
   have hlt:(List.take (Int.toNat ((dg.length:Int)+ex)) dg).length<=dg.length:=by rw[List.length_take];omega
   have hld:(List.drop (Int.toNat ((dg.length:Int)+ex)) dg).length<=dg.length:=by rw[List.length_drop];omega
   refine⟨⟨by omega,by omega⟩,by omega,by rw[List.length_append];show _+1<=_;omega,⟨by omega,by omega⟩,by simp only[List.length_append];show _+1+_<=_;omega,?_⟩
   have:=hk st e0
   rw[<-List.append_assoc,List.append_cons]at this
   exact this
  rw[if_neg g2]at hk
  refine Aa (fun g3=>Aa (fun g4=>?_) fun g4=>⟨rfl,rfl,rfl,rfl,rfl,g,g2,fun g5=>g4 g5.2⟩) fun g3=>⟨rfl,rfl,rfl,rfl,rfl,g,g2,fun g5=>g3 g5.1⟩
  rw[if_pos ⟨g3,g4⟩]at hk
  obtain⟨m,hm⟩:∃m:Nat,(0:Int)-((dg.length:Int)+ex)=m:=⟨(0-((dg.length:Int)+ex)).toNat,by omega⟩
  rw[Ah _ (by omega) (by omega),hm]
  have hm2:(-((dg.length:Int)+ex)).toNat=m:=by omega
  rw[hm2]at hk
  refine⟨by show _+2<=_;omega,Qb (by omega) ⟨by rw[List.length_append,TF];show _+2+_<=_;omega,by simp only[List.length_append,TF];show _+2+_+_<=_;omega,?_⟩⟩
  have:=hk st e0
  rw[List.append_cons,List.append_cons,<-List.append_assoc,List.append_assoc (PG neg)]at this
  exact this
 ·rintro _ _ _ _ _ _ _ ⟨rfl,rfl,rfl,rfl,rfl,g1,g2,g3⟩
  rw[if_neg g1,if_neg g2,if_neg g3,expT_eq]at hk
  have ht1:(List.take (Int.toNat 1) dg).length=1:=by rw[List.length_take];omega
  have hd1:(List.drop (Int.toNat 1) dg).length<=dg.length:=by rw[List.length_drop];omega
  refine⟨⟨by omega,by omega⟩,by omega,fun s p st'=>PG neg++(dg.take 1++(if 1<dg.length then 46::dg.drop 1 else []))=s/\(dg.length:Int)+ex=p/\st=st',?_,?_⟩
  ·refine Aa (fun g4=>⟨⟨by omega,by omega⟩,by show 1+_<=_;omega,by simp only[List.length_append];show _+(1+_)<=_;omega,?_,rfl,rfl⟩) fun g4=>⟨?_,rfl,rfl⟩
   ·rw[if_pos (by omega),List.append_assoc];rfl
   ·rw[if_neg (by omega),List.append_nil];rfl
  rintro s _ _ ⟨hs0,rfl,rfl⟩
  have hsl:s.length<=300:=by
   rw[<-hs0]
   have:(if 1<dg.length then 46::dg.drop 1 else []).length<=dg.length:=by
    split
    ·rw[List.length_cons,List.length_drop];omega
    ·simp
   simp only[List.length_append,List.length_take];omega
  refine Aa (fun g4=>?_) fun g4=>?_
  ·rw[if_pos g4]at hk
   obtain⟨m,hm⟩:∃m:Nat,(1:Int)-((dg.length:Int)+ex)=m:=⟨(1-((dg.length:Int)+ex)).toNat,by omega⟩
   have hwl:=Vn (n:=m) (by omega)
   rw[Ah _ (by omega) (by omega),hm]
   refine⟨by show _+2<=_;omega,R6 (by omega) fun st' e'=>⟨by rw[List.length_append];show _+2+_<=_;omega,?_⟩⟩
   have:=hk st' e'
   rw[<-List.append_assoc (dg.take 1),<-List.append_assoc (PG neg),hs0,hm,Int.toNat_natCast,List.append_cons,List.append_cons,List.append_assoc s]at this
   exact this
  ·rw[if_neg g4]at hk
   obtain⟨m,hm⟩:∃m:Nat,((dg.length:Int)+ex)-1=m:=⟨(((dg.length:Int)+ex)-1).toNat,by omega⟩
   have hwl:=Vn (n:=m) (by omega)
   rw[Ah _ (by omega) (by omega),hm]
   refine⟨by show _+1<=_;omega,R6 (by omega) fun st' e'=>⟨by rw[List.length_append];show _+1+_<=_;omega,?_⟩⟩
   have:=hk st' e'
   rw[<-List.append_assoc (dg.take 1),<-List.append_assoc (PG neg),hs0,hm,Int.toNat_natCast,List.append_cons]at this
   exact this
def Ut (y m:Nat):Nat:=if 1<=y/\y<=9999/\1<=m/\m<=12 then Ko y m else 0
theorem FK {y m:Nat} (h1:1<=y) (h2:y<=9999) (h3:1<=m) (h4:m<=12):Ut y m=Ko y m:=if_pos ⟨h1,h2,h3,h4⟩
theorem Nl {y:Nat} {st:St} {K:Bool->St->Prop} (hk:K (decide (1<=y/\y<=9999)) st):CallT PR De [.int .i64 (y:Int)] [.one .bool] st K:=by
 refine Lh _ st K (Aa (fun g=>?_) fun g=>?_)
 ·exact Ck (decide_eq_decide.2 ⟨fun h=>by omega,fun h=>by omega⟩) hk
 ·rw[decide_eq_false (by omega)]at hk;exact hk
theorem U6 {y:Nat} (h1:1<=y) (h2:y<=9999) {st:St} {K:Bool->St->Prop} (hk:K (decide (Nb y)) st):CallT PR ER [.int .i64 (y:Int)] [.one .bool] st K:=by
 refine Ma _ st K (Nl ?_)
 rw[decide_eq_true ⟨h1,h2⟩,Int.tmod_eq_emod_of_nonneg (by omega),Int.tmod_eq_emod_of_nonneg (by omega),Int.tmod_eq_emod_of_nonneg (by omega)]
 unfold Nb at hk
 refine Aa (p:=True) (fun _=>Aa (fun g=>Aa (fun g2=>?_) fun g2=>?_) fun g=>?_) (fun h=>absurd trivial h)
 ·exact Ck (decide_eq_true (show y%4=0/\(y%100≠0∨y%400=0)from⟨by omega,.inl (by omega)⟩) |>.symm) hk
 ·exact Ck (decide_eq_decide.2 ⟨fun h=>⟨by omega,.inr (by omega)⟩,fun h=>by omega⟩) hk
 ·exact Ck (decide_eq_false (show ¬(y%4=0/\(y%100≠0∨y%400=0))from fun h=>by omega) |>.symm) hk
theorem days_ix:∀k:Nat,k<12->k≠1->(([.int .i64 31,.int .i64 28,.int .i64 31,.int .i64 30,.int .i64 31,.int .i64 30,.int .i64 31,.int .i64 31,.int .i64 30,.int .i64 31,.int .i64 30,.int .i64 31]:List TV)[(0+k*1)+0]?)=some (.int .i64 (if k+1=4∨k+1=6∨k+1=9∨k+1=11 then 30 else 31))
 | 0,_,_=>rfl
 | 1,_,h=>absurd rfl h
 | 2,_,_=>rfl
 | 3,_,_=>rfl
 | 4,_,_=>rfl
 | 5,_,_=>rfl
 | 6,_,_=>rfl
 | 7,_,_=>rfl
 | 8,_,_=>rfl
 | 9,_,_=>rfl
 | 10,_,_=>rfl
 | 11,_,_=>rfl
 | k+12,h,_=>by omega
theorem GO {y m:Nat} (hm:m<=1000000) {st:St} {K:Int->St->Prop} (hk:K (Ut y m:Nat) st):CallT PR AR [.int .i64 (y:Int),.int .i64 (m:Int)] [.one (.int .i64)] st K:=by
 unfold Ut at hk
 refine Lk _ _ st K (Nl ?_)
 by_cases hy:1<=y/\y<=9999
 ·rw[decide_eq_true hy]
  refine Aa (p:=False) (fun h=>h.elim) fun _=>Aa (fun g=>?_) fun g=>Aa (fun g2=>?_) fun g2=>?_
  ·rw[if_neg (by omega)]at hk;exact hk
  ·rw[if_neg (by omega)]at hk;exact hk
  ·rw[if_pos (by omega)]at hk
   unfold Ko at hk
   rw[Ah _ (by omega) (by omega)]
   refine Aa (fun g3=>U6 hy.1 hy.2 (Aa (fun g4=>?_) fun g4=>?_)) fun g3=>⟨⟨by omega,by omega⟩,?_⟩
   ·rw[if_pos (by omega),if_pos g4]at hk;exact hk
   ·rw[if_pos (by omega),if_neg g4]at hk
    refine⟨⟨by omega,by omega⟩,?_⟩
    have:m=2:=by omega
    subst this
    exact Ad (x:= .int .i64 28) rfl (Ax hk)
   ·rw[if_neg (by omega)]at hk
    obtain⟨k,rfl⟩:∃k,m=k+1:=⟨m-1,by omega⟩
    rw[show(((k+1:Nat):Int)-1)=(k:Int) by omega,Int.toNat_natCast]
    refine Ad (days_ix k (by omega) (by omega)) (Ax ?_)
    split
    ·rename_i h;rw[if_pos h]at hk;exact hk
    ·rename_i h;rw[if_neg h]at hk;exact hk
 ·rw[decide_eq_false hy]
  refine Aa (p:=True) (fun _=>?_) fun h=>absurd trivial h
  rw[if_neg (fun h=>hy ⟨h.1,h.2.1⟩)]at hk;exact hk
theorem GN {y:Nat} (h1:1<=y) (h2:y<=1000000) {st:St} {K:Int->St->Prop} (hk:K (yrS y:Nat) st):CallT PR Bs [.int .i64 (y:Int)] [.one (.int .i64)] st K:=by
 refine Li _ st K ?_
 obtain⟨k,rfl⟩:∃k,y=k+1:=⟨y-1,by omega⟩
 unfold yrS at hk
 rw[Nat.add_sub_cancel]at hk
 rw[show(((k+1:Nat):Int)-1)=(k:Int) by omega,Ah (k:Int) (by omega) (by omega),Int.tdiv_eq_ediv_of_nonneg (by omega),Int.tdiv_eq_ediv_of_nonneg (by omega),Int.tdiv_eq_ediv_of_nonneg (by omega)]
 rw[Ah (365*(k:Int)) (by omega) (by omega),Ah ((k:Int)/4) (by omega) (by omega),Ah ((k:Int)/100) (by omega) (by omega),Ah ((k:Int)/400) (by omega) (by omega),Ah (365*(k:Int)+(k:Int)/4) (by omega) (by omega),Ah (365*(k:Int)+(k:Int)/4-(k:Int)/100) (by omega) (by omega),Ah _ (by omega) (by omega)]
 have e:(((365*k+k/4-k/100+k/400:Nat):Nat):Int)=365*(k:Int)+(k:Int)/4-(k:Int)/100+(k:Int)/400:=by omega
 rw[e]at hk;exact hk
theorem Ni {n y:Nat} (hy:1<=y) (hy2:y<=9999) (h1:yrS y<=n) (h2:n<yrS (y+1)) (hn:n<=3652058) {st:St} {K:Int->Int->Int->Int->St->Prop} (hk:∀m d:Nat,Ip n y m d->K y m d 0 st):
  ∃(I2:Int->Int->Int->St->Prop) (M2:Int->Int->Int->St->Nat),(I2 1 (i64.wrap ((n:Int)-(yrS y:Nat))) (y:Int) st)/\∀(month_1:Int) (rest_1:Int) (year_2:Int) (st5:St),I2 month_1 rest_1 year_2 st5->(
   CallT PR AR [.int .i64 year_2,.int .i64 month_1] [.one (.int .i64)] st5 (fun (n3:Int) (st6:St)=>BIf (decide (n3<=rest_1)) (
    CallT PR AR [.int .i64 year_2,.int .i64 month_1] [.one (.int .i64)] st6 (fun (n4:Int) (st7:St)=>(I2 (i64.wrap (month_1+1)) (i64.wrap (rest_1-n4)) year_2 st7/\M2 (i64.wrap (month_1+1)) (i64.wrap (rest_1-n4)) year_2 st7<M2 month_1 rest_1 year_2 st5)))
    (K year_2 month_1 (i64.wrap (rest_1+1)) 0 st6))):=by
 rw[Ah _ (by omega) (by omega)]
 refine⟨fun mo re ye st'=>(y:Int)=ye/\st=st'/\∃m:Nat,mo=m/\1<=m/\m<=12/\re=((n-yrS y-E7 y m:Nat):Int)/\E7 y m<=n-yrS y,fun mo _ _ _=>(13-mo).toNat,⟨rfl,rfl,1,rfl,by omega,by omega,by show _=((n-yrS y-0:Nat):Int);omega,Nat.zero_le _⟩,?_⟩
 rintro _ _ _ _ ⟨rfl,rfl,m,rfl,hm1,hm2,rfl,hm3⟩
 refine GO (by omega) ?_
 rw[FK hy hy2 hm1 hm2]
 have hs:=Eg y hm1
 have hle:=H9 y m
 refine Aa (fun g=>GO (by omega) ?_) fun g=>?_
 ·rw[FK hy hy2 hm1 hm2,Ah _ (by omega) (by omega),Ah _ (by omega) (by omega)]
  have hm:m≠12:=fun e=>by
   subst e
   rw[Lc hy]at h2;omega
  exact⟨⟨rfl,rfl,m+1,by omega,by omega,by omega,by rw[hs];omega,by rw[hs];omega⟩,by dsimp only;omega⟩
 ·rw[Ah _ (by omega) (by omega)]
  have:=hk m (n-yrS y-E7 y m+1) ⟨hy,hy2,hm1,hm2,by omega,by omega,by omega⟩
  exact this
theorem date_ok {n:Nat} (hn:n<=3652058) {st:St} {K:Int->Int->Int->Int->St->Prop} (hk:∀y m d:Nat,Ip n y m d->K y m d 0 st):CallT PR ES [.int .i64 (n:Int)] [.one (.int .i64),.one (.int .i64),.one (.int .i64),.one (.int .i64)] st K:=by
 refine Mb _ st K (Lj _ st _ (Aa (fun _=>?_) fun g=>by omega))
 rw[decide_eq_true (by omega)]
 refine Aa (p:=False) (fun h=>h.elim) fun _=>?_
 rw[Int.tdiv_eq_ediv_of_nonneg (by omega),Ah ((n:Int)/366) (by omega) (by omega),Ah _ (by omega) (by omega)]
 refine⟨fun ye n1 st'=>(n:Int)=n1/\st=st'/\∃y:Nat,ye=y/\1<=y/\y<=9999/\yrS y<=n,fun ye _ _=>(10000-ye).toNat,⟨rfl,rfl,n/366+1,by omega,by omega,by omega,by unfold yrS;rw[Nat.add_sub_cancel];omega⟩,?_⟩
 rintro ye _ _ ⟨rfl,rfl,y,hye,hy1,hy2,hy3⟩
 refine Aa (fun g=>?_) fun g=>?_<;>subst hye
 ·rw[Ah _ (by omega) (by omega),show((y:Int)+1)=((y+1:Nat):Int) by omega]
  refine GN (by omega) (by omega) (Aa (fun g2=>⟨⟨rfl,rfl,y+1,rfl,by omega,by omega,by omega⟩,by dsimp only;omega⟩) fun g2=>GN hy1 (by omega) ?_)
  exact Ni hy1 hy2 hy3 (by omega) hn fun m d hd=>hk y m d hd
 ·refine GN hy1 (by omega) ?_
  have:y=9999:=by omega
  have h10:yrS (y+1)=3652059:=by rw[this];rfl
  exact Ni hy1 hy2 hy3 (by omega) hn fun m d hd=>hk y m d hd
theorem Xt {y:Nat} (h1:1<=y) (h2:y<=9999) {st:St} {K:Bool->St->Prop} (hk:K (decide (Nb y)) st):CallT PR Ba [.int .i64 (y:Int)] [.one .bool] st K:=by
 refine Jq _ st K (Aa (fun _=>Aa (fun _=>?_) fun g=>by omega) fun g=>by omega)
 rw[Int.tmod_eq_emod_of_nonneg (by omega),Int.tmod_eq_emod_of_nonneg (by omega),Int.tmod_eq_emod_of_nonneg (by omega)]
 unfold Nb at hk
 refine Aa (fun g=>Aa (fun g2=>?_) fun g2=>?_) fun g=>?_
 ·exact Ck (decide_eq_true (show y%4=0/\(y%100≠0∨y%400=0)from⟨by omega,.inl (by omega)⟩) |>.symm) hk
 ·exact Ck (decide_eq_decide.2 ⟨fun h=>⟨by omega,.inr (by omega)⟩,fun h=>by omega⟩) hk
 ·exact Ck (decide_eq_decide.2 ⟨fun h=>by omega,fun h=>by omega⟩) hk
theorem Mt {y m:Nat} (hm:m<=1000000) {st:St} {K:Int->St->Prop} (hk:K (Ut y m:Nat) st):CallT PR Bi [.int .i64 (y:Int),.int .i64 (m:Int)] [.one (.int .i64)] st K:=by
 unfold Ut at hk
 refine IS _ _ st K (Aa (fun g=>?_) fun g=>Aa (fun g2=>?_) fun g2=>?_)
 ·rw[if_neg (by omega)]at hk;exact hk
 ·rw[if_neg (by omega)]at hk;exact hk
 refine⟨fun b y' m' st'=>b=decide (m=1∨m=3∨m=5∨m=7∨m=8∨m=10∨m=12)/\(y:Int)=y'/\(m:Int)=m'/\st=st',?_,?_⟩
 ·refine Aa (fun g=>⟨decide_eq_decide.2 (by omega),rfl,rfl,rfl⟩) fun g=>Aa (fun g=>⟨decide_eq_decide.2 (by omega),rfl,rfl,rfl⟩) fun g=>Aa (fun g=>⟨decide_eq_decide.2 (by omega),rfl,rfl,rfl⟩) fun g=>
   Aa (fun g=>⟨decide_eq_decide.2 (by omega),rfl,rfl,rfl⟩) fun g=>Aa (fun g=>⟨decide_eq_decide.2 (by omega),rfl,rfl,rfl⟩) fun g=>Aa (fun g=>⟨decide_eq_decide.2 (by omega),rfl,rfl,rfl⟩) fun g=>⟨decide_eq_decide.2 (by omega),rfl,rfl,rfl⟩
 rintro _ _ _ _ ⟨rfl,rfl,rfl,rfl⟩
 unfold Ko at hk
 have two:∀{x y:Int->St->Prop},True:=fun {_ _}=>trivial
 have t30:(m=4∨m=6∨m=9∨m=11)->K 30 st:=fun h=>by
  rw[if_pos (by omega),if_neg (by omega),if_pos h]at hk;exact hk
 have tz:¬(1<=m/\m<=12)->K 0 st:=fun h=>by
  rw[if_neg (by omega)]at hk;exact hk
 refine Aa (fun g3=>?_) fun g3=>?_
 ·rw[if_pos (by omega),if_neg (by omega),if_neg (by omega)]at hk;exact hk
 ·refine Aa (fun g4=>Aa (fun _=>t30 (by omega)) fun h=>absurd g4 h) fun g4=>Aa (fun g5=>Aa (fun _=>t30 (by omega)) fun h=>absurd g5 h) fun g5=>Aa (fun g6=>Aa (fun _=>t30 (by omega)) fun h=>absurd g6 h) fun g6=>Aa (fun g7=>t30 (by omega)) fun g7=>Aa (fun g8=>?_) fun g8=>tz (by omega)
  rw[if_pos (by omega),if_pos (by omega)]at hk
  refine Xt (by omega) (by omega) (Aa (fun g9=>?_) fun g9=>?_)
  ·rw[if_pos g9]at hk;exact hk
  ·rw[if_neg g9]at hk;exact hk
theorem LH (y:Nat):∀m,E7 y m<=31*m
 | 0=>Nat.le_refl _
 | 1=>Nat.zero_le _
 | m+2=>by
  have:=LH y (m+1)
  have:=H9 y (m+1)
  simp only[E7];omega
theorem Ub {y:Nat} (h1:1<=y) (h2:y<=9999) {st:St} {K:Int->St->Prop} (hk:K (E7 y 12+Ko y 12:Nat) st):CallT PR CF [.int .i64 (y:Int)] [.one (.int .i64)] st K:=by
 refine HS _ st K ⟨fun n mo ye st'=>(y:Int)=ye/\st=st'/\∃m:Nat,mo=m/\1<=m/\m<=13/\n=(E7 y m:Nat),fun _ mo _ _=>(13-mo).toNat,⟨rfl,rfl,1,rfl,by omega,by omega,rfl⟩,?_⟩
 rintro _ _ _ _ ⟨rfl,rfl,m,rfl,hm1,hm2,rfl⟩
 have hle:=LH y m
 refine Aa (fun g=>Mt (by omega) ?_) fun g=>?_
 ·have:=H9 y m
  rw[FK h1 h2 hm1 (by omega),Ah _ (by omega) (by omega),Ah _ (by omega) (by omega)]
  exact⟨⟨rfl,rfl,m+1,by omega,by omega,by omega,by rw[Eg y hm1];omega⟩,by dsimp only;omega⟩
 ·have:m=13:=by omega
  subst this
  rw[Eg y (by omega)];exact hk
def TR (r:Nat) (st:St):Option B8->Prop
 | some s=>r<st.nb/\st.box r= .cells [.str s,.bool false]/\s.length<=1000000
 | none=>r<st.nb/\∃s,st.box r= .cells [.str s,.bool true]/\s.length<=1000000
theorem TR.get {r:Nat} {st:St} {S:Option B8} (h:TR r st S):r<st.nb/\∃s,st.box r= .cells [.str s,.bool S.isNone]/\s.length<=1000000/\(∀x,S=some x->s=x):=by
 cases S with
 | none=>obtain⟨h1,s,h2,h3⟩:=h;exact⟨h1,s,h2,h3,fun x hx=>by cases hx⟩
 | some s=>obtain⟨h1,h2,h3⟩:=h;exact⟨h1,s,h2,h3,fun x hx=>by cases hx;rfl⟩
def TM (r f:Nat) (st:St) (S:Option B8) (l:List TV):Prop:=TR r st S/\f<st.nb/\st.box f= .cells l/\r≠f
theorem KX {r:Nat} {st:St} {s:B8} {b:Bool} (h:st.box r= .cells [.str s,.bool b]) (hr:r<st.nb) (hl:s.length<=1000000) {K:St->Prop} (hk:∀st',StX (·=r) st st'->TR r st' none->K st'):
  stB st (.box r 1) [.bool true] K:=
 ⟨_,h,by simp,hk _ (StX.put (S:=(·=r)) rfl _) ⟨hr,s,by simp[St.put,setAll],hl⟩⟩
theorem Md {r:Nat} {st:St} {s t:B8} {S:Option B8} (h:TR r st S) (ht:t.length<=1000000) {K:St->Prop} (hk:∀st',StX (·=r) st st'->TR r st' (S.map fun _=>t)->K st'):
  stB st (.box r 0) [.str t] K:=by
 obtain⟨hr,s,hb,hl,_⟩:=h.get
 refine⟨_,hb,by simp,hk _ (StX.put (S:=(·=r)) rfl _) ?_⟩
 cases S with
 | none=>exact⟨hr,t,by simp[St.put,setAll],ht⟩
 | some x=>exact⟨hr,by simp[St.put,setAll],ht⟩
def Kn (w:Nat) (s:B8):Prop:=w<=s.length/\∀i,i<w->AS (s.getD i 0)
instance (w:Nat) (s:B8):Decidable (Kn w s):=inferInstanceAs (Decidable (_/\_))
def Kq (w:Nat) (S:Option B8) (n:Nat) (T:Option B8):Prop:=match S with
 | none=>T=none
 | some s=>if Kn w s then T=some (s.drop w)/\n=Bq (s.take w)else T=none
theorem PZ {l:B8} {w:Nat} (hw:w<=l.length) (h:∀i,i<w->AS (l.getD i 0)):Bq (l.take w)<10^w:=by
 have h1:=J0 (l.take w) fun c hc=>by
  obtain⟨i,hi⟩:=List.getElem?_of_mem hc
  have hl:=(List.getElem?_eq_some_iff.1 hi).1
  rw[List.length_take]at hl
  rw[List.getElem?_take,if_pos (by omega)]at hi
  have:=h i (by omega)
  rwa [List.getD,hi]at this
 rwa [List.length_take,Nat.min_eq_left hw]at h1
theorem Gz {r:Nat} {w:Nat} (hw:w<=9) {st:St} {S:Option B8} (h:TR r st S) {K:Int->St->Prop} (hk:∀(n:Nat) st' T,n<10^w->StX (·=r) st st'->TR r st' T->Kq w S n T->K (n:Nat) st'):
  CallT PR Ay [.box r 0,.int .i64 (w:Nat)] [.one (.int .i64)] st K:=by
 obtain⟨hr,s,hb,hl,hx⟩:=h.get
 have hs:Ac st [] (.t (.box r 0)) 0=some (.str s):=by simp[Ac,hb]
 have p10:0<10^w:=Nat.pow_pos (by decide)
 have p18:10^w<=10^9:=Nat.pow_le_pow_right (by decide) hw
 have bad:¬Kn w s->∀st',StX (·=r) st st'->TR r st' none->K ((0:Nat):Int) st':=fun hn st' e h'=>hk 0 st' none p10 e h' (by
  cases S with
  | none=>rfl
  | some x=>rw[<-hx x rfl];show(if Kn w s then _ else _);rw[if_neg hn])
 refine Hi r _ st K (Ad hs (Am (Aa (fun g=>KX hb hr hl (bad fun h=>by have:=h.1;omega)) fun g=>?_)))
 refine⟨fun n i p w' m st'=> .box r 0=p/\((w:Nat):Int)=w'/\((w:Nat):Int)=m/\st=st'/\∃k:Nat,i=k/\k<=w/\n=(Bq (s.take k):Nat)/\∀j,j<k->AS (s.getD j 0),fun _ i _ _ _ _=>(w-i).toNat,⟨rfl,rfl,rfl,rfl,0,rfl,Nat.zero_le _,rfl,fun j h=>absurd h (Nat.not_lt_zero _)⟩,?_⟩
 rintro _ _ _ _ _ _ ⟨rfl,rfl,rfl,rfl,k,rfl,hkw,rfl,hd⟩
 rw[Int.toNat_natCast]
 have hv:=PZ (l:=s) (w:=k) (by omega) hd
 have p1:10^k<=10^9:=Nat.pow_le_pow_right (by decide) (by omega)
 refine Aa (fun g1=>Ab rfl (Ab rfl (Ad hs (Am ⟨⟨by omega,by omega⟩,Aa (fun g2=>?_) fun g2=>Ab rfl (Ab rfl (Ad hs (Am ⟨⟨by omega,by omega⟩,Aa (fun g3=>?_) fun g3=>?_⟩)))⟩)))) fun g1=>?_
 ·exact Ab rfl (Ab rfl (KX hb hr hl (bad fun h=>by have:=(h.2 k (by omega)).1;omega)))
 ·exact Ab rfl (Ab rfl (KX hb hr hl (bad fun h=>by have:=(h.2 k (by omega)).2;omega)))
 ·refine Ab rfl (Ab rfl (Ad hs (Am ⟨⟨by omega,by omega⟩,?_⟩)))
  have hsn:=Hm (l:=s) (k:=k) (by omega)
  rw[LZ _ (by omega) (by omega),Ah (10*_) (by omega) (by omega),Ah (((s.getD k 0).toNat:Int)-48) (by omega) (by omega),Ah (_+_) (by omega) (by omega),Ah _ (by omega) (by omega)]
  refine⟨⟨rfl,rfl,rfl,rfl,k+1,by omega,by omega,by rw[hsn];omega,fun j hj=>?_⟩,by dsimp only;omega⟩
  by_cases hjk:j=k
  ·subst hjk;exact⟨by omega,by omega⟩
  ·exact hd j (by omega)
 ·have hkk:k=w:=by omega
  subst hkk
  refine Ab rfl (Ab rfl (Ad hs (Am ⟨⟨by omega,by omega⟩,Ab rfl (Ab rfl (Md (s:=s) h (by rw[List.length_drop];omega) fun st' e h'=>hk _ st' _ hv e h' ?_))⟩)))
  cases S with
  | none=>rfl
  | some x=>
   obtain rfl:=hx x rfl
   show(if Kn k s then _ else _)
   rw[if_pos ⟨by omega,hd⟩]
   exact⟨rfl,rfl⟩
def NH (of:B8) (S:Option B8) (c:Nat) (T:Option B8):Prop:=match S with
 | none=>T=none
 | some s=>if s.getD 0 0∈of then T=some (s.drop 1)/\c=(s.getD 0 0).toNat else T=none
theorem Gy {r:Nat} {of:B8} (hof:(0:UInt8)∉of) (hlo:of.length<=100) {st:St} {S:Option B8} (h:TR r st S) {K:Int->St->Prop} (hk:∀(n:Nat) st' T,n<256->StX (·=r) st st'->TR r st' T->NH of S n T->K (n:Nat) st'):
  CallT PR AC [.box r 0,.str of] [.one (.int .u8)] st K:=by
 obtain⟨hr,s,hb,hl,hx⟩:=h.get
 have hs:Ac st [] (.t (.box r 0)) 0=some (.str s):=by simp[Ac,hb]
 have bad:s.getD 0 0∉of->∀st',StX (·=r) st st'->TR r st' none->K ((0:Nat):Int) st':=fun hn st' e h'=>hk 0 st' none (by decide) e h' (by
  cases S with
  | none=>rfl
  | some x=>rw[<-hx x rfl];show(if s.getD 0 0∈of then _ else _);rw[if_neg hn])
 refine Jb r of st K (Ad hs (Am (Aa (fun g=>?_) fun g=>?_)))
 ·have hpos:0<s.length:=List.length_pos_iff.2 g
  refine⟨fun i p of' m st'=> .box r 0=p/\of=of'/\(of.length:Int)=m/\st=st'/\∃k:Nat,i=k/\k<=of.length/\∀j,j<k->of.getD j 0≠s.getD 0 0,fun i _ _ _ _=>(of.length-i).toNat,⟨rfl,rfl,rfl,rfl,0,rfl,Nat.zero_le _,fun j h=>absurd h (Nat.not_lt_zero _)⟩,?_⟩
  rintro _ _ _ _ _ ⟨rfl,rfl,rfl,rfl,k,rfl,hkw,hd⟩
  rw[Int.toNat_natCast]
  refine Aa (fun g1=>Ab rfl (Ab rfl (Ad hs (Am ⟨⟨by omega,by omega⟩,⟨by omega,g1⟩,Aa (fun g2=>?_) fun g2=>?_⟩)))) fun g1=>?_
  ·have g2':s.getD 0 0=of.getD k 0:=UInt8.toNat_inj.1 (Int.ofNat.inj g2)
   have hmem:s.getD 0 0∈of:=by rw[g2'];exact Gd (by omega)
   refine Ab rfl (Ab rfl (Ad hs (Am ⟨⟨by omega,by omega⟩,Ab rfl (Ab rfl (Md (s:=s) h (by rw[List.length_drop];omega) fun st' e h'=>⟨⟨by omega,g1⟩,hk _ st' _ (UInt8.toNat_lt _) e h' ?_⟩))⟩)))
   cases S with
   | none=>rfl
   | some x=>
    obtain rfl:=hx x rfl
    show(if s.getD 0 0∈of then _ else _)
    rw[if_pos hmem]
    exact⟨rfl,by rw[g2']⟩
  ·rw[Ah _ (by omega) (by omega)]
   refine⟨⟨rfl,rfl,rfl,rfl,k+1,by omega,by omega,fun j hj=>?_⟩,by dsimp only;omega⟩
   by_cases hjk:j=k
   ·subst hjk;exact fun e=>g2 (by rw[e];rfl)
   ·exact hd j (by omega)
  ·refine Ab rfl (Ab rfl (KX hb hr hl (bad fun hm=>?_)))
   obtain⟨i,hi,he⟩:=List.getElem_of_mem hm
   exact hd i (by omega) (by rw[<-he];simp[List.getD,hi])
 ·have g0:s=[]:=Decidable.not_not.1 g
  exact KX hb hr hl (bad (by rw[g0];exact hof))
def FracS (S:Option B8) (n:Nat) (T:Option B8):Prop:=match S with
 | none=>T=none
 | some s=>if Aw s=[]∨9<(Aw s).length then T=none else T=some (s.drop (Aw s).length)/\n=LM (Aw s)
theorem Se (l:B8):∀k,Bq (l++List.replicate k 48)=Bq l*10^k
 | 0=>by simp
 | k+1=>by
  rw[List.replicate_succ',<-List.append_assoc]
  have:=Se l k
  unfold Bq at this⊢
  rw[Oc,this,Nat.pow_succ]
  show 10*(F6 0 l*10^k)+(48-48)=_
  have e:10*(F6 0 l*10^k)=F6 0 l*(10^k*10):=by rw[Nat.mul_left_comm,Nat.mul_comm 10]
  rw[e];rfl
theorem OF {n k:Nat} (hk:k<=9) (hn:n<10^k) {st:St} {K:Int->St->Prop} (h:K (n*10^(9-k):Nat) st):
  ∃(I:Int->Int->St->Prop) (M:Int->Int->St->Nat),I (n:Nat) (k:Nat) st/\∀(n2 k2:Int) (st5:St),I n2 k2 st5->BIf (decide (k2<9)) (I (i64.wrap (n2*10)) (i64.wrap (k2+1)) st5/\M (i64.wrap (n2*10)) (i64.wrap (k2+1)) st5<M n2 k2 st5) (K n2 st5):=by
 refine⟨fun n2 k2 st5=>st=st5/\∃j:Nat,k2=j/\j<=9/\∃m:Nat,n2=m/\m<10^j/\m*10^(9-j)=n*10^(9-k),fun _ k2 _=>(9-k2).toNat,⟨rfl,k,rfl,hk,n,rfl,hn,rfl⟩,?_⟩
 rintro _ _ _ ⟨rfl,j,rfl,hj,m,rfl,hm,he⟩
 have p9:10^j<=10^9:=Nat.pow_le_pow_right (by decide) hj
 refine Aa (fun g=>?_) fun g=>?_
 ·rw[Ah _ (by omega) (by omega),Ah _ (by omega) (by omega)]
  refine⟨⟨rfl,j+1,by omega,by omega,m*10,by omega,by rw[Nat.pow_succ];omega,?_⟩,by dsimp only;omega⟩
  rw[<-he,Nat.mul_assoc,show 9-j=(9-(j+1))+1 by omega,Nat.pow_succ,Nat.mul_comm 10]
 ·have:j=9:=by omega
  subst this
  rw[Nat.sub_self,Nat.pow_zero,Nat.mul_one]at he
  rw[<-he]at h;exact h
theorem W5 {r:Nat} {st:St} {S:Option B8} (h:TR r st S) {K:Int->St->Prop} (hk:∀(n:Nat) st' T,n<1000000000->StX (·=r) st st'->TR r st' T->FracS S n T->K (n:Nat) st'):
  CallT PR B2 [.box r 0] [.one (.int .i64)] st K:=by
 obtain⟨hr,s,hb,hl,hx⟩:=h.get
 have hs:Ac st [] (.t (.box r 0)) 0=some (.str s):=by simp[Ac,hb]
 have bad:(Aw s=[]∨9<(Aw s).length)->∀st',StX (·=r) st st'->TR r st' none->K ((0:Nat):Int) st':=fun hn st' e h'=>hk 0 st' none (by decide) e h' (by
  cases S with
  | none=>rfl
  | some x=>rw[<-hx x rfl];show(if Aw s=[]∨9<(Aw s).length then _ else _);rw[if_pos hn])
 refine Gs r st K ⟨fun n i p st'=> .box r 0=p/\st=st'/\∃k:Nat,i=k/\k<=s.length/\n=(Bq (s.take (min k 9)):Nat)/\∀j,j<k->AS (s.getD j 0),fun _ i _ _=>(s.length-i).toNat,⟨rfl,rfl,0,rfl,Nat.zero_le _,rfl,fun j h=>absurd h (Nat.not_lt_zero _)⟩,?_⟩
 rintro _ _ _ _ ⟨rfl,rfl,k,rfl,hkl,rfl,hd⟩
 rw[Int.toNat_natCast]
 have p18:10^(min k 9)<=10^9:=Nat.pow_le_pow_right (by decide) (by omega)
 have hv:=PZ (l:=s) (w:=min k 9) (by omega) fun i hi=>hd i (by omega)
 have run:(k=s.length∨¬AS (s.getD k 0))->(Aw s).length=k:=fun hs=>HA s k hkl hd hs
 have bad0:(k=s.length∨¬AS (s.getD k 0))->((k:Nat):Int)<1->stB st (.box r 1) [.bool true] fun st'=>K ((0:Nat):Int) st':=fun hs g=>KX hb hr hl (bad (.inl (List.length_eq_zero_iff.1 (by rw[run hs];omega))))
 have bad9:(k=s.length∨¬AS (s.getD k 0))->(9:Int)<((k:Nat):Int)->stB st (.box r 1) [.bool true] fun st'=>K ((0:Nat):Int) st':=fun hs g=>KX hb hr hl (bad (.inr (by rw[run hs];omega)))
 have good:(k=s.length∨¬AS (s.getD k 0))->¬((k:Nat):Int)<1->¬(9:Int)<((k:Nat):Int)->∀st',StX (·=r) st st'->TR r st' (S.map fun _=>s.drop k)->K ((Bq (s.take (min k 9))*10^(9-k):Nat):Int) st':=fun hs g1 g2 st' e h'=>by
  have hrun:=run hs
  have htk:=D5 s
  rw[hrun]at htk
  have hm:min k 9=k:=by omega
  rw[hm]at hv⊢
  have hp:10^9=10^k*10^(9-k):=by rw[<-Nat.pow_add];congr 1;omega
  have hlt:Bq (s.take k)*10^(9-k)<1000000000:=by
   have:=Nat.mul_lt_mul_of_pos_right hv (Nat.pow_pos (n:=9-k) (show 0<10 by decide))
   rw[<-hp]at this;exact this
  refine hk _ st' _ hlt e h' ?_
  cases S with
  | none=>rfl
  | some x=>
   obtain rfl:=hx x rfl
   show(if Aw s=[]∨9<(Aw s).length then _ else _)
   rw[if_neg (by rintro(h0 | h0);rw[h0]at hrun;simp at hrun;omega;omega),hrun]
   refine⟨rfl,?_⟩
   unfold LM
   rw[hrun,Se,htk]
 refine Ab rfl (Ab rfl (Ad hs (Am (Aa (fun g=>Ab rfl (Ab rfl (Ad hs (Am ⟨⟨by omega,g⟩,Aa (fun g1=>Ab rfl (Ab rfl (Ad hs (Am ⟨⟨by omega,g⟩,Aa (fun g2=>?_) fun g2=>?_⟩)))) fun g1=>?_⟩)))) fun g=>?_))))
 ·have hdk:∀j,j<k+1->AS (s.getD j 0):=fun j hj=>by
   by_cases hjk:j=k
   ·subst hjk;exact⟨by omega,by omega⟩
   ·exact hd j (by omega)
  refine Aa (fun g3=>Ab rfl (Ab rfl (Ad hs (Am ⟨⟨by omega,g⟩,?_⟩)))) fun g3=>?_
  ·have hsn:=Hm (l:=s) (k:=k) (by omega)
   have hm:min k 9=k:=by omega
   have hm1:min (k+1) 9=k+1:=by omega
   rw[hm]at hv⊢
   rw[hm]at p18
   rw[LZ _ (by omega) (by omega),Ah (10*_) (by omega) (by omega),Ah (((s.getD k 0).toNat:Int)-48) (by omega) (by omega),Ah (_+_) (by omega) (by omega),Ah _ (by omega) (by omega)]
   exact⟨⟨rfl,rfl,k+1,by omega,by omega,by rw[hm1,hsn];omega,hdk⟩,by dsimp only;omega⟩
  ·rw[Ah _ (by omega) (by omega)]
   exact⟨⟨rfl,rfl,k+1,by omega,by omega,by rw[show min (k+1) 9=min k 9 by omega],hdk⟩,by dsimp only;omega⟩
 ·have hs':k=s.length∨¬AS (s.getD k 0):= .inr fun h=>g2 (by have:=h.2;omega)
  exact Aa (fun g3=>Ab rfl (Ab rfl (bad0 hs' g3))) fun g3=>Aa (fun g4=>Ab rfl (Ab rfl (bad9 hs' g4))) fun g4=>Ab rfl (Ab rfl (Ad hs (Am ⟨⟨by omega,by omega⟩,Ab rfl (Ab rfl (Md (s:=s) h (by rw[List.length_drop];omega) fun st' e h'=>OF (by omega) (by rw[show min k 9=k by omega]at*;exact hv) (good hs' g3 g4 st' e h')))⟩)))
 ·have hs':k=s.length∨¬AS (s.getD k 0):= .inr fun h=>g1 (by have:=h.1;omega)
  exact Aa (fun g3=>Ab rfl (Ab rfl (bad0 hs' g3))) fun g3=>Aa (fun g4=>Ab rfl (Ab rfl (bad9 hs' g4))) fun g4=>Ab rfl (Ab rfl (Ad hs (Am ⟨⟨by omega,by omega⟩,Ab rfl (Ab rfl (Md (s:=s) h (by rw[List.length_drop];omega) fun st' e h'=>OF (by omega) (by rw[show min k 9=k by omega]at*;exact hv) (good hs' g3 g4 st' e h')))⟩)))
 ·have hs':k=s.length∨¬AS (s.getD k 0):= .inl (by omega)
  exact Aa (fun g3=>Ab rfl (Ab rfl (bad0 hs' g3))) fun g3=>Aa (fun g4=>Ab rfl (Ab rfl (bad9 hs' g4))) fun g4=>Ab rfl (Ab rfl (Ad hs (Am ⟨⟨by omega,by omega⟩,Ab rfl (Ab rfl (Md (s:=s) h (by rw[List.length_drop];omega) fun st' e h'=>OF (by omega) (by rw[show min k 9=k by omega]at*;exact hv) (good hs' g3 g4 st' e h')))⟩)))
abbrev rfS (r f:Nat):Nat->Prop:=fun b=>b=r∨b=f
theorem TM.step {r f:Nat} {st st':St} {S T:Option B8} {l:List TV} (h:TM r f st S l) (e:StX (·=r) st st') (h':TR r st' T):TM r f st' T l:=
 ⟨h',Nat.lt_of_lt_of_le h.2.1 e.nb,(e.box f h.2.1 fun g=>h.2.2.2 g.symm).trans h.2.2.1,h.2.2.2⟩
theorem TM.put {r f i:Nat} {st:St} {S:Option B8} {l:List TV} {v:TV} (h:TM r f st S l) (hi:i<l.length) {K:St->Prop} (hk:∀st',StX (rfS r f) st st'->TM r f st' S (l.set i v)->K st'):stB st (.box f i) [v] K:=by
 obtain⟨h1,h2,h3,h4⟩:=h
 refine⟨_,h3,by simp;omega,hk _ (StX.put (S:=rfS r f) (.inr rfl) _) ⟨?_,h2,by simp[St.put,setAll],h4⟩⟩
 have hne:((st.put f (.cells (setAll l i [v]))).box r)=st.box r:=by simp only[St.put];rw[if_neg h4]
 cases S with
 | none=>obtain⟨a1,s,a2,a3⟩:=h1;exact⟨a1,s,hne.trans a2,a3⟩
 | some s=>obtain⟨a1,a2,a3⟩:=h1;exact⟨a1,hne.trans a2,a3⟩
theorem I5 {r f:Nat} {a b:St} (e:StX (·=r) a b):StX (rfS r f) a b:=e.mono fun _ h=> .inl h
def fcT (y mo d h mi sc nn sg oh om:Nat):List TV:=[.int .i64 (y:Nat),.int .i64 (mo:Nat),.int .i64 (d:Nat),.int .i64 (h:Nat),.int .i64 (mi:Nat),.int .i64 (sc:Nat),.int .i64 (nn:Nat),.int .u8 (sg:Nat),.int .i64 (oh:Nat),.int .i64 (om:Nat)]
theorem Kq.pos {w n:Nat} {s:B8} {T:Option B8} (h:Kq w (some s) n T) (f:Kn w s):T=some (s.drop w)/\n=Bq (s.take w):=by
 change (if Kn w s then _ else _)at h
 rwa [if_pos f]at h
theorem Kq.neg {w n:Nat} {s:B8} {T:Option B8} (h:Kq w (some s) n T) (f:¬Kn w s):T=none:=by
 change (if Kn w s then _ else _)at h
 rwa [if_neg f]at h
theorem NH.pos {of:B8} {n:Nat} {s:B8} {T:Option B8} (h:NH of (some s) n T) (f:s.getD 0 0∈of):T=some (s.drop 1)/\n=(s.getD 0 0).toNat:=by
 change (if s.getD 0 0∈of then _ else _)at h
 rwa [if_pos f]at h
theorem NH.neg {of:B8} {n:Nat} {s:B8} {T:Option B8} (h:NH of (some s) n T) (f:s.getD 0 0∉of):T=none:=by
 change (if s.getD 0 0∈of then _ else _)at h
 rwa [if_neg f]at h
theorem FV (s:B8) (k i:Nat):b0 (s.drop k) i=b0 s (k+i):=by simp[b0,List.getD]
theorem VS (s:B8) (k i:Nat):dd (s.drop k) i↔dd s (k+i):=by
 unfold dd
 rw[FV,FV,Nat.add_assoc]
theorem V1 (s:B8) (k i:Nat):d2 (s.drop k) i=d2 s (k+i):=by
 unfold d2 dv
 rw[FV,FV,Nat.add_assoc]
theorem Pf {s:B8} {k:Nat} (h:AS (b0 s k)):k<s.length:=by
 by_cases hk:k<s.length
 ·exact hk
 ·rw[show b0 s k=0 by simp[b0,List.getD,Nat.le_of_not_lt hk]]at h
  exact absurd h (by decide)
theorem numF2 (s:B8):Kn 2 s↔dd s 0:=by
 constructor
 ·intro h;exact⟨h.2 0 (by omega),h.2 1 (by omega)⟩
 ·intro h
  have:=Pf h.2
  exact⟨by omega,fun i hi=>by
   rcases (by omega:i=0∨i=1)with rfl | rfl
   ·exact h.1
   ·exact h.2⟩
theorem SZ (s:B8):Kn 4 s↔dd s 0/\dd s 2:=by
 constructor
 ·intro h;exact⟨⟨h.2 0 (by omega),h.2 1 (by omega)⟩,⟨h.2 2 (by omega),h.2 3 (by omega)⟩⟩
 ·intro h
  have:=Pf h.2.2
  exact⟨by omega,fun i hi=>by
   rcases (by omega:i=0∨i=1∨i=2∨i=3)with rfl | rfl | rfl | rfl
   ·exact h.1.1
   ·exact h.1.2
   ·exact h.2.1
   ·exact h.2.2⟩
theorem val2 {s:B8} (h:Kn 2 s):Bq (s.take 2)=d2 s 0:=by
 rcases s with _ | ⟨a,_ | ⟨b,r⟩⟩
 ·exact absurd h.1 (by simp)
 ·exact absurd h.1 (by simp)
 ·show 10*(10*0+(a.toNat-48))+(b.toNat-48)=(a.toNat-48)*10+(b.toNat-48)
  omega
theorem val4 {s:B8} (h:Kn 4 s):Bq (s.take 4)=d2 s 0*100+d2 s 2:=by
 rcases s with _ | ⟨a,_ | ⟨b,_ | ⟨c,_ | ⟨d,r⟩⟩⟩⟩
 ·exact absurd h.1 (by simp)
 ·exact absurd h.1 (by simp)
 ·exact absurd h.1 (by simp)
 ·exact absurd h.1 (by simp)
 ·show 10*(10*(10*(10*0+(a.toNat-48))+(b.toNat-48))+(c.toNat-48))+(d.toNat-48)=((a.toNat-48)*10+(b.toNat-48))*100+((c.toNat-48)*10+(d.toNat-48))
  omega
theorem one1 {s:B8} {c:UInt8}:s.getD 0 0∈ [c]↔b0 s 0=c:=by rw[List.mem_singleton];rfl
theorem GA {s:B8} {k m n:Nat} {T:Option B8} (hm:k+2=m) (h:Kq 2 (some (s.drop k)) n T):(dd s k->T=some (s.drop m)/\n=d2 s k)/\(¬dd s k->T=none):=by
 have e:Kn 2 (s.drop k)↔dd s k:=by rw[numF2,VS];rfl
 constructor
 ·intro f
  have f':=e.2 f
  obtain⟨h1,h2⟩:=h.pos f'
  exact⟨by rw[h1,List.drop_drop,hm],by rw[h2,val2 f',V1];rfl⟩
 ·intro f;exact h.neg fun g=>f (e.1 g)
theorem Ku {s:B8} {k m n:Nat} {c:UInt8} {T:Option B8} (hm:k+1=m) (h:NH [c] (some (s.drop k)) n T):(b0 s k=c->T=some (s.drop m))/\(b0 s k≠c->T=none):=by
 have e:(s.drop k).getD 0 0∈ [c]↔b0 s k=c:=by rw[one1,FV];rfl
 exact⟨fun f=>by rw[(h.pos (e.2 f)).1,List.drop_drop,hm],fun f=>h.neg fun g=>f (e.1 g)⟩
theorem step4 {s:B8} {n:Nat} {T:Option B8} (h:Kq 4 (some s) n T):(dd s 0/\dd s 2->T=some (s.drop 4)/\n=d2 s 0*100+d2 s 2)/\(¬(dd s 0/\dd s 2)->T=none):=
 ⟨fun f=>⟨(h.pos ((SZ s).2 f)).1,by rw[(h.pos ((SZ s).2 f)).2,val4 ((SZ s).2 f)]⟩,fun f=>h.neg fun g=>f ((SZ s).1 g)⟩
theorem WP {s:B8} {y c m c' d:Nat} {T1 T2 T3 T4 T5:Option B8} (s1:Kq 4 (some s) y T1) (s2:NH [45] T1 c T2) (s3:Kq 2 T2 m T3) (s4:NH [45] T3 c' T4) (s5:Kq 2 T4 d T5):
  (DU s->T5=some (s.drop 10)/\y=d2 s 0*100+d2 s 2/\m=d2 s 5/\d=d2 s 8)/\(¬DU s->T5=none):=by
 by_cases f1:dd s 0/\dd s 2
 ·obtain⟨rfl,v1⟩:=(step4 s1).1 f1
  by_cases f2:b0 s 4=45
  ·obtain rfl:=(Ku (m:=5) rfl s2).1 f2
   by_cases f3:dd s 5
   ·obtain⟨rfl,v3⟩:=(GA (m:=7) rfl s3).1 f3
    by_cases f4:b0 s 7=45
    ·obtain rfl:=(Ku (m:=8) rfl s4).1 f4
     by_cases f5:dd s 8
     ·obtain⟨rfl,v5⟩:=(GA (m:=10) rfl s5).1 f5
      exact⟨fun _=>⟨rfl,v1,v3,v5⟩,fun h=>absurd ⟨f1.1,f1.2,f2,f3,f4,f5⟩ h⟩
     ·exact⟨fun h=>absurd h.2.2.2.2.2 f5,fun _=>(GA (m:=10) rfl s5).2 f5⟩
    ·obtain rfl:=(Ku (m:=8) rfl s4).2 f4
     exact⟨fun h=>absurd h.2.2.2.2.1 f4,fun _=>s5⟩
   ·obtain rfl:=(GA (m:=7) rfl s3).2 f3
    obtain rfl:T4=none:=s4
    exact⟨fun h=>absurd h.2.2.2.1 f3,fun _=>s5⟩
  ·obtain rfl:=(Ku (m:=5) rfl s2).2 f2
   obtain rfl:T3=none:=s3
   obtain rfl:T4=none:=s4
   exact⟨fun h=>absurd h.2.2.1 f2,fun _=>s5⟩
 ·obtain rfl:=(step4 s1).2 f1
  obtain rfl:T2=none:=s2
  obtain rfl:T3=none:=s3
  obtain rfl:T4=none:=s4
  exact⟨fun h=>absurd ⟨h.1,h.2.1⟩ f1,fun _=>s5⟩
def DateS (S:Option B8) (y m d:Nat) (T:Option B8):Prop:=match S with
 | none=>T=none
 | some s=>(DU s->T=some (s.drop 10)/\y=d2 s 0*100+d2 s 2/\m=d2 s 5/\d=d2 s 8)/\(¬DU s->T=none)
theorem So {r f:Nat} {st:St} {S:Option B8} {h mi sc nn sg oh om:Nat} (hm:TM r f st S (fcT 0 0 0 h mi sc nn sg oh om)) {K:St->Prop}
  (hk:∀y mo d st' T,y<10000->mo<100->d<100->StX (rfS r f) st st'->TM r f st' T (fcT y mo d h mi sc nn sg oh om)->DateS S y mo d T->K st'):CallT PR BP [.box r 0,.box f 0] [] st K:=by
 refine IB r f st K (Gz (w:=4) (by decide) hm.1 fun y st1 T1 b1 e1 h1 s1=>(hm.step e1 h1).put (by simp[fcT]) fun st2 e2 m2=>?_)
 refine Gy (of:=[45]) (by decide) (by decide) m2.1 fun c st3 T3 b3 e3 h3 s3=>Gz (w:=2) (by decide) h3 fun mo st4 T4 b4 e4 h4 s4=>((m2.step e3 h3).step e4 h4).put (by simp[fcT]) fun st5 e5 m5=>?_
 refine Gy (of:=[45]) (by decide) (by decide) m5.1 fun c' st6 T6 b6 e6 h6 s6=>Gz (w:=2) (by decide) h6 fun d st7 T7 b7 e7 h7 s7=>((m5.step e6 h6).step e7 h7).put (by simp[fcT]) fun st8 e8 m8=>?_
 refine hk y mo d st8 T7 b1 b4 b7 ((((((((I5 e1).trans e2).trans (I5 e3)).trans (I5 e4)).trans e5).trans (I5 e6)).trans (I5 e7)).trans e8) m8 ?_
 cases S with
 | some s=>exact WP s1 s3 s4 s6 s7
 | none=>
  have:=(show T1=none from s1)
  subst this
  have:=(show T3=none from s3)
  subst this
  have:=(show T4=none from s4)
  subst this
  have:=(show T6=none from s6)
  subst this
  exact s7
theorem UW {s:B8} {h c m c' d:Nat} {T1 T2 T3 T4 T5:Option B8} (s1:Kq 2 (some s) h T1) (s2:NH [58] T1 c T2) (s3:Kq 2 T2 m T3) (s4:NH [58] T3 c' T4) (s5:Kq 2 T4 d T5):
  (JG s->T5=some (s.drop 8)/\h=d2 s 0/\m=d2 s 3/\d=d2 s 6)/\(¬JG s->T5=none):=by
 have s1':Kq 2 (some (s.drop 0)) h T1:=by rw[List.drop_zero];exact s1
 by_cases f1:dd s 0
 ·obtain⟨rfl,v1⟩:=(GA (m:=2) rfl s1').1 f1
  by_cases f2:b0 s 2=58
  ·obtain rfl:=(Ku (m:=3) rfl s2).1 f2
   by_cases f3:dd s 3
   ·obtain⟨rfl,v3⟩:=(GA (m:=5) rfl s3).1 f3
    by_cases f4:b0 s 5=58
    ·obtain rfl:=(Ku (m:=6) rfl s4).1 f4
     by_cases f5:dd s 6
     ·obtain⟨rfl,v5⟩:=(GA (m:=8) rfl s5).1 f5
      exact⟨fun _=>⟨rfl,v1,v3,v5⟩,fun h=>absurd ⟨f1,f2,f3,f4,f5⟩ h⟩
     ·exact⟨fun h=>absurd h.2.2.2.2 f5,fun _=>(GA (m:=8) rfl s5).2 f5⟩
    ·obtain rfl:=(Ku (m:=6) rfl s4).2 f4
     exact⟨fun h=>absurd h.2.2.2.1 f4,fun _=>s5⟩
   ·obtain rfl:=(GA (m:=5) rfl s3).2 f3
    obtain rfl:T4=none:=s4
    exact⟨fun h=>absurd h.2.2.1 f3,fun _=>s5⟩
  ·obtain rfl:=(Ku (m:=3) rfl s2).2 f2
   obtain rfl:T3=none:=s3
   obtain rfl:T4=none:=s4
   exact⟨fun h=>absurd h.2.1 f2,fun _=>s5⟩
 ·obtain rfl:=(GA (m:=2) rfl s1').2 f1
  obtain rfl:T2=none:=s2
  obtain rfl:T3=none:=s3
  obtain rfl:T4=none:=s4
  exact⟨fun h=>absurd h.1 f1,fun _=>s5⟩
def TD (S:Option B8) (h mi sc nn:Nat) (T:Option B8):Prop:=match S with
 | none=>T=none
 | some s=>match Gn s with
  | none=>T=none
  | some (h',mi',sc',f',r')=>T=some r'/\h=h'/\mi=mi'/\sc=sc'/\nn=f'
theorem TR.src {r:Nat} {st:St} {S:Option B8} (h:TR r st S):∃s,Ac st [] (.t (.box r 0)) 0=some (.str s)/\s.length<=1000000/\∀x,S=some x->s=x:=by
 obtain⟨_,s,hb,hl,hx⟩:=h.get
 exact⟨s,by simp[Ac,hb],hl,hx⟩
theorem Mh {r f:Nat} {st:St} {S:Option B8} {y mo d sg oh om:Nat} (hm:TM r f st S (fcT y mo d 0 0 0 0 sg oh om)) {K:St->Prop}
  (hk:∀h mi sc nn st' T,h<100->mi<100->sc<100->nn<1000000000->StX (rfS r f) st st'->TM r f st' T (fcT y mo d h mi sc nn sg oh om)->TD S h mi sc nn T->K st'):CallT PR Bc [.box r 0,.box f 0] [] st K:=by
 refine HK r f st K (Gz (w:=2) (by decide) hm.1 fun y st1 T1 b1 e1 h1 s1=>(hm.step e1 h1).put (by simp[fcT]) fun st2 e2 m2=>?_)
 refine Gy (of:=[58]) (by decide) (by decide) m2.1 fun c st3 T3 b3 e3 h3 s3=>Gz (w:=2) (by decide) h3 fun mo st4 T4 b4 e4 h4 s4=>((m2.step e3 h3).step e4 h4).put (by simp[fcT]) fun st5 e5 m5=>?_
 refine Gy (of:=[58]) (by decide) (by decide) m5.1 fun c' st6 T6 b6 e6 h6 s6=>Gz (w:=2) (by decide) h6 fun d st7 T7 b7 e7 h7 s7=>((m5.step e6 h6).step e7 h7).put (by simp[fcT]) fun st8 e8 m8=>?_
 have E:=(((((((I5 e1).trans e2).trans (I5 e3)).trans (I5 e4)).trans e5).trans (I5 e6)).trans (I5 e7)).trans e8
 have comb:∀s,S=some s->(JG s->T7=some (s.drop 8)/\y=d2 s 0/\mo=d2 s 3/\d=d2 s 6)/\(¬JG s->T7=none):=fun s hs=>by
  subst hs;exact UW s1 s3 s4 s6 s7
 have nn:S=none->T7=none:=fun hs=>by
  subst hs
  obtain rfl:T1=none:=s1
  obtain rfl:T3=none:=s3
  obtain rfl:T4=none:=s4
  obtain rfl:T6=none:=s6
  exact s7
 clear s1 s3 s4 s6 s7 m2 m5
 obtain⟨t,ht,hl,hx⟩:=m8.1.src
 have plain:(∀x,T7=some x->b0 x 0≠46)->K st8:=fun hp=>hk y mo d 0 st8 T7 b1 b4 b7 (by decide) E m8 (by
  cases S with
  | none=>exact nn rfl
  | some s=>
   unfold TD;dsimp only
   obtain⟨c1,c2⟩:=comb s rfl
   unfold Gn
   by_cases fc:JG s
   ·obtain⟨rfl,v1,v2,v3⟩:=c1 fc
    rw[if_pos fc,if_neg (by have:=hp _ rfl;rw[FV]at this;exact this)]
    exact⟨rfl,v1,v2,v3,rfl⟩
   ·rw[if_neg fc];exact c2 fc)
 refine Ad ht (Am (Aa (fun g=>Ad ht (Am ⟨⟨by omega,by have:=List.length_pos_iff.2 g;omega⟩,Aa (fun g1=>?_) fun g1=>?_⟩)) fun g=>?_))
 ·have hpos:=List.length_pos_iff.2 g
  refine Ad ht (Am ⟨⟨by omega,by omega⟩,Md (s:=t) m8.1 (by rw[List.length_drop];omega) fun st9 e9 h9=>?_⟩)
  refine W5 h9 fun n st10 T10 b10 e10 h10 s10=>((m8.step e9 h9).step e10 h10).put (by simp[fcT]) fun st11 e11 m11=>?_
  refine hk y mo d n st11 T10 b1 b4 b7 b10 (((E.trans (I5 e9)).trans (I5 e10)).trans e11) m11 ?_
  have g46:b0 t 0=46:=(u8i (k:=46)).1 g1
  cases S with
  | none=>
   obtain rfl:=nn rfl
   exact s10
  | some s=>
   unfold TD;dsimp only
   obtain⟨c1,c2⟩:=comb s rfl
   unfold Gn
   by_cases fc:JG s
   ·obtain⟨rfl,v1,v2,v3⟩:=c1 fc
    obtain rfl:=hx _ rfl
    rw[FV]at g46
    rw[if_pos fc,if_pos g46]
    have hd9:(s.drop 8).drop (Int.toNat 1)=s.drop 9:=by rw[List.drop_drop];rfl
    have s11:FracS (some (s.drop 9)) n T10:=by rw[<-hd9];exact s10
    change (if _ then _ else _)at s11
    by_cases hf:Aw (s.drop 9)=[]∨9<(Aw (s.drop 9)).length
    ·rw[if_pos hf]at s11
     rw[if_pos hf];exact s11
    ·rw[if_neg hf]at s11
     rw[if_neg hf]
     refine⟨?_,v1,v2,v3,s11.2⟩
     rw[s11.1,List.drop_drop]
   ·obtain rfl:=c2 fc
    rw[if_neg fc];exact s10
 ·exact plain fun x hx'=>by
   obtain rfl:=hx x hx'
   exact fun h=>g1 ((u8i (k:=46)).2 h)
 ·have g0:t=[]:=Decidable.not_not.1 g
  exact plain fun x hx'=>by
   obtain rfl:=hx x hx'
   rw[g0];decide
def Vh (S:Option B8) (sg oh om:Nat) (T:Option B8):Prop:=match S with
 | none=>T=none
 | some s=>(T=some []->∃ls,ND s=some (ls,oh,om)/\(ls=true↔sg=45))/\(T≠some []->ND s=none)
theorem Uo {s:B8} {sg oh om:Nat} {c:Nat} {T1 T2 T3 T:Option B8} (hsg:sg=(b0 s 0).toNat) (h0:b0 s 0=43∨b0 s 0=45) (hT:T1=some (s.drop 1)) (s1:Kq 2 T1 oh T2) (s2:NH [58] T2 c T3) (s3:Kq 2 T3 om T):Vh (some s) sg oh om T:=by
 subst hT
 have nz:¬(s=[90]∨s=[122]):=by
  rintro(h | h)<;>rw[h]at h0<;>revert h0<;>decide
 have no:T=none->(dd s 1->b0 s 3=58->dd s 4->False)->Vh (some s) sg oh om T:=fun ht hf=>by
  subst ht
  refine⟨fun h=>(by cases h),fun _=>?_⟩
  unfold ND
  rw[if_neg nz,if_neg fun h=>hf h.2.2.1 h.2.2.2.1 h.2.2.2.2]
 by_cases f1:dd s 1
 ·obtain⟨rfl,rfl⟩:=(GA (m:=3) rfl s1).1 f1
  by_cases f2:b0 s 3=58
  ·obtain rfl:=(Ku (m:=4) rfl s2).1 f2
   by_cases f3:dd s 4
   ·obtain⟨rfl,rfl⟩:=(GA (m:=6) rfl s3).1 f3
    have hl:=Pf f3.2
    refine⟨fun h=>⟨decide (b0 s 0=45),?_,?_⟩,fun h=>?_⟩
    ·have h6:s.drop 6=[]:=Option.some.inj h
     have:=congrArg List.length h6
     rw[List.length_drop]at this
     simp at this
     unfold ND
     rw[if_neg nz,if_pos ⟨by omega,h0,f1,f2,f3⟩]
    ·rw[decide_eq_true_eq,hsg]
     exact⟨fun h=>by rw[h];rfl,fun h=>UInt8.toNat_inj.1 h⟩
    ·unfold ND
     rw[if_neg nz,if_neg]
     intro h'
     exact h (by rw[List.drop_of_length_le (by omega)])
   ·exact no ((GA (m:=6) rfl s3).2 f3) fun _ _ h=>f3 h
  ·obtain rfl:=(Ku (m:=4) rfl s2).2 f2
   exact no s3 fun _ h _=>f2 h
 ·obtain rfl:=(GA (m:=3) rfl s1).2 f1
  obtain rfl:T3=none:=s2
  exact no s3 fun h _ _=>f1 h
theorem Vh.none {S T1 T:Option B8} {sg oh om:Nat} (h:NH [90,122,43,45] S sg T1) (h1:T1=none) (ht:T=none):Vh S sg oh om T:=by
 subst h1 ht
 cases S with
 | none=>rfl
 | some s=>
  refine⟨fun h=>(by cases h),fun _=>?_⟩
  have hn:s.getD 0 0∉ [90,122,43,45]:=fun hm=>by have:=(h.pos hm).1;cases this
  unfold ND
  rw[if_neg,if_neg]
  ·rintro⟨_,h | h,_⟩
   ·exact hn (by rw[show s.getD 0 0=43 from h];decide)
   ·exact hn (by rw[show s.getD 0 0=45 from h];decide)
  ·rintro(h | h)<;>rw[h]at hn<;>revert hn<;>decide
theorem Og {r f:Nat} {st:St} {S:Option B8} {y mo d h mi sc nn:Nat} (hm:TM r f st S (fcT y mo d h mi sc nn 0 0 0)) {K:St->Prop}
  (hk:∀sg oh om st' T,sg<256->oh<100->om<100->StX (rfS r f) st st'->TM r f st' T (fcT y mo d h mi sc nn sg oh om)->Vh S sg oh om T->K st'):CallT PR Br [.box r 0,.box f 0] [] st K:=by
 refine Hh r f st K (Gy (of:=[90,122,43,45]) (by decide) (by decide) hm.1 fun sg st1 T1 b1 e1 h1 s1=>(hm.step e1 h1).put (by simp[fcT]) fun st2 e2 m2=>?_)
 have hld:Ac st2 [] (.t (.box f 7)) 0=some (.int .u8 (sg:Nat)):=by simp[Ac,m2.2.2.1,fcT]
 have E2:=(I5 e1).trans e2
 refine Ad hld (Ax (Aa (fun g=>?_) fun g=>Ad hld (Ax (Aa (fun g2=>?_) fun g2=>?_))))
 iterate 2
  ·refine Gz (w:=2) (by decide) m2.1 fun oh st3 T3 b3 e3 h3 s3=>(m2.step e3 h3).put (by simp[fcT]) fun st4 e4 m4=>?_
   refine Gy (of:=[58]) (by decide) (by decide) m4.1 fun c st5 T5 b5 e5 h5 s5=>Gz (w:=2) (by decide) h5 fun om st6 T6 b6 e6 h6 s6=>((m4.step e5 h5).step e6 h6).put (by simp[fcT]) fun st7 e7 m7=>?_
   refine hk sg oh om st7 T6 b1 b3 b6 (((((E2.trans (I5 e3)).trans e4).trans (I5 e5)).trans (I5 e6)).trans e7) m7 ?_
   cases T1 with
   | none=>
    obtain rfl:T3=none:=s3
    obtain rfl:T5=none:=s5
    exact Vh.none s1 rfl s6
   | some x=>
    cases S with
    | none=>cases (show some x=none from s1)
    | some s=>
     by_cases hmem:s.getD 0 0∈ [90,122,43,45]
     ·obtain⟨hT,hs⟩:=s1.pos hmem
      refine Uo hs ?_ hT s3 s5 s6
      have hc:((b0 s 0).toNat:Int)=sg:=by rw[hs];rfl
      first
       | exact .inl (UInt8.toNat_inj.1 (by rw[show((43:UInt8).toNat)=43 from rfl];omega))
       | exact .inr (UInt8.toNat_inj.1 (by rw[show((45:UInt8).toNat)=45 from rfl];omega))
     ·cases s1.neg hmem
 ·refine hk sg 0 0 st2 T1 b1 (by decide) (by decide) E2 m2 ?_
  cases T1 with
  | none=>exact Vh.none s1 rfl rfl
  | some x=>
   cases S with
   | none=>cases (show some x=none from s1)
   | some s=>
    by_cases hmem:s.getD 0 0∈ [90,122,43,45]
    ·obtain⟨hT,hs⟩:=s1.pos hmem
     rw[hT]
     have h43:b0 s 0≠43:=fun h=>g (by rw[hs,show s.getD 0 0=43 from h];rfl)
     have h45:b0 s 0≠45:=fun h=>g2 (by rw[hs,show s.getD 0 0=45 from h];rfl)
     refine⟨fun h=>⟨false,?_,⟨fun h=>(by cases h),fun h=>absurd (by omega) g2⟩⟩,fun h=>?_⟩
     ·have h1:s.drop 1=[]:=Option.some.inj h
      unfold ND
      rw[if_pos]
      rcases s with _ | ⟨a,_ | ⟨b,s⟩⟩
      ·exact absurd hmem (by decide)
      ·have ha:a∈ [90,122,43,45]:=hmem
       simp only[List.mem_cons,List.not_mem_nil,or_false]at ha
       rcases ha with rfl | rfl | rfl | rfl
       ·exact .inl rfl
       ·exact .inr rfl
       ·exact absurd rfl h43
       ·exact absurd rfl h45
      ·cases h1
     ·unfold ND
      rw[if_neg,if_neg]
      ·rintro⟨_,h | h,_⟩
       ·exact h43 h
       ·exact h45 h
      ·rintro(h' | h')<;>exact h (by rw[h'];rfl)
    ·cases s1.neg hmem
theorem cday_ok {y m d:Nat} (hy:y<=100000) (hm:m<=1000) (hd:d<=1000) {st:St} {K:Int->Int->St->Prop} (hk:K (if okD y m d then(Kp y m d:Nat)else 0) (if okD y m d then 0 else 2) st):
  CallT PR Fq [.int .i64 (y:Nat),.int .i64 (m:Nat),.int .i64 (d:Nat)] [.one (.int .i64),.one (.int .i64)] st K:=by
 refine Nz _ _ _ st K (Aa (fun g=>?_) fun g=>GO (by omega) (Aa (fun g2=>?_) fun g2=>?_))
 ·have hn:¬okD y m d:=fun h=>by have:=h.2.2.2.2.1;omega
  rw[if_neg hn,if_neg hn]at hk;exact hk
 ·have hn:¬okD y m d:=fun h=>by
   obtain⟨a1,a2,a3,a4,a5,a6⟩:=h
   rw[FK a1 a2 a3 a4]at g2
   omega
  rw[if_neg hn,if_neg hn]at hk;exact hk
 ·have hr:1<=y/\y<=9999/\1<=m/\m<=12:=by
   by_cases h:1<=y/\y<=9999/\1<=m/\m<=12
   ·exact h
   ·rw[show Ut y m=0 from if_neg h]at g2
    omega
  obtain⟨a1,a2,a3,a4⟩:=hr
  rw[FK a1 a2 a3 a4]at g2
  have ok:okD y m d:=⟨a1,a2,a3,a4,by omega,by omega⟩
  rw[if_pos ok,if_pos ok]at hk
  have hyr:yrS y<=4000000:=by unfold yrS;omega
  refine GN a1 (by omega) ⟨fun n i y' m' st'=>((y:Nat):Int)=y'/\((m:Nat):Int)=m'/\st=st'/\∃j:Nat,i=j/\1<=j/\j<=m/\n=((yrS y+E7 y j+(d-1):Nat):Int),fun _ i _ _ _=>(m-i).toNat,⟨rfl,rfl,rfl,1,rfl,by omega,by omega,?_⟩,?_⟩
  ·rw[Ah (((yrS y:Nat):Int)+((d:Nat):Int)) (by omega) (by omega),Ah _ (by omega) (by omega),show E7 y 1=0 from rfl];omega
  ·rintro _ _ _ _ _ ⟨rfl,rfl,rfl,j,rfl,hj1,hj2,rfl⟩
   have hms:=LH y j
   refine Aa (fun g3=>GO (by omega) ?_) fun g3=>?_
   ·have hmd:=H9 y j
    rw[FK a1 a2 hj1 (by omega),Ah _ (by omega) (by omega),Ah _ (by omega) (by omega)]
    exact⟨⟨rfl,rfl,rfl,j+1,by omega,by omega,by omega,by rw[Eg y hj1];omega⟩,by dsimp only;omega⟩
   ·have:j=m:=by omega
    subst this
    exact hk
def O0 (n1 y mo d h mi sc nn sg oh om:Nat):TmR:=
 if (n1≠2->okD y mo d)/\okC h mi sc/\oh<=23/\om<=59 then((n1:Nat),(if n1=2 then 0 else(Kp y mo d:Nat)),(Fz h mi sc nn:Nat),(if sg=45 then-((oh*60+om:Nat):Int)else((oh*60+om:Nat):Int)),0)else Ir
def FinS (s:B8) (n1:Nat) (T:Option B8) (y mo d h mi sc nn sg oh om:Nat):Prop:=(T=some []->tmP s=O0 n1 y mo d h mi sc nn sg oh om)/\(T≠some []->tmP s=It)
theorem BM {s:B8} {n1 y mo d h mi sc nn sg oh om:Nat} (e:tmP s=It):FinS s n1 none y mo d h mi sc nn sg oh om:=⟨fun h=>(by cases h),fun _=>e⟩
theorem OZ {s:B8} (n1:Nat) {y mo d h mi sc nn sg oh om:Nat} {r:B8} (hn:n1<=4) (e:tmP s=O0 n1 y mo d h mi sc nn sg oh om) (hr:r=[]):FinS s n1 (some r) y mo d h mi sc nn sg oh om:=⟨fun _=>e,fun h=>absurd (by rw[hr]) h⟩
theorem okC0:okC 0 0 0:=by decide
theorem fin1 (y mo d:Nat):(if okD y mo d then((1:Int),((Kp y mo d:Nat):Int),(0:Int),(0:Int),(0:Int))else Ir)=O0 1 y mo d 0 0 0 0 0 0 0:=by
 unfold O0
 by_cases h:okD y mo d
 ·rw[if_pos h,if_pos ⟨fun _=>h,okC0,by decide,by decide⟩];rfl
 ·rw[if_neg h,if_neg fun g=>h (g.1 (by decide))]
theorem fin2 (h mi sc nn:Nat):(if okC h mi sc then((2:Int),(0:Int),((Fz h mi sc nn:Nat):Int),(0:Int),(0:Int))else Ir)=O0 2 0 0 0 h mi sc nn 0 0 0:=by
 unfold O0
 by_cases g:okC h mi sc
 ·rw[if_pos g,if_pos ⟨fun h=>absurd rfl h,g,by decide,by decide⟩];rfl
 ·rw[if_neg g,if_neg fun k=>g k.2.1]
theorem fin3 (y mo d h mi sc nn:Nat):(if okD y mo d/\okC h mi sc then((3:Int),((Kp y mo d:Nat):Int),((Fz h mi sc nn:Nat):Int),(0:Int),(0:Int))else Ir)=O0 3 y mo d h mi sc nn 0 0 0:=by
 unfold O0
 by_cases g:okD y mo d/\okC h mi sc
 ·rw[if_pos g,if_pos ⟨fun _=>g.1,g.2,by decide,by decide⟩];rfl
 ·rw[if_neg g,if_neg fun k=>g ⟨k.1 (by decide),k.2.1⟩]
theorem fin4 (y mo d h mi sc nn sg oh om:Nat) (ls:Bool) (hl:ls=true↔sg=45):(if okD y mo d/\okC h mi sc/\oh<=23/\om<=59 then((4:Int),((Kp y mo d:Nat):Int),((Fz h mi sc nn:Nat):Int),(if ls=true then-((oh*60+om:Nat):Int)else((oh*60+om:Nat):Int)),(0:Int))else Ir)=O0 4 y mo d h mi sc nn sg oh om:=by
 unfold O0
 by_cases g:okD y mo d/\okC h mi sc/\oh<=23/\om<=59
 ·have hp:(4≠2->okD y mo d)/\okC h mi sc/\oh<=23/\om<=59:=⟨fun _=>g.1,g.2⟩
  rw[if_pos g,if_pos hp]
  by_cases k:sg=45
  ·rw[if_pos k,if_pos (hl.2 k)];rfl
  ·rw[if_neg k,if_neg fun h=>k (hl.1 h)];rfl
 ·rw[if_neg g,if_neg fun k=>g ⟨k.1 (by decide),k.2⟩]
theorem Mf {s:B8} (hc:b0 s 2≠58) (h:¬DU s):tmP s=It:=by
 unfold tmP
 rw[if_neg h]
 have:Gn s=none:=by unfold Gn;rw[if_neg fun g=>hc g.2.1]
 rw[this]
theorem Ya {s:B8}:s.getD 0 0∈ [84,116,32]↔(b0 s 0=84∨b0 s 0=116∨b0 s 0=32):=by
 simp only[List.mem_cons,List.not_mem_nil,or_false];rfl
theorem Q6 {s:B8} (fd:DU s) (hne:s.drop 10≠ []) (fo:(s.drop 10).getD 0 0∈ [84,116,32]):tmP s=match Gn (s.drop (10+1))with
  | none=>It
  | some (h,m,sc,f,r')=>tmO (d2 s 0*100+d2 s 2) (d2 s 5) (d2 s 8) h m sc f r':=by
 unfold tmP tmD
 rw[if_pos fd,if_neg hne,if_pos (Ya.1 fo),List.drop_drop]<;>rfl
theorem Q5 {s:B8} (fd:DU s) (hne:s.drop 10≠ []) (fo:(s.drop 10).getD 0 0∉ [84,116,32]):tmP s=It:=by
 unfold tmP tmD
 rw[if_pos fd,if_neg hne,if_neg fun h=>fo (Ya.2 h)]
theorem LW {s:B8} {k:Nat} {c:UInt8} (hc:c≠0) (h:b0 s k=c):k<s.length:=by
 by_cases hk:k<s.length
 ·exact hk
 ·rw[show b0 s k=0 by simp[b0,List.getD,Nat.le_of_not_lt hk]]at h
  exact absurd h.symm hc
theorem W6 {r f:Nat} {st:St} {s:B8} (hm:TM r f st (some s) (fcT 0 0 0 0 0 0 0 0 0 0)) {K:Int->St->Prop}
  (hk:∀(n1 y mo d h mi sc nn sg oh om:Nat) st' T,n1<=4->y<10000->mo<100->d<100->h<100->mi<100->sc<100->nn<1000000000->sg<256->oh<100->om<100->StX (rfS r f) st st'->TM r f st' T (fcT y mo d h mi sc nn sg oh om)->FinS s n1 T y mo d h mi sc nn sg oh om->K (n1:Nat) st'):
  CallT PR CT [.box r 0,.box f 0] [.one (.int .i64)] st K:=by
 obtain⟨x,hx,hl,hsx⟩:=hm.1.src
 have hxs:x=s:=hsx s rfl
 rw[hxs]at hx hl
 clear hsx hxs
 refine IA r f st K (Ad hx (Am (Aa (fun g=>Ad hx (Am ⟨⟨by omega,g⟩,Aa (fun g1=>?_) fun g1=>?_⟩)) fun g=>?_)))
 ·have h58:b0 s 2=58:=(u8i (k:=58)).1 g1
  have nfd:¬DU s:=fun h=>absurd h.2.1.1 (by rw[h58];decide)
  refine Mh hm fun h mi sc nn st1 T c1 c2 c3 c4 e1 m1 s1=>hk 2 0 0 0 h mi sc nn 0 0 0 st1 T (by omega) (by decide) (by decide) (by decide) c1 c2 c3 c4 (by decide) (by decide) (by decide) e1 m1 ?_
  unfold TD at s1
  dsimp only at s1
  have e:tmP s=match Gn s with
   | none=>It
   | some (h,m,sc,f,r)=>if r=[]then(if okC h m sc then(2,0,(Fz h m sc f:Nat),0,0)else Ir)else It:=by unfold tmP;rw[if_neg nfd]<;>rfl
  cases hc:Gn s with
  | none=>rw[hc]at s1 e;exact s1▸BM e
  | some p=>
   obtain⟨h',mi',sc',f',r'⟩:=p
   rw[hc]at s1 e
   dsimp only at s1 e
   obtain⟨rfl,rfl,rfl,rfl,rfl⟩:=s1
   by_cases hr:r'=[]
   ·rw[if_pos hr]at e
    exact OZ _ (by decide) (by rw[e];exact fin2 _ _ _ _) hr
   ·rw[if_neg hr]at e
    exact⟨fun h=>absurd (Option.some.inj h) hr,fun _=>e⟩
 ·have hnc:b0 s 2≠58:=fun h=>g1 ((u8i (k:=58)).2 h)
  refine So hm fun y mo d st2 T2 b1 b2 b3 e2 m2 s2=>?_
  obtain⟨x3,hx3,_,hs3⟩:=m2.1.src
  refine Ad hx3 (Am (Aa (fun g=>?_) fun g=>Gy (of:=[84,116,32]) (by decide) (by decide) m2.1 fun c st3 T3 bc e3 h3 s3=>Mh (m2.step e3 h3) fun h mi sc nn st4 T4 c1 c2 c3 c4 e4 m4 s4=>?_))
  ·refine hk 1 y mo d 0 0 0 0 0 0 0 st2 T2 (by omega) b1 b2 b3 (by decide) (by decide) (by decide) (by decide) (by decide) (by decide) (by decide) e2 m2 ?_
   by_cases fd:DU s
   ·obtain⟨rfl,rfl,rfl,rfl⟩:=s2.1 fd
    have h10:s.drop 10=[]:=by rw[<-hs3 _ rfl];exact g
    have e:tmP s=if okD (d2 s 0*100+d2 s 2) (d2 s 5) (d2 s 8)then((1:Int),((Kp (d2 s 0*100+d2 s 2) (d2 s 5) (d2 s 8):Nat):Int),(0:Int),(0:Int),(0:Int))else Ir:=by unfold tmP tmD;rw[if_pos fd,if_pos h10]
    exact OZ _ (by decide) (by rw[e];exact fin1 _ _ _) h10
   ·obtain rfl:=s2.2 fd
    exact BM (by rw[Mf hnc fd])
  ·obtain⟨x4,hx4,_,hs4⟩:=m4.1.src
   have nofd:¬DU s->T4=none:=fun fd=>by
    obtain rfl:=s2.2 fd
    obtain rfl:T3=none:=s3
    exact s4
   have E4:=(e2.trans (I5 e3)).trans e4
   refine Ad hx4 (Am (Aa (fun g4=>?_) fun g4=>Og m4 fun sg oh om st5 T5 d1 d2 d3 e5 m5 s5=>?_))
   ·refine hk 3 y mo d h mi sc nn 0 0 0 st4 T4 (by omega) b1 b2 b3 c1 c2 c3 c4 (by decide) (by decide) (by decide) E4 m4 ?_
    by_cases fd:DU s
    ·obtain⟨rfl,rfl,rfl,rfl⟩:=s2.1 fd
     have hne:s.drop 10≠ []:=fun e=>g (by rw[hs3 _ rfl];exact e)
     by_cases fo:(s.drop 10).getD 0 0∈ [84,116,32]
     ·obtain⟨rfl,_⟩:=s3.pos fo
      have e:=Q6 fd hne fo
      unfold TD at s4
      dsimp only at s4
      rw[List.drop_drop]at s4
      cases hc:Gn (s.drop (10+1))with
      | none=>rw[hc]at s4 e;exact s4▸BM e
      | some p=>
       obtain⟨h',mi',sc',f',r'⟩:=p
       rw[hc]at s4 e
       dsimp only at s4 e
       obtain⟨rfl,rfl,rfl,rfl,rfl⟩:=s4
       have hr:r'=[]:=by rw[<-hs4 _ rfl];exact g4
       unfold tmO at e
       rw[if_pos hr]at e
       exact OZ _ (by decide) (by rw[e];exact fin3 _ _ _ _ _ _ _) hr
     ·obtain rfl:=s3.neg fo
      obtain rfl:T4=none:=s4
      exact BM (Q5 fd hne fo)
    ·obtain rfl:=nofd fd
     exact BM (by rw[Mf hnc fd])
   ·refine hk 4 y mo d h mi sc nn sg oh om st5 T5 (by omega) b1 b2 b3 c1 c2 c3 c4 d1 d2 d3 (E4.trans e5) m5 ?_
    by_cases fd:DU s
    ·obtain⟨rfl,rfl,rfl,rfl⟩:=s2.1 fd
     have hne:s.drop 10≠ []:=fun e=>g (by rw[hs3 _ rfl];exact e)
     by_cases fo:(s.drop 10).getD 0 0∈ [84,116,32]
     ·obtain⟨rfl,_⟩:=s3.pos fo
      have e:=Q6 fd hne fo
      unfold TD at s4
      dsimp only at s4
      rw[List.drop_drop]at s4
      cases hc:Gn (s.drop (10+1))with
      | none=>
       rw[hc]at s4 e
       dsimp only at s4
       subst s4
       obtain rfl:T5=none:=s5
       exact BM e
      | some p=>
       obtain⟨h',mi',sc',f',r'⟩:=p
       rw[hc]at s4 e
       dsimp only at s4 e
       obtain⟨rfl,rfl,rfl,rfl,rfl⟩:=s4
       have hr:r'≠ []:=fun e=>g4 (by rw[hs4 _ rfl];exact e)
       unfold tmO at e
       rw[if_neg hr]at e
       by_cases h5:T5=some []
       ·obtain⟨ls,ho,hl⟩:=s5.1 h5
        rw[ho]at e
        exact⟨fun _=>by rw[e];exact fin4 _ _ _ _ _ _ _ _ _ _ _ hl,fun h=>absurd h5 h⟩
       ·have ho:=s5.2 h5
        rw[ho]at e
        exact⟨fun h=>absurd h h5,fun _=>e⟩
     ·obtain rfl:=s3.neg fo
      obtain rfl:T4=none:=s4
      obtain rfl:T5=none:=s5
      exact BM (Q5 fd hne fo)
    ·obtain rfl:=nofd fd
     obtain rfl:T5=none:=s5
     exact BM (by rw[Mf hnc fd])
 ·have hnc:b0 s 2≠58:=fun h=>by have:=LW (by decide) h;omega
  refine So hm fun y mo d st2 T2 b1 b2 b3 e2 m2 s2=>?_
  obtain⟨x3,hx3,_,hs3⟩:=m2.1.src
  refine Ad hx3 (Am (Aa (fun g=>?_) fun g=>Gy (of:=[84,116,32]) (by decide) (by decide) m2.1 fun c st3 T3 bc e3 h3 s3=>Mh (m2.step e3 h3) fun h mi sc nn st4 T4 c1 c2 c3 c4 e4 m4 s4=>?_))
  ·refine hk 1 y mo d 0 0 0 0 0 0 0 st2 T2 (by omega) b1 b2 b3 (by decide) (by decide) (by decide) (by decide) (by decide) (by decide) (by decide) e2 m2 ?_
   by_cases fd:DU s
   ·obtain⟨rfl,rfl,rfl,rfl⟩:=s2.1 fd
    have h10:s.drop 10=[]:=by rw[<-hs3 _ rfl];exact g
    have e:tmP s=if okD (d2 s 0*100+d2 s 2) (d2 s 5) (d2 s 8)then((1:Int),((Kp (d2 s 0*100+d2 s 2) (d2 s 5) (d2 s 8):Nat):Int),(0:Int),(0:Int),(0:Int))else Ir:=by unfold tmP tmD;rw[if_pos fd,if_pos h10]
    exact OZ _ (by decide) (by rw[e];exact fin1 _ _ _) h10
   ·obtain rfl:=s2.2 fd
    exact BM (by rw[Mf hnc fd])
  ·obtain⟨x4,hx4,_,hs4⟩:=m4.1.src
   have nofd:¬DU s->T4=none:=fun fd=>by
    obtain rfl:=s2.2 fd
    obtain rfl:T3=none:=s3
    exact s4
   have E4:=(e2.trans (I5 e3)).trans e4
   refine Ad hx4 (Am (Aa (fun g4=>?_) fun g4=>Og m4 fun sg oh om st5 T5 d1 d2 d3 e5 m5 s5=>?_))
   ·refine hk 3 y mo d h mi sc nn 0 0 0 st4 T4 (by omega) b1 b2 b3 c1 c2 c3 c4 (by decide) (by decide) (by decide) E4 m4 ?_
    by_cases fd:DU s
    ·obtain⟨rfl,rfl,rfl,rfl⟩:=s2.1 fd
     have hne:s.drop 10≠ []:=fun e=>g (by rw[hs3 _ rfl];exact e)
     by_cases fo:(s.drop 10).getD 0 0∈ [84,116,32]
     ·obtain⟨rfl,_⟩:=s3.pos fo
      have e:=Q6 fd hne fo
      unfold TD at s4
      dsimp only at s4
      rw[List.drop_drop]at s4
      cases hc:Gn (s.drop (10+1))with
      | none=>rw[hc]at s4 e;exact s4▸BM e
      | some p=>
       obtain⟨h',mi',sc',f',r'⟩:=p
       rw[hc]at s4 e
       dsimp only at s4 e
       obtain⟨rfl,rfl,rfl,rfl,rfl⟩:=s4
       have hr:r'=[]:=by rw[<-hs4 _ rfl];exact g4
       unfold tmO at e
       rw[if_pos hr]at e
       exact OZ _ (by decide) (by rw[e];exact fin3 _ _ _ _ _ _ _) hr
     ·obtain rfl:=s3.neg fo
      obtain rfl:T4=none:=s4
      exact BM (Q5 fd hne fo)
    ·obtain rfl:=nofd fd
     exact BM (by rw[Mf hnc fd])
   ·refine hk 4 y mo d h mi sc nn sg oh om st5 T5 (by omega) b1 b2 b3 c1 c2 c3 c4 d1 d2 d3 (E4.trans e5) m5 ?_
    by_cases fd:DU s
    ·obtain⟨rfl,rfl,rfl,rfl⟩:=s2.1 fd
     have hne:s.drop 10≠ []:=fun e=>g (by rw[hs3 _ rfl];exact e)
     by_cases fo:(s.drop 10).getD 0 0∈ [84,116,32]
     ·obtain⟨rfl,_⟩:=s3.pos fo
      have e:=Q6 fd hne fo
      unfold TD at s4
      dsimp only at s4
      rw[List.drop_drop]at s4
      cases hc:Gn (s.drop (10+1))with
      | none=>
       rw[hc]at s4 e
       dsimp only at s4
       subst s4
       obtain rfl:T5=none:=s5
       exact BM e
      | some p=>
       obtain⟨h',mi',sc',f',r'⟩:=p
       rw[hc]at s4 e
       dsimp only at s4 e
       obtain⟨rfl,rfl,rfl,rfl,rfl⟩:=s4
       have hr:r'≠ []:=fun e=>g4 (by rw[hs4 _ rfl];exact e)
       unfold tmO at e
       rw[if_neg hr]at e
       by_cases h5:T5=some []
       ·obtain⟨ls,ho,hl⟩:=s5.1 h5
        rw[ho]at e
        exact⟨fun _=>by rw[e];exact fin4 _ _ _ _ _ _ _ _ _ _ _ hl,fun h=>absurd h5 h⟩
       ·have ho:=s5.2 h5
        rw[ho]at e
        exact⟨fun h=>absurd h h5,fun _=>e⟩
     ·obtain rfl:=s3.neg fo
      obtain rfl:T4=none:=s4
      obtain rfl:T5=none:=s5
      exact BM (Q5 fd hne fo)
    ·obtain rfl:=nofd fd
     obtain rfl:T5=none:=s5
     exact BM (by rw[Mf hnc fd])
abbrev KT (K:Int->Int->Int->Int->Int->St->Prop) (r:TmR) (st:St):Prop:=K r.1 r.2.1 r.2.2.1 r.2.2.2.1 r.2.2.2.2 st
theorem Us {h mi sc nn:Nat} (h1:h<100) (h2:mi<100) (h3:sc<100) (h4:nn<1000000000):
  i64.wrap ((i64.wrap ((i64.wrap ((i64.wrap ((i64.wrap ((i64.wrap (((h:Nat):Int)*60))+((mi:Nat):Int)))*60))+((sc:Nat):Int)))*1000000000))+((nn:Nat):Int))=((Fz h mi sc nn:Nat):Int):=by
 rw[Ah (((h:Nat):Int)*60) (by omega) (by omega),Ah (((h:Nat):Int)*60+((mi:Nat):Int)) (by omega) (by omega),Ah ((((h:Nat):Int)*60+((mi:Nat):Int))*60) (by omega) (by omega),Ah ((((h:Nat):Int)*60+((mi:Nat):Int))*60+((sc:Nat):Int)) (by omega) (by omega),Ah (((((h:Nat):Int)*60+((mi:Nat):Int))*60+((sc:Nat):Int))*1000000000) (by omega) (by omega),Ah _ (by omega) (by omega)]
 unfold Fz;omega
theorem XC {oh om:Nat} (h1:oh<100) (h2:om<100):i64.wrap ((i64.wrap (((oh:Nat):Int)*60))+((om:Nat):Int))=((oh*60+om:Nat):Int):=by
 rw[Ah (((oh:Nat):Int)*60) (by omega) (by omega),Ah _ (by omega) (by omega)];omega
theorem tP_ok {s:B8} (hl:s.length<=1000000) {st:St} {K:Int->Int->Int->Int->Int->St->Prop} (hk:∀st',Aq st st'->KT K (tmP s) st'):CallT PR CM [.str s] [.agg [.int .i64,.int .i64,.int .i64,.int .i64],.one (.int .i64)] st K:=by
 refine Nq s st K (W6 (r:=st.nb) (f:=st.nb+1) (s:=s) ?_ fun n1 y mo d h mi sc nn sg oh om st1 T a1 a2 a3 a4 a5 a6 a7 a8 a9 a10 a11 e1 m1 hF=>?_)
 ·refine⟨⟨?_,?_,hl⟩,?_,?_,?_⟩
  ·simp[St.push];omega
  ·simp[St.push]
  ·simp[St.push]
  ·simp[St.push,fcT]
  ·omega
 ·have E:Aq st st1:=StX.ext (((Aq.refl st).push _ _).push _ _) e1 (by
   rintro i (rfl | rfl)
   ·exact Nat.le_refl _
   ·exact Nat.le_succ _)
  obtain⟨hF1,hF2⟩:=hF
  have cell:∀i v,(fcT y mo d h mi sc nn sg oh om)[i]? =some v->Ac st1 [] (.t (.box (st.nb+1) i)) 0=some v:=fun i v hv=>by
   simp only[Ac,m1.2.2.1,Nat.add_zero];exact hv
  have c0:=cell 0 _ rfl
  have c1:=cell 1 _ rfl
  have c2:=cell 2 _ rfl
  have c3:=cell 3 _ rfl
  have c4:=cell 4 _ rfl
  have c5:=cell 5 _ rfl
  have c6:=cell 6 _ rfl
  have c7:=cell 7 _ rfl
  have c8:=cell 8 _ rfl
  have c9:=cell 9 _ rfl
  clear cell
  obtain⟨hr,t,hb,_,ht⟩:=m1.1.get
  have k0:Ac st1 [] (.t (.box st.nb 0)) 0=some (.str t):=by simp[Ac,hb]
  have k1:Ac st1 [] (.t (.box st.nb 1)) 0=some (.bool T.isNone):=by simp[Ac,hb]
  have bad:T≠some []->K 0 0 0 0 3 st1:=fun hT=>by
   have:=hk st1 E
   rw[hF2 hT]at this;exact this
  refine Ad k1 (Ar (Ak (fun g=>bad fun e=>by rw[e]at g;cases g) fun g=>Ad k0 (Am (Aa (fun g1=>bad fun e=>g1 (ht [] e)) fun g1=>?_))))
  have hT:T=some []:=by
   cases T with
   | none=>cases g
   | some x=>rw[<-ht x rfl,Decidable.not_not.1 g1]
  have hV:=hF1 hT
  have hk1:=hk st1 E
  rw[hV]at hk1
  clear hF1 hF2 hV hk bad
  unfold KT O0 at hk1
  have tail:(n1≠2->okD y mo d)->∀D:Int,D=(if n1=2 then 0 else((Kp y mo d:Nat):Int))->okC h mi sc/\oh<=23/\om<=59->K (n1:Nat) D (Fz h mi sc nn:Nat) (if sg=45 then-((oh*60+om:Nat):Int)else((oh*60+om:Nat):Int)) 0 st1:=fun h0 D hD h1=>by
   subst hD
   rw[if_pos ⟨h0,h1⟩]at hk1;exact hk1
  have out:(¬(okC h mi sc/\oh<=23/\om<=59)∨¬(n1≠2->okD y mo d))->K 0 0 0 0 2 st1:=fun hn=>by
   rw[if_neg (fun g=>by
    rcases hn with hn | hn
    ·exact hn g.2
    ·exact hn g.1)]at hk1
   exact hk1
  have end_:(n1≠2->okD y mo d)->∀D:Int,D=(if n1=2 then 0 else((Kp y mo d:Nat):Int))->okC h mi sc/\oh<=23/\om<=59->BIf (decide (((sg:Nat):Int)=45)) (K (n1:Nat) D (Fz h mi sc nn:Nat) (i64.wrap (0-((oh*60+om:Nat):Int))) 0 st1) (K (n1:Nat) D (Fz h mi sc nn:Nat) ((oh*60+om:Nat):Int) 0 st1):=fun h0 D hD h1=>by
   have:=tail h0 D hD h1
   refine Aa (fun g=>?_) fun g=>?_
   ·rw[if_pos (by omega)]at this
    rw[Ah _ (by omega) (by omega),show(0:Int)-((oh*60+om:Nat):Int)= -((oh*60+om:Nat):Int) by omega];exact this
   ·rw[if_neg (by omega)]at this;exact this
  have okc:∀{a b c:Nat},¬(23:Int)<(a:Nat)->¬(59:Int)<(b:Nat)->¬(59:Int)<(c:Nat)->okC a b c:=fun x y z=>⟨by omega,by omega,by omega⟩
  refine Aa (fun g2=>?_) fun g2=>?_
  ·refine Ad c0 (Ax (Ad c1 (Ax (Ad c2 (Ax (cday_ok (by omega) (by omega) (by omega) ?_))))))
   by_cases hD:okD y mo d
   ·rw[if_pos hD,if_pos hD]
    refine Aa (fun g=>absurd rfl g) fun _=>Ad c3 (Ax (Aa (fun g=>out (.inl fun k=>by have:=k.1.1;omega)) fun k1=>Ad c4 (Ax (Aa (fun g=>out (.inl fun k=>by have:=k.1.2.1;omega)) fun k2=>Ad c5 (Ax (Aa (fun g=>out (.inl fun k=>by have:=k.1.2.2;omega)) fun k3=>Ad c8 (Ax (Aa (fun g=>out (.inl fun k=>by have:=k.2.1;omega)) fun k4=>Ad c9 (Ax (Aa (fun g=>out (.inl fun k=>by have:=k.2.2;omega)) fun k5=>?_))))))))))
    refine Ad c3 (Ax (Ad c4 (Ax (Ad c5 (Ax (Ad c6 (Ax (Ad c8 (Ax (Ad c9 (Ax (Ad c7 (Ax ?_)))))))))))))
    rw[Us a5 a6 a7 a8,XC a10 a11]
    exact end_ (fun _=>hD) _ (by rw[if_neg (by omega)]) ⟨okc k1 k2 k3,by omega,by omega⟩
   ·rw[if_neg hD,if_neg hD]
    exact Aa (fun _=>out (.inr fun k=>hD (k (by omega)))) fun g=>absurd (by decide) g
  ·refine Ad c3 (Ax (Aa (fun g=>out (.inl fun k=>by have:=k.1.1;omega)) fun k1=>Ad c4 (Ax (Aa (fun g=>out (.inl fun k=>by have:=k.1.2.1;omega)) fun k2=>Ad c5 (Ax (Aa (fun g=>out (.inl fun k=>by have:=k.1.2.2;omega)) fun k3=>Ad c8 (Ax (Aa (fun g=>out (.inl fun k=>by have:=k.2.1;omega)) fun k4=>Ad c9 (Ax (Aa (fun g=>out (.inl fun k=>by have:=k.2.2;omega)) fun k5=>?_))))))))))
   refine Ad c3 (Ax (Ad c4 (Ax (Ad c5 (Ax (Ad c6 (Ax (Ad c8 (Ax (Ad c9 (Ax (Ad c7 (Ax ?_)))))))))))))
   rw[Us a5 a6 a7 a8,XC a10 a11]
   exact end_ (fun h=>absurd (by omega) h) _ (by rw[if_pos (by omega)]) ⟨okc k1 k2 k3,by omega,by omega⟩
def Ht (form s:B8):Prop:=form.length<=s.length/\∀i,i<form.length->if form.getD i 0=100 then AS (s.getD i 0)else s.getD i 0=form.getD i 0
instance (form s:B8):Decidable (Ht form s):=inferInstanceAs (Decidable (_/\_))
theorem LB {s form:B8} (hl:s.length<=100000000) {st:St} {K:Bool->St->Prop} (hk:K (decide (Ht form s)) st):CallT PR A9 [.str s,.str form] [.one .bool] st K:=by
 have no:¬Ht form s->K false st:=fun h=>by rw[decide_eq_false h]at hk;exact hk
 refine Jp s form st K (Aa (fun g=>no fun h=>by have:=h.1;omega) fun g=>?_)
 refine⟨fun i s' f' st'=>s=s'/\form=f'/\st=st'/\∃k:Nat,i=k/\k<=form.length/\∀j,j<k->if form.getD j 0=100 then AS (s.getD j 0)else s.getD j 0=form.getD j 0,fun i _ _ _=>(form.length-i).toNat,⟨rfl,rfl,rfl,0,rfl,Nat.zero_le _,fun j h=>absurd h (Nat.not_lt_zero _)⟩,?_⟩
 rintro _ _ _ _ ⟨rfl,rfl,rfl,k,rfl,hk1,hd⟩
 rw[Int.toNat_natCast,Ah _ (by omega) (by omega)]
 have next:(if form.getD k 0=100 then AS (s.getD k 0)else s.getD k 0=form.getD k 0)->∀j,j<k+1->if form.getD j 0=100 then AS (s.getD j 0)else s.getD j 0=form.getD j 0:=fun h j hj=>by
  by_cases hjk:j=k
  ·subst hjk;exact h
  ·exact hd j (by omega)
 have nxt:= @next
 refine Aa (fun g1=>⟨⟨by omega,g1⟩,Aa (fun g2=>⟨⟨by omega,by omega⟩,Aa (fun g3=>no fun h=>?_) fun g3=>⟨⟨by omega,by omega⟩,Aa (fun g4=>no fun h=>?_) fun g4=>⟨⟨by omega,g1⟩,Aa (fun g5=>absurd g2 g5) fun _=>⟨⟨rfl,rfl,rfl,k+1,by omega,by omega,nxt ?_⟩,by dsimp only;omega⟩⟩⟩⟩) fun g2=>⟨⟨by omega,g1⟩,Aa (fun g5=>⟨⟨by omega,by omega⟩,⟨by omega,g1⟩,Aa (fun g6=>no fun h=>?_) fun g6=>⟨⟨rfl,rfl,rfl,k+1,by omega,by omega,nxt ?_⟩,by dsimp only;omega⟩⟩) fun g5=>absurd g2 g5⟩⟩) fun g1=>?_
 ·have:=h.2 k (by omega)
  rw[if_pos ((u8i (k:=100)).1 g2)]at this
  have:=this.1;omega
 ·have:=h.2 k (by omega)
  rw[if_pos ((u8i (k:=100)).1 g2)]at this
  have:=this.2;omega
 ·rw[if_pos ((u8i (k:=100)).1 g2)]
  exact⟨by omega,by omega⟩
 ·have:=h.2 k (by omega)
  rw[if_neg fun e=>g2 ((u8i (k:=100)).2 e)]at this
  exact g6 (by rw[this])
 ·rw[if_neg fun e=>g2 ((u8i (k:=100)).2 e)]
  exact UInt8.toNat_inj.1 (Int.ofNat.inj (Decidable.not_not.1 g6))
 ·have:Ht form s:=⟨by omega,fun i hi=>hd i (by omega)⟩
  rw[decide_eq_true this]at hk;exact hk
theorem like_C (s:B8):Ht [100,100,58,100,100,58,100,100] s↔JG s:=by
 constructor
 ·intro h
  exact⟨⟨h.2 0 (by decide),h.2 1 (by decide)⟩,h.2 2 (by decide),⟨h.2 3 (by decide),h.2 4 (by decide)⟩,h.2 5 (by decide),⟨h.2 6 (by decide),h.2 7 (by decide)⟩⟩
 ·rintro⟨⟨h0,h1⟩,h2,⟨h3,h4⟩,h5,⟨h6,h7⟩⟩
  have hl:=Pf h7
  refine⟨hl,fun i hi=>?_⟩
  rcases (by simp at hi;omega:i=0∨i=1∨i=2∨i=3∨i=4∨i=5∨i=6∨i=7)with rfl | rfl | rfl | rfl | rfl | rfl | rfl | rfl
  ·exact h0
  ·exact h1
  ·exact h2
  ·exact h3
  ·exact h4
  ·exact h5
  ·exact h6
  ·exact h7
theorem like_D (s:B8):Ht [100,100,100,100,45,100,100,45,100,100] s↔DU s:=by
 constructor
 ·intro h
  exact⟨⟨h.2 0 (by decide),h.2 1 (by decide)⟩,⟨h.2 2 (by decide),h.2 3 (by decide)⟩,h.2 4 (by decide),⟨h.2 5 (by decide),h.2 6 (by decide)⟩,h.2 7 (by decide),⟨h.2 8 (by decide),h.2 9 (by decide)⟩⟩
 ·rintro⟨⟨h0,h1⟩,⟨h2,h3⟩,h4,⟨h5,h6⟩,h7,⟨h8,h9⟩⟩
  have hl:=Pf h9
  refine⟨hl,fun i hi=>?_⟩
  rcases (by simp at hi;omega:i=0∨i=1∨i=2∨i=3∨i=4∨i=5∨i=6∨i=7∨i=8∨i=9)with rfl | rfl | rfl | rfl | rfl | rfl | rfl | rfl | rfl | rfl
  ·exact h0
  ·exact h1
  ·exact h2
  ·exact h3
  ·exact h4
  ·exact h5
  ·exact h6
  ·exact h7
  ·exact h8
  ·exact h9
theorem XP (s:B8) (c:UInt8) (hc:c≠100) (hl:s.length=6):Ht [c,100,100,58,100,100] s↔(b0 s 0=c/\dd s 1/\b0 s 3=58/\dd s 4):=by
 constructor
 ·intro h
  have h0:=h.2 0 (by simp)
  rw[show([c,100,100,58,100,100]:B8).getD 0 0=c from rfl,if_neg hc]at h0
  exact⟨h0,⟨h.2 1 (by simp),h.2 2 (by simp)⟩,h.2 3 (by simp),⟨h.2 4 (by simp),h.2 5 (by simp)⟩⟩
 ·rintro⟨h0,⟨h1,h2⟩,h3,⟨h4,h5⟩⟩
  refine⟨by rw[hl];simp,fun i hi=>?_⟩
  rcases (by simp at hi;omega:i=0∨i=1∨i=2∨i=3∨i=4∨i=5)with rfl | rfl | rfl | rfl | rfl | rfl
  ·rw[show([c,100,100,58,100,100]:B8).getD 0 0=c from rfl,if_neg hc];exact h0
  ·exact h1
  ·exact h2
  ·exact h3
  ·exact h4
  ·exact h5
theorem Ek {l:B8} (hl:l.length<=18) (hd:∀c,c∈l->AS c) {N:Nat} (hN:N=Bq l) {st:St} {K:Int->St->Prop} (hk:K (N:Nat) st):CallT PR Av [.str l] [.one (.int .i64)] st K:=by
 subst hN
 refine HR l st K ⟨fun n i l' st'=>l=l'/\st=st'/\∃k:Nat,i=k/\k<=l.length/\n=(Bq (l.take k):Nat),fun _ i _ _=>(l.length-i).toNat,⟨rfl,rfl,0,rfl,Nat.zero_le _,rfl⟩,?_⟩
 rintro _ _ _ _ ⟨rfl,rfl,k,rfl,hkl,rfl⟩
 rw[Int.toNat_natCast]
 refine Aa (fun g=>⟨⟨by omega,g⟩,?_⟩) fun g=>?_
 ·have hk':k<l.length:=by omega
  have hv:=HY hd hl k hk'
  have hs:=Hm hk'
  obtain⟨c1,c2⟩:=hd _ (Gd hk')
  rw[LZ _ (by omega) (by omega),Ah (_*10) (by omega) (by omega),Ah (((l.getD k 0).toNat:Int)-48) (by omega) (by omega),Ah (_+_) (by omega) (by omega),Ah _ (by omega) (by omega)]
  exact⟨⟨rfl,rfl,k+1,by omega,by omega,by rw[hs];omega⟩,by dsimp only;omega⟩
 ·have:k=l.length:=by omega
  subst this
  rw[List.take_length];exact hk
theorem KW {s:B8} {k m:Nat} (hm:k+2=m) (h:dd s k):((s.take m).drop k).length<=18/\(∀c,c∈(s.take m).drop k->AS c)/\d2 s k=Bq ((s.take m).drop k):=by
 have e:(s.take m).drop k=(s.drop k).take 2:=by rw[List.drop_take];congr 1;omega
 have f:Kn 2 (s.drop k):=(numF2 _).2 ((VS s k 0).2 h)
 rw[e]
 refine⟨by rw[List.length_take];omega,fun c hc=>?_,by rw[val2 f,V1];rfl⟩
 obtain⟨i,hi⟩:=List.getElem?_of_mem hc
 have hl:=(List.getElem?_eq_some_iff.1 hi).1
 rw[List.length_take]at hl
 rw[List.getElem?_take,if_pos (by omega)]at hi
 have:=f.2 i (by omega)
 rwa [List.getD,hi]at this
theorem LR {s:B8} {k:Nat} (h:dd s k):d2 s k<100:=by
 obtain⟨⟨h1,h2⟩,h3,h4⟩:=h
 unfold d2 dv
 omega
def KCl (K:Int->B8->Bool->Bool->St->Prop) (r:Option (Nat×Nat×Nat×Nat×B8)) (st:St):Prop:=match r with
 | none=>K 0 [] false false st
 | some (h,m,sc,f,r)=>K (Fz h m sc f:Nat) r true (decide (okC h m sc)) st
theorem X8 {f:B8} (hd:∀c,c∈f->AS c) (hl:f.length<=9):LM f<1000000000:=by
 unfold LM
 have:=J0 (f++List.replicate (9-f.length) 48) fun c hc=>by
  rcases List.mem_append.1 hc with hc | hc
  ·exact hd c hc
  ·rw[List.eq_of_mem_replicate hc];decide
 rw[List.length_append,List.length_replicate,show f.length+(9-f.length)=9 by omega]at this
 exact this
theorem Xg {s:B8} (hl:s.length<=1000000) {st:St} {K:Int->B8->Bool->Bool->St->Prop} (hk:KCl K (Gn s) st):CallT PR AL [.str s] [.one (.int .i64),.one .str,.one .bool,.one .bool] st K:=by
 refine Gt s st K (LB (by omega) ?_)
 show BIf (!decide (Ht [100,100,58,100,100,58,100,100] s)) _ _
 rw[decide_eq_decide.2 (like_C s)]
 unfold Gn at hk
 by_cases fc:JG s
 ·rw[if_pos fc]at hk
  rw[decide_eq_true fc]
  refine Ak (fun h=>by cases h) fun _=>?_
  have hlen:=Pf fc.2.2.2.2.2
  obtain⟨n1,n2,n3⟩:=KW (k:=0) (m:=2) rfl fc.1
  obtain⟨m1,m2,m3⟩:=KW (k:=3) (m:=5) rfl fc.2.2.1
  obtain⟨p1,p2,p3⟩:=KW (k:=6) (m:=8) rfl fc.2.2.2.2
  rw[List.drop_zero]at n1 n2 n3
  have a1:=LR fc.1
  have a2:=LR fc.2.2.1
  have a3:=LR fc.2.2.2.2
  refine⟨⟨by omega,by omega⟩,⟨by omega,by omega,by omega⟩,⟨by omega,by omega,by omega⟩,Ek n1 n2 n3 (Ek m1 m2 m3 (Ek p1 p2 p3 ⟨⟨by omega,by omega⟩,?_⟩))⟩
  rw[show Int.toNat (8:Int)=8 from rfl,show Int.toNat (0:Int)=0 from rfl]
  generalize d2 s 0=h at*
  generalize d2 s 3=m at*
  generalize d2 s 6=sc at*
  clear n1 n2 n3 m1 m2 m3 p1 p2 p3
  --what is returned
  have ret:∀(f:Nat) (r:B8),f<1000000000->K (Fz h m sc f:Nat) r true (decide (okC h m sc)) st->BIf (decide (((h:Nat):Int)<=23)) (BIf (decide (((m:Nat):Int)<=59)) (K (i64.wrap ((i64.wrap ((i64.wrap ((i64.wrap ((i64.wrap ((i64.wrap (((h:Nat):Int)*60))+((m:Nat):Int)))*60))+((sc:Nat):Int)))*1000000000))+((f:Nat):Int))) r true (decide (((sc:Nat):Int)<=59)) st) (K (i64.wrap ((i64.wrap ((i64.wrap ((i64.wrap ((i64.wrap ((i64.wrap (((h:Nat):Int)*60))+((m:Nat):Int)))*60))+((sc:Nat):Int)))*1000000000))+((f:Nat):Int))) r true false st)) (K (i64.wrap ((i64.wrap ((i64.wrap ((i64.wrap ((i64.wrap ((i64.wrap (((h:Nat):Int)*60))+((m:Nat):Int)))*60))+((sc:Nat):Int)))*1000000000))+((f:Nat):Int))) r true false st):=fun f r hf hk'=>by
   rw[Us a1 a2 a3 hf]
   refine Aa (fun g1=>Aa (fun g2=>?_) fun g2=>?_) fun g1=>?_
   ·have:decide (okC h m sc)=decide (((sc:Nat):Int)<=59):=decide_eq_decide.2 ⟨fun k=>by have:=k.2.2;omega,fun k=>⟨by omega,by omega,by omega⟩⟩
    rw[this]at hk';exact hk'
   ·rw[decide_eq_false fun k:okC h m sc=>by have:=k.2.1;omega]at hk';exact hk'
   ·rw[decide_eq_false fun k:okC h m sc=>by have:=k.1;omega]at hk';exact hk'
  have h8:(s.drop 8).getD 0 0=b0 s 8:=by rw[show(s.drop 8).getD 0 0=b0 (s.drop 8) 0 from rfl,FV]
  rw[h8]
  have plain:b0 s 8≠46->K (Fz h m sc 0:Nat) (s.drop 8) true (decide (okC h m sc)) st:=fun h=>by rw[if_neg h]at hk;exact hk
  refine Aa (fun g=>⟨⟨by omega,g⟩,Aa (fun g1=>?_) fun g1=>ret 0 _ (by decide) (plain fun e=>g1 ((u8i (k:=46)).2 e))⟩) fun g=>ret 0 _ (by decide) (plain fun e=>?_)
  ·have g46:=(u8i (k:=46)).1 g1
   rw[if_pos g46]at hk
   have hd9:s.drop 9=(s.drop 8).drop 1:=by rw[List.drop_drop]
   rw[hd9]at hk
   have hl8:(s.drop 8).length<=1000000:=by rw[List.length_drop];omega
   have hfin:∀n,s.drop (9+n)=(s.drop 8).drop (1+n):=fun n=>by rw[List.drop_drop];congr 1;omega
   rw[hfin]at hk
   have hpos:0<(s.drop 8).length:=by omega
   generalize s.drop 8=t at*
   clear hfin hd9
   have hrl:=Cu (t.drop 1)
   rw[List.length_drop]at hrl
   have hrd:=Gk (t.drop 1)
   refine⟨fun n t' h' m' sc' st'=>t=t'/\((h:Nat):Int)=h'/\((m:Nat):Int)=m'/\((sc:Nat):Int)=sc'/\st=st'/\∃j:Nat,n=((1+j:Nat):Int)/\1+j<=t.length/\∀i,i<j->AS ((t.drop 1).getD i 0),fun n _ _ _ _ _=>(t.length-n).toNat,⟨rfl,rfl,rfl,rfl,rfl,0,rfl,by omega,fun j h=>absurd h (Nat.not_lt_zero _)⟩,?_⟩
   rintro _ _ _ _ _ _ ⟨rfl,rfl,rfl,rfl,rfl,j,rfl,hj,hd⟩
   rw[Int.toNat_natCast]
   have hget:(t.drop 1).getD j 0=t.getD (1+j) 0:=FV t 1 j
   have run:(1+j=t.length∨¬AS (t.getD (1+j) 0))->(Aw (t.drop 1)).length=j:=fun hs=>HA (t.drop 1) j (by rw[List.length_drop];omega) hd (by
    rcases hs with hs | hs
    ·left;rw[List.length_drop];omega
    ·right;rw[hget];exact hs)
   have tail:(1+j=t.length∨¬AS (t.getD (1+j) 0))->BIf (decide (((1+j:Nat):Int)<2)) (K 0 [] false false st) (BIf (decide (10<((1+j:Nat):Int))) (K 0 [] false false st) ((0<=(1:Int)/\(1:Int)<=((1+j:Nat):Int)/\((1+j:Nat):Int)<=((t.length:Nat):Int))/\((List.drop (Int.toNat (1:Int)) (List.take (1+j) t)).length+E5.length<=9223372036854775807/\((0<=(9:Int)/\(9:Int)<=(((List.drop (Int.toNat (1:Int)) (List.take (1+j) t)++E5).length:Nat):Int))/\
     CallT PR Av [.str (List.take (Int.toNat (9:Int)) (List.drop (Int.toNat (1:Int)) (List.take (1+j) t)++E5))] [.one (.int .i64)] st fun n4 st6=>((0<=((1+j:Nat):Int)/\((1+j:Nat):Int)<=((t.length:Nat):Int))/\BIf (decide (((h:Nat):Int)<=23)) (BIf (decide (((m:Nat):Int)<=59)) (K (i64.wrap ((i64.wrap ((i64.wrap ((i64.wrap ((i64.wrap ((i64.wrap (((h:Nat):Int)*60))+((m:Nat):Int)))*60))+((sc:Nat):Int)))*1000000000))+n4)) (List.drop (1+j) t) true (decide (((sc:Nat):Int)<=59)) st6) (K (i64.wrap ((i64.wrap ((i64.wrap ((i64.wrap ((i64.wrap ((i64.wrap (((h:Nat):Int)*60))+((m:Nat):Int)))*60))+((sc:Nat):Int)))*1000000000))+n4)) (List.drop (1+j) t) true false st6)) (K (i64.wrap ((i64.wrap ((i64.wrap ((i64.wrap ((i64.wrap ((i64.wrap (((h:Nat):Int)*60))+((m:Nat):Int)))*60))+((sc:Nat):Int)))*1000000000))+n4)) (List.drop (1+j) t) true false st6)))))):=fun hs=>by
    have hr:=run hs
    have htk:List.drop (Int.toNat (1:Int)) (List.take (1+j) t)=Aw (t.drop 1):=by
     show(t.take (1+j)).drop 1=_
     rw[List.drop_take,Nat.add_sub_cancel_left,<-hr,D5]
    rw[htk]
    rw[hr]at hk
    generalize Aw (t.drop 1)=f at*
    refine Aa (fun g2=>?_) fun g2=>Aa (fun g3=>?_) fun g3=>⟨⟨by omega,by omega,by omega⟩,?_,⟨by omega,?_⟩,?_⟩
    ·rw[if_pos (.inl (List.length_eq_zero_iff.1 (by omega)))]at hk;exact hk
    ·rw[if_pos (.inr (by omega))]at hk;exact hk
    ·show f.length+9<=_;omega
    ·rw[List.length_append];show(9:Int)<=((f.length+9:Nat):Int);omega
    ·rw[if_neg (by rintro(e | e);rw[e]at hr;simp at hr;omega;omega)]at hk
     have hlt:=X8 hrd (by omega)
     have he:(f++E5).take 9=f++List.replicate (9-f.length) 48:=by
      rw[List.take_append,List.take_of_length_le (by omega)]
      congr 1
      show(List.replicate 9 (48:UInt8)).take _=_
      rw[List.take_replicate];congr 1;omega
     have hN:LM f=Bq ((f++E5).take (Int.toNat (9:Int))):=by
      show _=Bq ((f++E5).take 9)
      rw[he];rfl
     refine Ek (N:=LM f) ?_ ?_ hN ⟨⟨by omega,by omega⟩,ret _ _ hlt hk⟩
     ·show((f++E5).take 9).length<=18;rw[List.length_take];omega
     ·show ∀c,c∈(f++E5).take 9->AS c
      rw[he]
      intro c hc
      rcases List.mem_append.1 hc with hc | hc
      ·exact hrd c hc
      ·rw[List.eq_of_mem_replicate hc];decide
   refine Aa (fun g2=>⟨⟨by omega,g2⟩,Aa (fun g3=>⟨⟨by omega,g2⟩,Aa (fun g4=>?_) fun g4=>?_⟩) fun g3=>?_⟩) fun g2=>?_
   ·rw[Ah _ (by omega) (by omega)]
    refine⟨⟨rfl,rfl,rfl,rfl,rfl,j+1,by omega,by omega,fun i hi=>?_⟩,by dsimp only;omega⟩
    by_cases hij:i=j
    ·subst hij;rw[hget];exact⟨by omega,by omega⟩
    ·exact hd i (by omega)
   ·exact tail (.inr fun h=>g4 (by have:=h.2;omega))
   ·exact tail (.inr fun h=>g3 (by have:=h.1;omega))
   ·exact tail (.inl (by omega))
  ·have:=LW (by decide) e
   rw[List.length_drop]at g
   omega
 ·rw[if_neg fc]at hk
  rw[decide_eq_false fc]
  exact Ak (fun _=>hk) fun h=>by cases h
def KOf (K:Int->Bool->Bool->St->Prop) (r:Option (Bool×Nat×Nat)) (st:St):Prop:=match r with
 | none=>K 0 false false st
 | some (ls,oh,om)=>K (if ls then-((oh*60+om:Nat):Int)else((oh*60+om:Nat):Int)) true (decide (oh<=23/\om<=59)) st
theorem rto_ok {s:B8} (hl:s.length<=1000000) {st:St} {K:Int->Bool->Bool->St->Prop} (hk:KOf K (ND s) st):CallT PR AQ [.str s] [.one (.int .i64),.one .bool,.one .bool] st K:=by
 unfold ND at hk
 refine F3 s st K (Aa (fun g=>?_) fun g=>Aa (fun g2=>?_) fun g2=>Aa (fun g3=>?_) fun g3=>?_)
 ·rw[if_pos (.inl g)]at hk;exact hk
 ·rw[if_pos (.inr g2)]at hk;exact hk
 ·have nz:¬(s=[90]∨s=[122]):=by rintro(h | h);exact g h;exact g2 h
  rw[if_neg nz,if_neg fun h=>by have:=h.1;omega]at hk;exact hk
 ·have nz:¬(s=[90]∨s=[122]):=by rintro(h | h);exact g h;exact g2 h
  rw[if_neg nz]at hk
  have h6:s.length=6:=by omega
  have tail:∀c:UInt8,b0 s 0=c->(c=43∨c=45)->dd s 1->b0 s 3=58->dd s 4->((0<=(1:Int)/\(1:Int)<=3/\(3:Int)<=((s.length:Nat):Int))/\((0<=(4:Int)/\(4:Int)<=6/\(6:Int)<=((s.length:Nat):Int))/\
    CallT PR Av [.str (List.drop (Int.toNat (1:Int)) (List.take (Int.toNat (3:Int)) s))] [.one (.int .i64)] st fun n1 st3=>CallT PR Av [.str (List.drop (Int.toNat (4:Int)) (List.take (Int.toNat (6:Int)) s))] [.one (.int .i64)] st3 fun n2 st4=>((0<=(0:Int)/\(0:Int)<((s.length:Nat):Int))/\
     BIf (decide (((List.getD s (Int.toNat (0:Int)) 0).toNat:Int)=45)) (BIf (decide (n1<=23)) (K (i64.wrap (0-i64.wrap (i64.wrap (n1*60)+n2))) true (decide (n2<=59)) st4) (K (i64.wrap (0-i64.wrap (i64.wrap (n1*60)+n2))) true false st4)) (BIf (decide (n1<=23)) (K (i64.wrap (i64.wrap (n1*60)+n2)) true (decide (n2<=59)) st4) (K (i64.wrap (i64.wrap (n1*60)+n2)) true false st4))))):=fun c h0 hc f1 f3 f4=>by
   obtain⟨n1,n2,n3⟩:=KW (k:=1) (m:=3) rfl f1
   obtain⟨m1,m2,m3⟩:=KW (k:=4) (m:=6) rfl f4
   have a1:=LR f1
   have a2:=LR f4
   rw[if_pos ⟨h6,(by rcases hc with rfl | rfl;exact .inl h0;exact .inr h0),f1,f3,f4⟩]at hk
   refine⟨⟨by omega,by omega,by omega⟩,⟨by omega,by omega,by omega⟩,Ek n1 n2 n3 (Ek m1 m2 m3 ⟨⟨by omega,by omega⟩,?_⟩)⟩
   generalize d2 s 1=oh at*
   generalize d2 s 4=om at*
   have hw:i64.wrap (i64.wrap (((oh:Nat):Int)*60)+((om:Nat):Int))=((oh*60+om:Nat):Int):=XC a1 a2
   rw[hw]
   change K (if decide (b0 s 0=45)=true then-((oh*60+om:Nat):Int)else((oh*60+om:Nat):Int)) true (decide (oh<=23/\om<=59)) st at hk
   have hin:∀z:Int,K z true (decide (oh<=23/\om<=59)) st->BIf (decide (((oh:Nat):Int)<=23)) (K z true (decide (((om:Nat):Int)<=59)) st) (K z true false st):=fun z hz=>Aa (fun g=>by
    rw[decide_eq_decide.2 (show(oh<=23/\om<=59)↔((om:Nat):Int)<=59 from⟨fun h=>by omega,fun h=>⟨by omega,by omega⟩⟩)]at hz;exact hz) fun g=>by
    rw[decide_eq_false fun h:oh<=23/\om<=59=>by omega]at hz;exact hz
   refine Aa (fun g=>hin _ ?_) fun g=>hin _ ?_
   ·have e:b0 s 0=45:=(u8i (k:=45)).1 g
    rw[if_pos (by simpa using e)]at hk
    rw[Ah _ (by omega) (by omega),show(0:Int)-((oh*60+om:Nat):Int)= -((oh*60+om:Nat):Int) by omega];exact hk
   ·have e:¬b0 s 0=45:=fun e=>g ((u8i (k:=45)).2 e)
    rw[if_neg (by simpa using e)]at hk;exact hk
  have L1:=XP s 43 (by decide) h6
  have L2:=XP s 45 (by decide) h6
  refine LB (by omega) (Ak (fun b1=>LB (by omega) (Ak (fun b2=>?_) fun b2=>?_)) fun b1=>?_)
  ·have x1:¬Ht [43,100,100,58,100,100] s:=by have h:=b1;simp at h;exact h
   have x2:¬Ht [45,100,100,58,100,100] s:=by have h:=b2;simp at h;exact h
   rw[if_neg]at hk
   ·exact hk
   ·rintro⟨_,h | h,h2,h3,h4⟩
    ·exact x1 (L1.2 ⟨h,h2,h3,h4⟩)
    ·exact x2 (L2.2 ⟨h,h2,h3,h4⟩)
  ·have x2:Ht [45,100,100,58,100,100] s:=by have h:=b2;simp at h;exact h
   obtain⟨y1,y2,y3,y4⟩:=L2.1 x2
   exact tail 45 y1 (.inr rfl) y2 y3 y4
  ·have x1:Ht [43,100,100,58,100,100] s:=by have h:=b1;simp at h;exact h
   obtain⟨y1,y2,y3,y4⟩:=L1.1 x1
   exact tail 43 y1 (.inl rfl) y2 y3 y4
theorem T9 {y:Nat} (h1:1<=y) (h2:y<=9999) {st:St} {K:Int->St->Prop} (hk:K (yrS y:Nat) st):CallT PR CG [.int .i64 (y:Nat)] [.one (.int .i64)] st K:=by
 refine HT _ st K ⟨fun n i y' st'=>((y:Nat):Int)=y'/\st=st'/\∃j:Nat,i=j/\1<=j/\j<=y/\n=(yrS j:Nat),fun _ i _ _=>(y-i).toNat,⟨rfl,rfl,1,rfl,by omega,by omega,rfl⟩,?_⟩
 rintro _ _ _ _ ⟨rfl,rfl,j,rfl,hj1,hj2,rfl⟩
 have hy:yrS j<=4000000:=by unfold yrS;omega
 refine Aa (fun g=>Ub hj1 (by omega) ?_) fun g=>?_
 ·have:=LH j 12
  have:=H9 j 12
  rw[Ah _ (by omega) (by omega),Ah _ (by omega) (by omega)]
  exact⟨⟨rfl,rfl,j+1,by omega,by omega,by omega,by rw[Lc hj1];omega⟩,by dsimp only;omega⟩
 ·have:j=y:=by omega
  subst this;exact hk
theorem rDay_ok {y m d:Nat} (hy:y<=100000) (hm:m<=1000) (hd:d<=1000) {st:St} {K:Int->Int->St->Prop} (hk:K (if okD y m d then(Kp y m d:Nat)else 0) (if okD y m d then 0 else 2) st):
  CallT PR DK [.int .i64 (y:Nat),.int .i64 (m:Nat),.int .i64 (d:Nat)] [.one (.int .i64),.one (.int .i64)] st K:=by
 refine Kj _ _ _ st K (Aa (fun g=>?_) fun g=>Mt (by omega) (Aa (fun g2=>?_) fun g2=>?_))
 ·have hn:¬okD y m d:=fun h=>by have:=h.2.2.2.2.1;omega
  rw[if_neg hn,if_neg hn]at hk;exact hk
 ·have hn:¬okD y m d:=fun h=>by
   obtain⟨a1,a2,a3,a4,a5,a6⟩:=h
   rw[FK a1 a2 a3 a4]at g2
   omega
  rw[if_neg hn,if_neg hn]at hk;exact hk
 ·have hr:1<=y/\y<=9999/\1<=m/\m<=12:=by
   by_cases h:1<=y/\y<=9999/\1<=m/\m<=12
   ·exact h
   ·rw[show Ut y m=0 from if_neg h]at g2
    omega
  obtain⟨a1,a2,a3,a4⟩:=hr
  rw[FK a1 a2 a3 a4]at g2
  have ok:okD y m d:=⟨a1,a2,a3,a4,by omega,by omega⟩
  rw[if_pos ok,if_pos ok]at hk
  have hyr:yrS y<=4000000:=by unfold yrS;omega
  refine T9 a1 a2 ⟨fun n i y' m' d' st'=>((y:Nat):Int)=y'/\((m:Nat):Int)=m'/\((d:Nat):Int)=d'/\st=st'/\∃j:Nat,i=j/\1<=j/\j<=m/\n=((yrS y+E7 y j:Nat):Int),fun _ i _ _ _ _=>(m-i).toNat,⟨rfl,rfl,rfl,rfl,1,rfl,by omega,by omega,rfl⟩,?_⟩
  rintro _ _ _ _ _ _ ⟨rfl,rfl,rfl,rfl,j,rfl,hj1,hj2,rfl⟩
  have hms:=LH y j
  refine Aa (fun g3=>Mt (by omega) ?_) fun g3=>?_
  ·have hmd:=H9 y j
   rw[FK a1 a2 hj1 (by omega),Ah _ (by omega) (by omega),Ah _ (by omega) (by omega)]
   exact⟨⟨rfl,rfl,rfl,rfl,j+1,by omega,by omega,by omega,by rw[Eg y hj1];omega⟩,by dsimp only;omega⟩
  ·have:j=m:=by omega
   subst this
   rw[Ah (((yrS y+E7 y j:Nat):Int)+((d:Nat):Int)) (by omega) (by omega),Ah _ (by omega) (by omega)]
   unfold Kp at hk
   rw[show((yrS y+E7 y j:Nat):Int)+((d:Nat):Int)-1=((yrS y+E7 y j+(d-1):Nat):Int) by omega]
   exact hk
theorem four_at {s:B8} (h1:dd s 0) (h2:dd s 2):(s.take 4).length<=18/\(∀c,c∈s.take 4->AS c)/\d2 s 0*100+d2 s 2=Bq (s.take 4):=by
 have f:Kn 4 s:=(SZ _).2 ⟨h1,h2⟩
 refine⟨by rw[List.length_take];omega,fun c hc=>?_,(val4 f).symm⟩
 obtain⟨i,hi⟩:=List.getElem?_of_mem hc
 have hl:=(List.getElem?_eq_some_iff.1 hi).1
 rw[List.length_take]at hl
 rw[List.getElem?_take,if_pos (by omega)]at hi
 have:=f.2 i (by omega)
 rwa [List.getD,hi]at this
theorem rtP_ok {s:B8} (hl:s.length<=1000000) {st:St} {K:Int->Int->Int->Int->Int->St->Prop} (hk:KT K (tmP s) st):CallT PR C0 [.str s] [.agg [.int .i64,.int .i64,.int .i64,.int .i64],.one (.int .i64)] st K:=by
 refine IR s st K (LB (by omega) ?_)
 show BIf (!decide (Ht [100,100,100,100,45,100,100,45,100,100] s)) _ _
 rw[decide_eq_decide.2 (like_D s)]
 unfold KT tmP at hk
 by_cases fd:DU s
 ·rw[if_pos fd]at hk
  rw[decide_eq_true fd]
  refine Ak (fun h=>by cases h) fun _=>?_
  have hlen:=Pf fd.2.2.2.2.2.2
  obtain⟨n1,n2,n3⟩:=four_at fd.1 fd.2.1
  obtain⟨m1,m2,m3⟩:=KW (k:=5) (m:=7) rfl fd.2.2.2.1
  obtain⟨p1,p2,p3⟩:=KW (k:=8) (m:=10) rfl fd.2.2.2.2.2
  have a0:=LR fd.1
  have a1:=LR fd.2.1
  have a2:=LR fd.2.2.2.1
  have a3:=LR fd.2.2.2.2.2
  refine⟨⟨by omega,by omega⟩,⟨by omega,by omega,by omega⟩,⟨by omega,by omega,by omega⟩,Ek n1 n2 n3 (Ek m1 m2 m3 (Ek p1 p2 p3 (rDay_ok (by omega) (by omega) (by omega) ⟨⟨by omega,by omega⟩,?_⟩)))⟩
  rw[show Int.toNat (10:Int)=10 from rfl,show Int.toNat (0:Int)=0 from rfl]
  generalize d2 s 0*100+d2 s 2=y at*
  generalize d2 s 5=mo at*
  generalize d2 s 8=d at*
  clear n1 n2 n3 m1 m2 m3 p1 p2 p3
  have ht:(s.drop 10).length<=1000000:=by rw[List.length_drop];omega
  generalize s.drop 10=t at*
  unfold tmD at hk
  generalize hn5:(if okD y mo d then((Kp y mo d:Nat):Int)else 0)=n5
  generalize hn6:(if okD y mo d then(0:Int)else 2)=n6
  have ok:okD y mo d->n5=(Kp y mo d:Nat)/\n6=0:=fun h=>by rw[if_pos h]at hn5 hn6;exact⟨hn5.symm,hn6.symm⟩
  have nok:¬okD y mo d->n6=2:=fun h=>by rw[if_neg h]at hn6;exact hn6.symm
  have way:t≠ []->(b0 t 0=84∨b0 t 0=116∨b0 t 0=32)->((0<=(1:Int)/\(1:Int)<=((t.length:Nat):Int))/\CallT PR AL [.str (List.drop (Int.toNat (1:Int)) t)] [.one (.int .i64),.one .str,.one .bool,.one .bool] st fun n7 s2 b4 b5 st7=>BIf (!b4) (K 0 0 0 0 3 st7) (BIf (decide (s2≠([]:B8))) (CallT PR AQ [.str s2] [.one (.int .i64),.one .bool,.one .bool] st7 fun n8 b6 b7 st8=>BIf (!b6) (K 0 0 0 0 3 st8) (BIf b5 (BIf (decide (n6≠0)) (K 0 0 0 0 2 st8) (BIf (!b7) (K 0 0 0 0 2 st8) (K 4 n5 n7 n8 0 st8))) (BIf (decide (n6≠0)) (K 0 0 0 0 2 st8) (K 0 0 0 0 2 st8)))) (BIf (decide (n6≠0)) (K 0 0 0 0 2 st7) (BIf (!b5) (K 0 0 0 0 2 st7) (K 3 n5 n7 0 0 st7))))):=fun hne fo=>by
   rw[if_neg hne,if_pos fo]at hk
   have hpos:=List.length_pos_iff.2 hne
   refine⟨⟨by omega,by omega⟩,Xg (by rw[List.length_drop];omega) ?_⟩
   show KCl _ (Gn (t.drop 1)) st
   have hcl:∀h m sc f r',Gn (t.drop 1)=some (h,m,sc,f,r')->r'.length<=1000000:=fun h m sc f r' he=>by
    unfold Gn at he
    split at he
    ·split at he
     ·split at he
      ·cases he
      ·simp only[Option.some.injEq,Prod.mk.injEq]at he
       rw[<-he.2.2.2.2];simp only[List.length_drop];omega
     ·simp only[Option.some.injEq,Prod.mk.injEq]at he
      rw[<-he.2.2.2.2];simp only[List.length_drop];omega
    ·cases he
   cases hc:Gn (t.drop 1)with
   | none=>
    rw[hc]at hk
    exact hk
   | some p=>
    obtain⟨h,m,sc,f,r'⟩:=p
    have hr':=hcl _ _ _ _ _ hc
    rw[hc]at hk
    dsimp only at hk
    unfold tmO at hk
    refine Aa (fun g=>rto_ok hr' ?_) fun g=>?_
    ·rw[if_neg g]at hk
     cases ho:ND r' with
     | none=>
      rw[ho]at hk
      exact hk
     | some q=>
      obtain⟨ls,oh,om⟩:=q
      rw[ho]at hk
      dsimp only at hk
      refine Aa (fun gc=>Aa (fun g6=>?_) fun g6=>Ak (fun g7=>?_) fun g7=>?_) fun gc=>?_
      ·rw[if_neg fun k=>g6 (ok k.1).2]at hk;exact hk
      ·have:¬(oh<=23/\om<=59):=by have h:=g7;simp at h;omega
       rw[if_neg fun k=>this k.2.2]at hk;exact hk
      ·have hin:oh<=23/\om<=59:=by have h:=g7;simp at h;exact h
       have hD:okD y mo d:=Decidable.byContradiction fun h=>by have:=nok h;omega
       rw[if_pos ⟨hD,gc,hin⟩]at hk
       rw[(ok hD).1];exact hk
      ·rw[if_neg fun k=>gc k.2.1]at hk
       exact Aa (fun _=>hk) fun _=>hk
    ·have hr:r'=[]:=Decidable.not_not.1 g
     rw[if_pos hr]at hk
     subst hr
     refine Aa (fun g6=>?_) fun g6=>Ak (fun g7=>?_) fun g7=>?_
     ·rw[if_neg fun k=>g6 (ok k.1).2]at hk;exact hk
     ·have:¬okC h m sc:=by have h:=g7;simp at h;exact h
      rw[if_neg fun k=>this k.2]at hk;exact hk
     ·have hin:okC h m sc:=by have h:=g7;simp at h;exact h
      have hD:okD y mo d:=Decidable.byContradiction fun h=>by have:=nok h;omega
      rw[if_pos ⟨hD,hin⟩]at hk
      rw[(ok hD).1];exact hk
  refine Aa (fun g=>?_) fun g=>?_
  ·rw[if_pos g]at hk
   refine Aa (fun g6=>?_) fun g6=>?_
   ·have hn:¬okD y mo d:=fun h=>g6 (ok h).2
    rw[if_neg hn]at hk
    rw[nok hn];exact hk
   ·have hD:okD y mo d:=Decidable.byContradiction fun h=>by have:=nok h;omega
    rw[if_pos hD]at hk
    rw[(ok hD).1];exact hk
  ·have hpos:=List.length_pos_iff.2 g
   refine⟨⟨by omega,by omega⟩,Aa (fun g1=>⟨⟨by omega,by omega⟩,Aa (fun g2=>⟨⟨by omega,by omega⟩,Aa (fun g3=>?_) fun g3=>way g (.inr (.inr ((u8i (k:=32)).1 (Decidable.not_not.1 g3))))⟩) fun g2=>way g (.inr (.inl ((u8i (k:=116)).1 (Decidable.not_not.1 g2))))⟩) fun g1=>way g (.inl ((u8i (k:=84)).1 (Decidable.not_not.1 g1)))⟩
   rw[if_neg g,if_neg]at hk
   ·exact hk
   ·rintro(h | h | h)
    ·exact g1 ((u8i (k:=84)).2 h)
    ·exact g2 ((u8i (k:=116)).2 h)
    ·exact g3 ((u8i (k:=32)).2 h)
 ·rw[if_neg fd]at hk
  rw[decide_eq_false fd]
  refine Ak (fun _=>Xg hl ?_) fun h=>by cases h
  cases hc:Gn s with
  | none=>
   rw[hc]at hk
   exact hk
  | some p=>
   obtain⟨h,m,sc,f,r'⟩:=p
   rw[hc]at hk
   dsimp only at hk
   refine Aa (fun g=>?_) fun g=>Ak (fun g7=>?_) fun g7=>?_
   ·rw[if_neg g]at hk;exact hk
   ·have:¬okC h m sc:=by have h:=g7;simp at h;exact h
    rw[if_pos (Decidable.not_not.1 g),if_neg this]at hk;exact hk
   ·have hin:okC h m sc:=by have h:=g7;simp at h;exact h
    rw[if_pos (Decidable.not_not.1 g),if_pos hin]at hk;exact hk
end Go.TVF
section
namespace Go.TVF
open Go.IntKind(i64 u8)
open Go Go.Proofs Go.RowKit
theorem Sim.grown {g:Ghost} {st:St} {loc:List (Option (List TV))} {w w':World} (s:Sim g st loc w) (h:Below w.heap.size w w'):Sim g st loc w'/\Ext g w g w':=
 s.world h.size (s.below.trans (h.mono s.fits)) h.block
end Go.TVF
end
namespace Go.TVF
open Go.IntKind(i64 u8)
open Go Go.Proofs
def Vm (c:Int):Bool:=decide (97<=c/\c<=122∨65<=c/\c<=90∨48<=c/\c<=57∨c=95∨c=45∨c=43∨c=46∨c=58)
def spaceB (c:Int):Bool:=decide (c=32∨c=9)
theorem Vy {st:St} {b:Nat} {l xs:List TV} {k:St->Prop} (hb:st.box b= .cells l) (hl:0+xs.length<=l.length) (hk:k (st.put b (.cells (setAll l 0 xs)))):stB st (.box b 0) xs k:=⟨l,hb,hl,hk⟩
def twl (p:Int->Bool):B8->Nat
 | []=>0
 | c::r=>if p (c.toNat:Int)then twl p r+1 else 0
def LI (c:Int):Bool:=decide (97<=c/\c<=122∨65<=c/\c<=90)
def JJ (c:Int):Bool:=decide (48<=c/\c<=57)
theorem Tk {c:Int} {st:St} {K:Bool->St->Prop} (hk:K (JJ c) st):CallT PR BR [.int .u8 c] [.one (.bool)] st K:=by
 refine IJ c st K ?_
 unfold JJ at hk
 repeat' (refine Aa (fun _=>?_) fun _=>?_)
 all_goals first | exact Ck (decide_eq_true (by omega)).symm hk | exact Ck (decide_eq_false (by omega)).symm hk | exact Ck (decide_eq_decide.2 (by omega)) hk
def patB:List (Option UInt8)->B8->Bool
 | [],_=>true
 | _::_,[]=>false
 | none::ps,c::cs=>JJ (c.toNat:Int)&&patB ps cs
 | some a::ps,c::cs=>decide (c=a)&&patB ps cs
def mkPat (d:UInt8) (p:B8):List (Option UInt8):=p.map fun c=>if c=d then none else some c
def hexD (c:Nat):Option Nat:=if 48<=c/\c<=57 then some (c-48)else if 97<=c/\c<=102 then some (c-87)else if 65<=c/\c<=70 then some (c-55)else none
def hexS:Nat->B8->Nat->Except Int Nat
 | 0,_,acc=> .ok acc
 | k+1,[],acc=> .error 4
 | k+1,c::cs,acc=>match hexD c.toNat with
  | none=> .error 3
  | some d=>hexS k cs (acc*16+d)
def escS (l:B8):Except Int (Nat×Nat):=
 match hexS 4 l 0 with
 | .error e=> .error e
 | .ok n=>
  if 56320<=n/\n<=57343 then .error 5
  else if n<55296∨57343<n then .ok (n,4)
  else if l.length<=4 then .error 4
  else if bt l 4≠92 then .error 5
  else if l.length<=5 then .error 4
  else if bt l 5≠117 then .error 5
  else match hexS 4 (l.drop 6) 0 with
   | .error e=> .error e
   | .ok m=>if m<56320∨57343<m then .error 5 else .ok (65536+(n-55296)*1024+(m-56320),10)
def simE (c:Nat):Option UInt8:=if c=34 then some 34 else if c=92 then some 92 else if c=47 then some 47 else if c=98 then some 8 else if c=102 then some 12 else if c=110 then some 10 else if c=114 then some 13 else if c=116 then some 9 else none
def qF:Nat->Nat->B8->B8->Nat->Except Int (B8×Nat)
 | 0,_,_,_,_=> .error 4
 | f+1,m,l,acc,n=>
  if l.length=0 then .error 4
  else if bt l 0=m then .ok (acc,n+1)
  else if ul l=0∨bt l 0<32 then .error 5
  else if bt l 0≠92∨m=39 then qF f m (l.drop (ul l)) (acc++l.take (ul l)) (n+ul l)
  else if l.length<=1 then .error 4
  else if bt l 1=117 then match escS (l.drop 2)with
   | .error e=> .error e
   | .ok p=>qF f m (l.drop (2+p.2)) (acc++FR p.1) (n+(2+p.2))
  else match simE (bt l 1)with
   | none=> .error 3
   | some c=>qF f m (l.drop 2) (acc++[c]) (n+2)
def wlen (l:B8):Nat:=if twl Vm l=10/\patB (mkPat 100 [100,100,100,100,45,100,100,45,100,100,32,100,100,58]) l=true then 11+twl Vm (l.drop 11)else twl Vm l
def cF:Nat->B8->Nat->Option Nat
 | 0,_,_=>none
 | f+1,l,k=>if l.length=0 then some k else if bt l 0=10 then some k else if 1<l.length/\bt l 0=13/\bt l 1=10 then some k
  else if ul l=0 then none else cF f (l.drop (ul l)) (k+ul l)
def tokC (c c1:Nat) (s:B8) (i:Nat):Except Int (Int×Nat):=
 if c=32∨c=9 then .ok (1,i+twl spaceB (s.drop i))
 else if c=10 then .ok (2,i+1)
 else if c=13 then(if s.length=i+1 then .error 4 else if c1=10 then .ok (2,i+2)else .error 3)
 else if c=35 then(match cF (s.length+1) (s.drop i) i with | none=> .error 5 | some k=> .ok (3,k))
 else if c=91∨c=93∨c=123∨c=125∨c=44∨c=61 then .ok (4,i+1)
 else if c=34∨c=39 then(match qF (s.length+1) c (s.drop (i+1)) [] (i+1)with | .error e=> .error e | .ok p=> .ok (5,p.2))
 else if Vm (c:Int)=true then .ok (6,i+wlen (s.drop i))else .error 3
def tokS (s:B8) (i:Nat):Except Int (Int×Nat):=tokC (bt (s.drop i) 0) (bt (s.drop i) 1) s i
def nxt (s:B8) (at':Int):Except Int (Int×B8×Int):=
 if at'<0∨(s.length:Int)<at' then .error 1 else if at'=(s.length:Int)then .error 7
 else match tokS s at'.toNat with | .error e=> .error e | .ok p=> .ok (p.1,(s.drop at'.toNat).take (p.2-at'.toNat),at')
theorem Hy (s:B8) (k:Nat):(s.drop k).getD 0 0=s.getD k 0:=by simp[List.getD]
theorem Rf {s:B8} {k:Nat} (hl:s.length<=1000000000) (hk0:k<=s.length) {I:Int} (hI:I=(k:Nat)) {st:St} {K:Int->St->Prop} (hk:K ((k+(Aw (s.drop k)).length:Nat):Int) st):CallT PR Bx [.str s,.int .i64 I] [.one (.int .i64)] st K:=by
 subst hI
 refine Kl s _ st K ⟨fun n s' st'=>s=s'/\st=st'/\∃j:Nat,n=((k+j:Nat):Int)/\k+j<=s.length/\∀i,i<j->AS (s.getD (k+i) 0),fun n _ _=>(s.length-n).toNat,⟨rfl,rfl,0,rfl,by omega,fun j h=>absurd h (Nat.not_lt_zero _)⟩,?_⟩
 rintro _ _ _ ⟨rfl,rfl,j,rfl,hj1,hd⟩
 rw[Int.toNat_natCast]
 have fin:(k+j=s.length∨¬AS (s.getD (k+j) 0))->K ((k+j:Nat):Int) st:=fun h=>by
  have:=HA (s.drop k) j (by rw[List.length_drop];omega) (fun i hi=>by have:=hd i hi;simpa [List.getD]using this) (by
   rcases h with h | h
   ·left;rw[List.length_drop];omega
   ·right;simpa [List.getD]using h)
  rw[this]at hk;exact hk
 refine Aa (fun g=>⟨⟨by omega,g⟩,Aa (fun g1=>⟨⟨by omega,g⟩,Aa (fun g2=>?_) fun g2=>fin (.inr fun h=>g2 (by have:=h.2;omega))⟩) fun g1=>fin (.inr fun h=>g1 (by have:=h.1;omega))⟩) fun g=>fin (.inl (by omega))
 rw[Ah _ (by omega) (by omega)]
 refine⟨⟨rfl,rfl,j+1,by omega,by omega,fun i hi=>?_⟩,by dsimp only;omega⟩
 by_cases hij:i=j
 ·subst hij;exact⟨by omega,by omega⟩
 ·exact hd i (by omega)
theorem Sq:∀(s:B8) (k:Nat),k<=s.length->(∀j,j<k->s.getD j 0=48)->(k=s.length∨s.getD k 0≠48)->A2 s=s.drop k
 | [],k,_,_,_=>by simp[A2]
 | a::s,0,_,_,h=>by
  have:a≠48:=by
   rcases h with h | h
   ·simp at h
   ·exact h
  rw[Ju this];rfl
 | a::s,k+1,h1,h2,h3=>by
  have ha:a=48:=h2 0 (by omega)
  subst ha
  have:=KZ 1 s
  rw[show List.replicate 1 (48:UInt8)++s=48::s from rfl]at this
  rw[this,List.drop_succ_cons]
  exact Sq s k (by simpa using h1) (fun j hj=>h2 (j+1) (by omega)) (by
   rcases h3 with h3 | h3
   ·exact .inl (by simpa using h3)
   ·exact .inr h3)
theorem Sp {s:B8} (hl:s.length<=1000000000) {st:St} {K:B8->St->Prop} (hk:K (A2 s) st):CallT PR BW [.str s] [.one .str] st K:=by
 refine IZ s st K ⟨fun n s' st'=>s=s'/\st=st'/\∃k:Nat,n=k/\k<=s.length/\∀j,j<k->s.getD j 0=48,fun n _ _=>(s.length-n).toNat,⟨rfl,rfl,0,rfl,Nat.zero_le _,fun j h=>absurd h (Nat.not_lt_zero _)⟩,?_⟩
 rintro _ _ _ ⟨rfl,rfl,k,rfl,hk1,hd⟩
 rw[Int.toNat_natCast]
 have fin:(k=s.length∨s.getD k 0≠48)->K (s.drop k) st:=fun h=>by rw[Sq s k hk1 hd h]at hk;exact hk
 refine Aa (fun g=>⟨⟨by omega,g⟩,Aa (fun g1=>?_) fun g1=>⟨⟨by omega,by omega⟩,fin (.inr fun h=>g1 (u8i (k:=48) |>.2 h))⟩⟩) fun g=>⟨⟨by omega,by omega⟩,fin (.inl (by omega))⟩
 rw[Ah _ (by omega) (by omega)]
 refine⟨⟨rfl,rfl,k+1,by omega,by omega,fun j hj=>?_⟩,by dsimp only;omega⟩
 by_cases hjk:j=k
 ·subst hjk;exact(u8i (k:=48)).1 g1
 ·exact hd j (by omega)
theorem Wk {l:B8} (hl:l.length<=18) (hd:∀c,c∈l->AS c) (h0:l.getD 0 0≠48) {st:St} {K:Int->Int->St->Prop} (hk:K (Bq l:Nat) 0 st):CallT PR Dd [.str l] [.one (.int .i64),.one (.int .i64)] st K:=by
 refine IY l st K (rNum_ok (by omega) ?_)
 have hno:decide (JS l)=true:=decide_eq_true ⟨by omega,hd,fun _=>h0⟩
 rw[hno]
 refine Ak (fun h=>by cases h) fun _=>Aa (fun g=>by omega) fun _=>Aa (fun g=>by omega) fun _=>?_
 refine⟨fun n i l' st'=>l=l'/\st=st'/\∃k:Nat,i=k/\k<=l.length/\n=(Bq (l.take k):Nat),fun _ i _ _=>(l.length-i).toNat,⟨rfl,rfl,0,rfl,Nat.zero_le _,rfl⟩,?_⟩
 rintro _ _ _ _ ⟨rfl,rfl,k,rfl,hkl,rfl⟩
 rw[Int.toNat_natCast]
 refine Aa (fun g=>⟨⟨by omega,g⟩,?_⟩) fun g=>?_
 ·have hk':k<l.length:=by omega
  have hv:=HY hd hl k hk'
  have hs:=Hm hk'
  have hc:=hd _ (Gd hk')
  obtain⟨c1,c2⟩:=hc
  rw[Ah (10*_) (by omega) (by omega),Ah ((List.getD l k 0).toNat:Int) (by omega) (by omega),Ah (_+_) (by omega) (by omega),Ah _ (by omega) (by omega),Ah _ (by omega) (by omega)]
  exact⟨⟨rfl,rfl,k+1,by omega,by omega,by rw[hs];omega⟩,by dsimp only;omega⟩
 ·have:k=l.length:=by omega
  subst this
  rw[List.take_length]at*;exact hk
theorem Xw {l:B8} (hl:l.length<=1000000) (hd:∀c,c∈l->AS c) {st:St} {K:Int->St->Prop} (hk:K ((if (A2 l).length<=9 then Bq l else 1000000000:Nat):Int) st):CallT PR C9 [.str l] [.one (.int .i64)] st K:=by
 refine IU l st K (Sp (by omega) (Aa (fun g=>?_) fun g=>?_))
 ·rw[if_neg (by omega)]at hk;exact hk
 ·rw[if_pos (by omega)]at hk
  refine Wk (by omega) (fun c hc=>hd c (H3 l c hc)) (Jt l) ?_
  rw[F5];exact hk
theorem WA {neg:Bool} {s:B8} {ex:Int} (hl:s.length<=2000000) (h1: -3000000000000<=ex) (h2:ex<=3000000000000) {st:St} {K:Bool->B8->Int->Int->St->Prop} (hk:KD K (dcN neg (A2 s) ex) st):
  CallT PR CH [.bool neg,.str s,.int .i64 ex] [.agg [.bool,.str,.int .i64],.one (.int .i64)] st K:=by
 refine HW neg s ex st K (Sp (by omega) ?_)
 have hsl:=EI s
 generalize A2 s=t at*
 unfold KD dcN at hk
 refine Aa (fun g=>by rw[if_pos g]at hk;exact hk) fun g=>Wi (by omega) ?_
 rw[if_neg g]at hk
 have ht:=NX t
 have e2:i64.wrap ((t.length:Int)-(Bu t:Nat))=((t.length-Bu t:Nat):Int):=by rw[Ah _ (by omega) (by omega)];omega
 rw[e2,Int.toNat_natCast,Ah (ex+_) (by omega) (by omega)]
 have hlen:(t.take (t.length-Bu t)).length=t.length-Bu t:=by rw[List.length_take];omega
 rw[hlen]
 refine⟨⟨by omega,by omega⟩,Aa (fun g1=>?_) fun g1=>Aa (fun g2=>?_) fun g2=>Aa (fun g3=>?_) fun g3=>Aa (fun g4=>?_) fun g4=>?_⟩
 ·rw[if_pos (by omega)]at hk;exact hk
 ·rw[if_pos (by omega)]at hk;exact hk
 ·rw[if_pos (by omega)]at hk;exact hk
 ·rw[if_pos (by omega)]at hk;exact hk
 ·rw[if_neg (by omega)]at hk;exact hk
theorem D7 {s:B8} {k:Nat} {c:UInt8} (hc:c≠0) (h:s.getD k 0=c):k<s.length:=by
 by_cases hk:k<s.length
 ·exact hk
 ·rw[show s.getD k 0=0 by simp[List.getD,Nat.le_of_not_lt hk]]at h
  exact absurd h.symm hc
theorem rP_ok {s:B8} (hl:s.length<=1000000) {st:St} {K:Bool->B8->Int->Int->St->Prop} (hk:KD K (dcP s) st):CallT PR Da [.str s] [.agg [.bool,.str,.int .i64],.one (.int .i64)] st K:=by
 refine IV s st K ⟨fun i s1 _ _ _ st'=>s=s1/\st=st'/\∃j:Nat,i=j/\j<=1/\j<=s.length/\dcP s=dcQ (decide (i=1)) (s.drop j),?_,?_⟩
 ·have no:¬s.getD 0 0=45->dcP s=dcQ (decide ((0:Int)=1)) (s.drop 0):=fun h=>by unfold dcP;rw[if_neg h];rfl
  refine Aa (fun g=>⟨⟨by omega,g⟩,Aa (fun g1=>⟨rfl,rfl,1,rfl,by omega,by omega,?_⟩) fun g1=>⟨rfl,rfl,0,rfl,by omega,by omega,no fun h=>g1 (u8i (k:=45) |>.2 h)⟩⟩) fun g=>⟨rfl,rfl,0,rfl,by omega,by omega,no fun h=>?_⟩
  ·unfold dcP;rw[if_pos (show s.getD 0 0=45 from(u8i (k:=45)).1 g1)];rfl
  ·have:=D7 (by decide) h;omega
 rintro i _ _ _ _ _ ⟨rfl,rfl,j,rfl,hj1,hjl,h1⟩
 rw[h1]at hk
 clear h1
 generalize decide (((j:Nat):Int)=1)=neg at*
 have hrl:=Cu (s.drop j)
 rw[List.length_drop]at hrl
 refine Rf (by omega) hjl rfl ?_
 have hdr:s.drop (j+(Aw (s.drop j)).length)=(s.drop j).drop (Aw (s.drop j)).length:=by rw[List.drop_drop]
 have htk:(s.take (j+(Aw (s.drop j)).length)).drop j=Aw (s.drop j):=by rw[List.drop_take,Nat.add_sub_cancel_left];exact D5 _
 have hdg:=Gk (s.drop j)
 have hlen:(Aw (s.drop j)).length=(Aw (s.drop j)).length:=rfl
 generalize ha:Aw (s.drop j)=a at*
 refine⟨fun s2 i2 neg2 k2 _ _ _ st'=>s=s2/\((j:Nat):Int)=i2/\neg=neg2/\((j+a.length:Nat):Int)=k2/\st=st'/\dcQ neg (s.drop j)=dcF neg a (s.drop (j+a.length)),Aa (fun g=>?_) fun g=>?_,?_⟩
 ·have:a=[]:=List.length_eq_zero_iff.1 (by omega)
  unfold KD dcQ at hk
  rw[ha,if_pos (.inl this)]at hk;exact hk
 ·have hpos:j<s.length:=by omega
  rw[Int.toNat_natCast]
  have hne:a≠ []:=fun h=>g (by rw[h];simp)
  refine⟨⟨by omega,by omega⟩,Aa (fun g3=>?_) fun g3=>⟨rfl,rfl,rfl,rfl,rfl,?_⟩⟩
  ·have h48:(s.drop j).getD 0 0=48:=by rw[Hy];exact(u8i (k:=48)).1 g3
   rw[Ah _ (by omega) (by omega)]
   refine Aa (fun g4=>?_) fun g4=>⟨rfl,rfl,rfl,rfl,rfl,?_⟩
   ·unfold KD dcQ at hk
    rw[ha,if_pos (.inr ⟨by omega,h48⟩)]at hk;exact hk
   ·unfold dcQ
    rw[ha,if_neg (by rintro(h | ⟨h,_⟩);exact hne h;omega),hdr]
  ·unfold dcQ
   rw[ha,if_neg (by rintro(h | ⟨_,h⟩);exact hne h;exact g3 (by rw[Hy]at h;exact(u8i (k:=48)).2 h)),hdr]
 rintro _ _ _ _ _ _ _ _ ⟨rfl,rfl,rfl,rfl,rfl,h2⟩
 rw[h2]at hk
 have hka:j+a.length<=s.length:=by omega
 rw[Int.toNat_natCast,Int.toNat_natCast,htk]
 have hal:a.length<=1000000:=by omega
 have hjk:j<=j+a.length:=Nat.le_add_right _ _
 have hak:a.length<=j+a.length:=Nat.le_add_left _ _
 generalize hkk:j+a.length=k at*
 clear h2 htk hdr hkk ha hlen hrl
 refine⟨⟨by omega,by omega,by omega⟩,?_⟩
 refine⟨fun k3 all ex s3 neg3 _ _ _ st'=>s=s3/\neg=neg3/\st=st'/\ -1000000<=ex/\ex<=0/\all.length<=1000000/\(∀c,c∈all->AS c)/\∃m:Nat,k3=m/\m<=s.length/\dcF neg a (s.drop k)=dcE neg all ex (s.drop m),?_,?_⟩
 ·refine⟨fun b s3 neg3 k3 dg ex _ _ _ st'=>s=s3/\neg=neg3/\((k:Nat):Int)=k3/\a=dg/\(0:Int)=ex/\st=st'/\b=decide ((s.drop k).getD 0 0=46),Aa (fun g=>⟨⟨by omega,g⟩,rfl,rfl,rfl,rfl,rfl,rfl,?_⟩) fun g=>⟨rfl,rfl,rfl,rfl,rfl,rfl,?_⟩,?_⟩
  ·rw[Hy];exact decide_eq_decide.2 (u8i (k:=46))
  ·refine(decide_eq_false fun h=>?_).symm
   rw[Hy]at h
   have:=D7 (by decide) h;omega
  rintro b _ _ _ _ _ _ _ _ _ ⟨rfl,rfl,rfl,rfl,rfl,rfl,rfl⟩
  refine Aa (fun g=>?_) fun g=>⟨rfl,rfl,rfl,by omega,by omega,hal,hdg,k,rfl,hka,?_⟩
  ·have g46:s.getD k 0=46:=by rw[<-Hy];exact g
   have hkl:=D7 (by decide) g46
   have hf1:=Cu (s.drop (k+1))
   rw[List.length_drop]at hf1
   have htk:(s.take (k+1+(Aw (s.drop (k+1))).length)).drop (k+1)=Aw (s.drop (k+1)):=by rw[List.drop_take,Nat.add_sub_cancel_left];exact D5 _
   have hdf:=Gk (s.drop (k+1))
   rw[Ah (((k:Nat):Int)+1) (by omega) (by omega)]
   refine Rf (k:=k+1) (by omega) (by omega) (by omega) ?_
   have hd1:(s.drop k).drop 1=s.drop (k+1):=by rw[List.drop_drop]
   generalize hf:Aw (s.drop (k+1))=f at*
   refine Aa (fun g2=>?_) fun g2=>?_
   ·have:f=[]:=List.length_eq_zero_iff.1 (by omega)
    unfold KD dcF at hk
    rw[if_pos g,hd1,hf,if_pos this]at hk;exact hk
   ·rw[show(((k:Nat):Int)+1).toNat=k+1 by omega,Int.toNat_natCast,htk,Ah _ (by omega) (by omega)]
    refine⟨⟨by omega,by omega,by omega⟩,by omega,rfl,rfl,rfl,by omega,by omega,by rw[List.length_append];omega,fun c hc=>?_,k+1+f.length,rfl,by omega,?_⟩
    ·rcases List.mem_append.1 hc with hc | hc
     ·exact hdg c hc
     ·exact hdf c hc
    ·unfold dcF
     rw[if_pos g,hd1,hf,if_neg (fun e=>g2 (by rw[e];simp)),List.drop_drop]
     rw[show((k:Nat):Int)+1-((k+1+f.length:Nat):Int)= -(f.length:Nat) by omega,show k+(1+f.length)=k+1+f.length by omega]
  ·unfold dcF;rw[if_neg g]
 rintro _ all ex _ _ _ _ _ _ ⟨rfl,rfl,rfl,x1,x2,x3,x5,m,rfl,hm,h3⟩
 rw[h3]at hk
 clear h3 hdg hal hka hak
 refine⟨fun k7 ex7 s7 neg7 dg7 _ _ _ st'=>s=s7/\neg=neg7/\all=dg7/\st=st'/\ -3000000000<=ex7/\ex7<=3000000000/\∃p:Nat,k7=p/\p<=s.length/\dcE neg all ex (s.drop m)=(if p<s.length then KM else dcN neg (A2 all) ex7),?_,?_⟩
 ·refine⟨fun b s5 neg5 k5 dg5 ex5 _ _ _ st'=>s=s5/\neg=neg5/\((m:Nat):Int)=k5/\all=dg5/\ex=ex5/\st=st'/\b=decide ((s.drop m).getD 0 0=101∨(s.drop m).getD 0 0=69),Aa (fun g=>?_) fun g=>⟨rfl,rfl,rfl,rfl,rfl,rfl,?_⟩,?_⟩
  ·rw[Hy,Int.toNat_natCast]
   refine⟨⟨by omega,g⟩,Aa (fun g1=>⟨rfl,rfl,rfl,rfl,rfl,rfl,?_⟩) fun g1=>⟨⟨by omega,g⟩,rfl,rfl,rfl,rfl,rfl,rfl,?_⟩⟩
   ·exact(decide_eq_true (.inl ((u8i (k:=101)).1 g1))).symm
   ·refine decide_eq_decide.2 ⟨fun h=> .inr ((u8i (k:=69)).1 h),fun h=>?_⟩
    rcases h with h | h
    ·exact absurd ((u8i (k:=101)).2 h) g1
    ·exact(u8i (k:=69)).2 h
  ·refine(decide_eq_false fun h=>?_).symm
   rw[Hy]at h
   rcases h with h | h
   ·have:=D7 (by decide) h;omega
   ·have:=D7 (by decide) h;omega
  rintro b _ _ _ _ _ _ _ _ _ ⟨rfl,rfl,rfl,rfl,rfl,rfl,rfl⟩
  refine Aa (fun g=>?_) fun g=>⟨rfl,rfl,rfl,rfl,by omega,by omega,m,rfl,hm,?_⟩
  ·have hml:m<s.length:=by
    rw[Hy]at g
    rcases g with h | h
    ·exact D7 (by decide) h
    ·exact D7 (by decide) h
   have hne:s.drop m≠ []:=fun e=>by have:=congrArg List.length e;rw[List.length_drop]at this;simp at this;omega
   rw[Ah (((m:Nat):Int)+1) (by omega) (by omega),show(((m:Nat):Int)+1).toNat=m+1 by omega]
   have hd1:(s.drop m).drop 1=s.drop (m+1):=by rw[List.drop_drop]
   have hd2:(s.drop m).drop 2=s.drop (m+1+1):=by rw[List.drop_drop]
   have hE:dcE neg all ex (s.drop m)=if s.getD (m+1) 0=45 then dcX neg all ex true (s.drop (m+1+1))else if s.getD (m+1) 0=43 then dcX neg all ex false (s.drop (m+1+1))else dcX neg all ex false (s.drop (m+1)):=by
    unfold dcE
    rw[if_neg hne,if_pos g,hd1,hd2,Hy]
   refine⟨fun down s6 neg6 k6 dg6 ex6 _ _ _ st'=>s=s6/\neg=neg6/\(((m+1:Nat):Nat):Int)=k6/\all=dg6/\ex=ex6/\st=st'/\down=decide (s.getD (m+1) 0=45),Aa (fun g1=>⟨⟨by omega,g1⟩,rfl,rfl,by omega,rfl,rfl,rfl,decide_eq_decide.2 (u8i (k:=45))⟩) fun g1=>⟨rfl,rfl,by omega,rfl,rfl,rfl,(decide_eq_false fun h=>by have:=D7 (by decide) h;omega).symm⟩,?_⟩
   rintro down _ _ _ _ _ _ _ _ _ ⟨rfl,rfl,rfl,rfl,rfl,rfl,rfl⟩
   rw[Int.toNat_natCast]
   refine⟨fun k8 s8 neg8 dg8 ex8 down8 _ _ _ st'=>s=s8/\neg=neg8/\all=dg8/\ex=ex8/\st=st'/\∃q:Nat,k8=q/\q<=s.length/\dcE neg all ex (s.drop m)=dcX neg all ex down8 (s.drop q),?_,?_⟩
   ·refine Aa (fun g1=>⟨⟨by omega,g1⟩,Aa (fun g2=>⟨rfl,rfl,rfl,rfl,rfl,m+1+1,?_,by omega,?_⟩) fun g2=>⟨⟨by omega,g1⟩,Aa (fun g3=>⟨rfl,rfl,rfl,rfl,rfl,m+1+1,?_,by omega,?_⟩) fun g3=>⟨rfl,rfl,rfl,rfl,rfl,m+1,rfl,by omega,?_⟩⟩⟩) fun g1=>⟨rfl,rfl,rfl,rfl,rfl,m+1,rfl,by omega,?_⟩
    ·rw[Ah _ (by omega) (by omega)];omega
    ·have g2':=(u8i (k:=45)).1 g2
     rw[hE,if_pos g2',decide_eq_true g2']
    ·rw[Ah _ (by omega) (by omega)];omega
    ·have g2':¬s.getD (m+1) 0=45:=fun h=>g2 ((u8i (k:=45)).2 h)
     rw[hE,if_neg g2',if_pos ((u8i (k:=43)).1 g3),decide_eq_false g2']
    ·have g2':¬s.getD (m+1) 0=45:=fun h=>g2 ((u8i (k:=45)).2 h)
     rw[hE,if_neg g2',if_neg (fun h=>g3 ((u8i (k:=43)).2 h)),decide_eq_false g2']
    ·have g2':¬s.getD (m+1) 0=45:=fun h=>by have:=D7 (by decide) h;omega
     rw[hE,if_neg g2',if_neg (fun h=>by have:=D7 (by decide) h;omega),decide_eq_false g2']
   rintro _ _ _ _ _ less _ _ _ _ ⟨rfl,rfl,rfl,rfl,rfl,q,rfl,hq,h5⟩
   rw[h5]at hk⊢
   refine Rf (by omega) hq rfl ?_
   have hf1:=Cu (s.drop q)
   rw[List.length_drop]at hf1
   have htk:(s.take (q+(Aw (s.drop q)).length)).drop q=Aw (s.drop q):=by rw[List.drop_take,Nat.add_sub_cancel_left];exact D5 _
   have hdf:=Gk (s.drop q)
   refine Aa (fun g1=>?_) fun g1=>?_
   ·unfold KD dcX at hk
    rw[if_pos]at hk
    ·exact hk
    ·by_cases h0:s.drop q=[]
     ·exact .inl h0
     ·refine .inr fun h=>h0 (List.length_eq_zero_iff.1 (by omega))
   ·rw[Int.toNat_natCast,Int.toNat_natCast,htk]
    refine⟨⟨by omega,by omega,by omega⟩,Xw (by omega) hdf ?_⟩
    have key:∀z:Int,z=(if less then ex-((if (A2 (Aw (s.drop q))).length<=9 then Bq (Aw (s.drop q))else 1000000000:Nat):Int)else ex+((if (A2 (Aw (s.drop q))).length<=9 then Bq (Aw (s.drop q))else 1000000000:Nat):Int))->dcX neg all ex less (s.drop q)=(if q+(Aw (s.drop q)).length<s.length then KM else dcN neg (A2 all) z):=by
     intro z hz
     unfold dcX
     by_cases hfull:q+(Aw (s.drop q)).length<s.length
     ·rw[if_pos hfull,if_pos (.inr (by rw[List.length_drop];omega))]
     ·have hall:Aw (s.drop q)=s.drop q:=by
       have:=MS (s.drop q)
       have h0:(s.drop q).drop (Aw (s.drop q)).length=[]:=List.drop_of_length_le (by rw[List.length_drop];omega)
       rw[h0,List.append_nil]at this
       exact this.symm
      rw[if_neg hfull,if_neg (by rintro(h | h);exact g1 (by rw[h];simp[Aw]);exact h (by rw[hall])),hz]
      have hd5:∀c,c∈s.drop q->AS c:=by rw[<-hall];exact hdf
      rw[hall]
      by_cases h9:(A2 (s.drop q)).length<=9
      ·rw[if_pos h9]
      ·rw[if_neg h9]
       have hf:=Sf (k:=9) hd5 (by omega)
       exact(VW (n:=((1000000000:Nat):Int)) (m:=(Bq (s.drop q):Nat)) (by have:=EI all;omega) (by omega) (by omega) (by omega) (by omega) less).symm
    have hb:(if (A2 (Aw (s.drop q))).length<=9 then Bq (Aw (s.drop q))else 1000000000)<=1000000000:=by
     split
     ·rename_i h9
      have:=PY hdf h9
      omega
     ·exact Nat.le_refl _
    generalize (if (A2 (Aw (s.drop q))).length<=9 then Bq (Aw (s.drop q))else 1000000000)=N at*
    refine Ak (fun hb1=>⟨rfl,rfl,rfl,rfl,?_,?_,_,rfl,by omega,key _ ?_⟩) fun hb1=>⟨rfl,rfl,rfl,rfl,?_,?_,_,rfl,by omega,key _ ?_⟩
    ·rw[Ah (0-_) (by omega) (by omega),Ah _ (by omega) (by omega)];omega
    ·rw[Ah (0-_) (by omega) (by omega),Ah _ (by omega) (by omega)];omega
    ·rw[Ah (0-_) (by omega) (by omega),Ah _ (by omega) (by omega),if_pos hb1];omega
    ·rw[Ah _ (by omega) (by omega)];omega
    ·rw[Ah _ (by omega) (by omega)];omega
    ·rw[Ah _ (by omega) (by omega),hb1];rfl
  ·unfold dcE
   by_cases hm2:m<s.length
   ·rw[if_pos hm2,if_neg (fun e=>by have:=congrArg List.length e;rw[List.length_drop]at this;simp at this;omega),if_neg g]
   ·rw[if_neg hm2,if_pos (List.drop_of_length_le (by omega))]
 rintro _ ex7 _ _ _ _ _ _ _ ⟨rfl,rfl,rfl,rfl,y1,y2,p,rfl,hp,h4⟩
 rw[h4]at hk
 unfold KD at hk
 refine Aa (fun g=>?_) fun g=>?_
 ·rw[if_pos (by omega)]at hk;exact hk
 ·rw[if_neg (by omega)]at hk
  exact WA (by omega) (by omega) (by omega) hk
theorem Mu {s:B8} {k:Nat} (hl:s.length<=1000000000) (hk0:k<=s.length) {I:Int} (hI:I=(k:Nat)) {st:St} {K:Int->St->Prop} (hk:K ((k+(Aw (s.drop k)).length:Nat):Int) st):CallT PR AA [.str s,.int .i64 I] [.one (.int .i64)] st K:=by
 subst hI
 refine Kg s _ st K ⟨fun n s' st'=>s=s'/\st=st'/\∃j:Nat,n=((k+j:Nat):Int)/\k+j<=s.length/\∀i,i<j->AS (s.getD (k+i) 0),fun n _ _=>(s.length-n).toNat,⟨rfl,rfl,0,rfl,by omega,fun j h=>absurd h (Nat.not_lt_zero _)⟩,?_⟩
 rintro _ _ _ ⟨rfl,rfl,j,rfl,hj1,hd⟩
 rw[Int.toNat_natCast]
 have fin:(k+j=s.length∨¬AS (s.getD (k+j) 0))->K ((k+j:Nat):Int) st:=fun h=>by
  have:=HA (s.drop k) j (by rw[List.length_drop];omega) (fun i hi=>by have:=hd i hi;simpa [List.getD]using this) (by
   rcases h with h | h
   ·left;rw[List.length_drop];omega
   ·right;simpa [List.getD]using h)
  rw[this]at hk;exact hk
 have hB:JJ ((s.getD (k+j) 0).toNat:Int)=decide (AS (s.getD (k+j) 0)):=by
  unfold JJ AS
  exact decide_eq_decide.2 ⟨fun h=>⟨by omega,by omega⟩,fun h=>⟨by omega,by omega⟩⟩
 refine Aa (fun g=>⟨⟨by omega,g⟩,Tk (Ak (fun g1=>?_) fun g1=>fin (.inr fun h=>?_))⟩) fun g=>fin (.inl (by omega))
 ·rw[hB]at g1
  rw[Ah _ (by omega) (by omega)]
  refine⟨⟨rfl,rfl,j+1,by omega,by omega,fun i hi=>?_⟩,by dsimp only;omega⟩
  by_cases hij:i=j
  ·rw[hij];exact of_decide_eq_true g1
  ·exact hd i (by omega)
 ·rw[hB,decide_eq_true h]at g1;cases g1
def isX (r:B8):Prop:=r≠ []/\(Aw r).length=r.length
def isE (r:B8):Prop:=r=[]∨((r.getD 0 0=101∨r.getD 0 0=69)/\(if (r.drop 1).getD 0 0=45∨(r.drop 1).getD 0 0=43 then isX (r.drop 2)else isX (r.drop 1)))
def isF (r:B8):Prop:=if r.getD 0 0=46 then Aw (r.drop 1)≠ []/\isE (r.drop (1+(Aw (r.drop 1)).length))else isE r
def isQ (t:B8):Prop:=Aw t≠ []/\¬(1<(Aw t).length/\t.getD 0 0=48)/\isF (t.drop (Aw t).length)
instance (r:B8):Decidable (isX r):=inferInstanceAs (Decidable (_/\_))
instance (r:B8):Decidable (isE r):=by unfold isE;infer_instance
instance (r:B8):Decidable (isF r):=by unfold isF;infer_instance
instance (r:B8):Decidable (isQ r):=by unfold isQ;infer_instance
theorem VX (neg:Bool) (s:B8) (ex:Int):(dcN neg s ex).2.2.2=0∨(dcN neg s ex).2.2.2=2:=by
 unfold dcN;split
 ·exact .inl rfl
 ·split
  ·exact .inr rfl
  ·exact .inl rfl
def okE (e:Int):Prop:=e=0∨e=2
theorem RF (neg:Bool) (all:B8) (ex:Int) (less:Bool) (r:B8):(isX r->okE (dcX neg all ex less r).2.2.2)/\(¬isX r->(dcX neg all ex less r).2.2.2=3):=by
 unfold dcX isX
 by_cases h:r=[]∨(Aw r).length≠r.length
 ·rw[if_pos h]
  refine⟨fun g=>?_,fun _=>rfl⟩
  rcases h with h | h
  ·exact absurd h g.1
  ·exact absurd g.2 h
 ·rw[if_neg h]
  have h':r≠ []/\(Aw r).length=r.length:=⟨fun e=>h (.inl e),Decidable.not_not.1 fun e=>h (.inr e)⟩
  exact⟨fun _=>VX _ _ _,fun g=>absurd h' g⟩
theorem VZ (neg:Bool) (all:B8) (ex:Int) (r:B8):(isE r->okE (dcE neg all ex r).2.2.2)/\(¬isE r->(dcE neg all ex r).2.2.2=3):=by
 unfold dcE isE
 by_cases h:r=[]
 ·rw[if_pos h];exact⟨fun _=>VX _ _ _,fun g=>absurd (.inl h) g⟩
 rw[if_neg h]
 by_cases h2:r.getD 0 0=101∨r.getD 0 0=69
 ·rw[if_pos h2]
  by_cases h3:(r.drop 1).getD 0 0=45
  ·rw[if_pos h3,if_pos (.inl h3)]
   have:=RF neg all ex true (r.drop 2)
   exact⟨fun g=>this.1 (by rcases g with g | g;exact absurd g h;exact g.2),fun g=>this.2 fun g2=>g (.inr ⟨h2,g2⟩)⟩
  ·rw[if_neg h3]
   by_cases h4:(r.drop 1).getD 0 0=43
   ·rw[if_pos h4,if_pos (.inr h4)]
    have:=RF neg all ex false (r.drop 2)
    exact⟨fun g=>this.1 (by rcases g with g | g;exact absurd g h;exact g.2),fun g=>this.2 fun g2=>g (.inr ⟨h2,g2⟩)⟩
   ·rw[if_neg h4,if_neg (by rintro(g | g);exact h3 g;exact h4 g)]
    have:=RF neg all ex false (r.drop 1)
    exact⟨fun g=>this.1 (by rcases g with g | g;exact absurd g h;exact g.2),fun g=>this.2 fun g2=>g (.inr ⟨h2,g2⟩)⟩
 ·rw[if_neg h2]
  exact⟨fun g=>by rcases g with g | g;exact absurd g h;exact absurd g.1 h2,fun _=>rfl⟩
theorem dcF_err (neg:Bool) (a r:B8):(isF r->okE (dcF neg a r).2.2.2)/\(¬isF r->(dcF neg a r).2.2.2=3):=by
 unfold dcF isF
 by_cases h:r.getD 0 0=46
 ·rw[if_pos h,if_pos h]
  by_cases h2:Aw (r.drop 1)=[]
  ·rw[if_pos h2];exact⟨fun g=>absurd h2 g.1,fun _=>rfl⟩
  ·rw[if_neg h2]
   have:=VZ neg (a++Aw (r.drop 1)) (-(Aw (r.drop 1)).length) (r.drop (1+(Aw (r.drop 1)).length))
   exact⟨fun g=>this.1 g.2,fun g=>this.2 fun g2=>g ⟨h2,g2⟩⟩
 ·rw[if_neg h,if_neg h];exact VZ _ _ _ _
theorem VU (neg:Bool) (t:B8):(isQ t->okE (dcQ neg t).2.2.2)/\(¬isQ t->(dcQ neg t).2.2.2=3):=by
 unfold dcQ isQ
 by_cases h:Aw t=[]∨(1<(Aw t).length/\t.getD 0 0=48)
 ·rw[if_pos h]
  refine⟨fun g=>?_,fun _=>rfl⟩
  rcases h with h | h
  ·exact absurd h g.1
  ·exact absurd h g.2.1
 ·rw[if_neg h]
  have:=dcF_err neg (Aw t) (t.drop (Aw t).length)
  exact⟨fun g=>this.1 g.2.2,fun g=>this.2 fun g2=>g ⟨fun e=>h (.inl e),fun e=>h (.inr e),g2⟩⟩
def D3 (s:B8):Nat:=if s.getD 0 0=45 then 1 else 0
theorem RG (s:B8):(isQ (s.drop (D3 s))->okE (dcP s).2.2.2)/\(¬isQ (s.drop (D3 s))->(dcP s).2.2.2=3):=by
 unfold dcP D3
 by_cases h:s.getD 0 0=45
 ·rw[if_pos h,if_pos h];exact VU _ _
 ·rw[if_neg h,if_neg h,List.drop_zero];exact VU _ _
theorem XU {s:B8} (hl:s.length<=1000000) {st:St} {K:Bool->Bool->St->Prop} (hk:∀b2,K (decide (isQ (s.drop (D3 s)))) b2 st):CallT PR Cg [.str s] [.one .bool,.one .bool] st K:=by
 refine GW s st K ⟨fun i s' st'=>s=s'/\st=st'/\i=((D3 s:Nat):Int),?_,?_⟩
 ·refine Aa (fun g=>⟨⟨by omega,g⟩,Aa (fun g1=>⟨rfl,rfl,?_⟩) fun g1=>⟨rfl,rfl,?_⟩⟩) fun g=>⟨rfl,rfl,?_⟩
  ·rw[Ah _ (by omega) (by omega)];unfold D3;rw[if_pos (show s.getD 0 0=45 from(u8i (k:=45)).1 g1)];rfl
  ·unfold D3;rw[if_neg (show ¬s.getD 0 0=45 from fun h=>g1 ((u8i (k:=45)).2 h))];rfl
  ·unfold D3;rw[if_neg (show ¬s.getD 0 0=45 from fun h=>by have:=D7 (by decide) h;omega)];rfl
 rintro _ _ _ ⟨rfl,rfl,rfl⟩
 have hjl:D3 s<=s.length:=by
  unfold D3;split
  ·rename_i h;have:=D7 (by decide) h;omega
  ·exact Nat.zero_le _
 have hj1:D3 s<=1:=by unfold D3;split<;>omega
 generalize D3 s=j at*
 have no:¬isQ (s.drop j)->∀b2,K false b2 st:=fun hn b2=>by have:=hk b2;rw[decide_eq_false hn]at this;exact this
 have hrl:=Cu (s.drop j)
 rw[List.length_drop]at hrl
 refine Aa (fun g=>no (fun h=>h.1 ?_) _) fun g=>Mu (by omega) hjl rfl ?_
 ·rw[List.drop_of_length_le (by omega)];rfl
 have hqq:isQ (s.drop j)↔Aw (s.drop j)≠ []/\¬(1<(Aw (s.drop j)).length/\(s.drop j).getD 0 0=48)/\isF ((s.drop j).drop (Aw (s.drop j)).length):=Iff.rfl
 rw[List.drop_drop,Hy]at hqq
 generalize ha:Aw (s.drop j)=a at*
 rw[Ah _ (by omega) (by omega),Int.toNat_natCast]
 have hgo:a≠ []->¬(1<a.length/\s.getD j 0=48)->(isQ (s.drop j)↔isF (s.drop (j+a.length))):=fun h1 h2=>by rw[hqq];exact⟨fun h=>h.2.2,fun h=>⟨h1,h2,h⟩⟩
 have hne:¬((j+a.length:Nat):Int)=(j:Int)->a≠ []:=fun g e=>g (by rw[e];simp)
 refine⟨fun s2 k2 st'=>s=s2/\st=st'/\k2=((j+a.length:Nat):Int)/\(isQ (s.drop j)↔isF (s.drop (j+a.length))),Aa (fun g1=>no (fun h=>(hqq.1 h).1 (List.length_eq_zero_iff.1 (by omega))) _) fun g1=>⟨⟨by omega,by omega⟩,Aa (fun g2=>Aa (fun g3=>no (fun h=>(hqq.1 h).2.1 ⟨by omega,(u8i (k:=48)).1 g2⟩) _) fun g3=>⟨rfl,rfl,rfl,hgo (hne g1) fun h=>g3 (by omega)⟩) fun g2=>⟨rfl,rfl,rfl,hgo (hne g1) fun h=>g2 ((u8i (k:=48)).2 h.2)⟩⟩,?_⟩
 rintro _ _ _ ⟨rfl,rfl,rfl,h2⟩
 replace hk:∀b2,K (decide (isF (s.drop (j+a.length)))) b2 st:=fun b=>by have:=hk b;rw[decide_eq_decide.2 h2]at this;exact this
 clear no hqq hgo hne h2 ha
 have hkl:j+a.length<=s.length:=by omega
 generalize j+a.length=k at*
 clear hrl hjl hj1 g
 have no:¬isF (s.drop k)->∀b2,K false b2 st:=fun hn b2=>by have:=hk b2;rw[decide_eq_false hn]at this;exact this
 have hff:isF (s.drop k)↔(if s.getD k 0=46 then Aw (s.drop (k+1))≠ []/\isE (s.drop (k+(1+(Aw (s.drop (k+1))).length)))else isE (s.drop k)):=by
  unfold isF;rw[Hy,List.drop_drop,List.drop_drop]
 refine⟨fun i2 s2 st'=>s=s2/\st=st'/\∃m:Nat,i2=m/\m<=s.length/\(isF (s.drop k)↔isE (s.drop m)),?_,?_⟩
 ·have w1:i64.wrap (((k:Nat):Int)+1)=((k+1:Nat):Int):=by rw[Ah _ (by omega) (by omega)];omega
  rw[w1,Int.toNat_natCast]
  refine Aa (fun g=>⟨⟨by omega,g⟩,Aa (fun g1=>Mu (by omega) (by omega) rfl ?_) fun g1=>⟨rfl,rfl,k,rfl,hkl,?_⟩⟩) fun g=>⟨rfl,rfl,k,rfl,hkl,?_⟩
  ·rw[if_pos ((u8i (k:=46)).1 g1)]at hff
   have hrl:=Cu (s.drop (k+1))
   rw[List.length_drop]at hrl
   refine Aa (fun g2=>no (fun h=>(hff.1 h).1 (List.length_eq_zero_iff.1 (by omega))) _) fun g2=>⟨rfl,rfl,_,rfl,by omega,?_⟩
   rw[hff,show k+1+(Aw (s.drop (k+1))).length=k+(1+(Aw (s.drop (k+1))).length) by omega]
   exact⟨fun h=>h.2,fun h=>⟨fun e=>g2 (by rw[e];simp),h⟩⟩
  ·rw[if_neg (fun h=>g1 ((u8i (k:=46)).2 h))]at hff;exact hff
  ·rw[if_neg (fun h=>by have:=D7 (by decide) h;omega)]at hff;exact hff
 rintro _ _ _ ⟨rfl,rfl,m,rfl,hml,h3⟩
 replace hk:∀b2,K (decide (isE (s.drop m))) b2 st:=fun b=>by have:=hk b;rw[decide_eq_decide.2 h3]at this;exact this
 clear no hff h3 hkl
 have tail:∀(p:Nat),p<=s.length->(∀b2,K (decide (isX (s.drop p))) b2 st)->CallT PR AA [.str s,.int .i64 ((p:Nat):Int)] [.one (.int .i64)] st (fun n st'=>BIf (decide (n=((p:Nat):Int))) (K false (decide (n=(s.length:Int))) st') (K (decide (n=(s.length:Int))) (decide (n=(s.length:Int))) st')):=fun p hp h=>by
  refine Mu (by omega) hp rfl ?_
  have hrl:=Cu (s.drop p)
  rw[List.length_drop]at hrl
  refine Aa (fun g=>?_) fun g=>?_
  ·have:=h (decide (((p+(Aw (s.drop p)).length:Nat):Int)=(s.length:Int)))
   rw[decide_eq_false (fun hx=>?_)]at this
   ·exact this
   ·have h1:=hx.2
    have h2:=List.length_pos_iff.2 hx.1
    have g':((p+(Aw (s.drop p)).length:Nat):Int)=((p:Nat):Int):=g
    rw[List.length_drop]at h1 h2
    omega
  ·have:=h (decide (((p+(Aw (s.drop p)).length:Nat):Int)=(s.length:Int)))
   rw[decide_eq_decide.2 (show isX (s.drop p)↔((p+(Aw (s.drop p)).length:Nat):Int)=(s.length:Int)from ?_)]at this
   ·exact this
   ·unfold isX
    rw[List.length_drop]
    exact⟨fun h=>by omega,fun h=>⟨fun e=>g (by rw[e];simp[Aw]),by omega⟩⟩
 have hee:isE (s.drop m)↔m=s.length∨((s.getD m 0=101∨s.getD m 0=69)/\(if s.getD (m+1) 0=45∨s.getD (m+1) 0=43 then isX (s.drop (m+2))else isX (s.drop (m+1)))):=by
  unfold isE
  rw[Hy,List.drop_drop,List.drop_drop,Hy,List.drop_eq_nil_iff]
  exact⟨fun h=>h.imp (fun h=>by omega) id,fun h=>h.imp (fun h=>by omega) id⟩
 have w1:i64.wrap (((m:Nat):Int)+1)=((m+1:Nat):Int):=by rw[Ah _ (by omega) (by omega)];omega
 have w2:i64.wrap (((m+1:Nat):Int)+1)=((m+2:Nat):Int):=by rw[Ah _ (by omega) (by omega)];omega
 simp only[w1,w2,Int.toNat_natCast]
 have go:m<s.length->(s.getD m 0=101∨s.getD m 0=69)->∀p,p<=s.length->((if s.getD (m+1) 0=45∨s.getD (m+1) 0=43 then isX (s.drop (m+2))else isX (s.drop (m+1)))↔isX (s.drop p))->CallT PR AA [.str s,.int .i64 ((p:Nat):Int)] [.one (.int .i64)] st (fun n st'=>BIf (decide (n=((p:Nat):Int))) (K false (decide (n=(s.length:Int))) st') (K (decide (n=(s.length:Int))) (decide (n=(s.length:Int))) st')):=fun hlt hc p hp hi=>tail p hp fun b2=>by
  have:=hk b2
  rw[decide_eq_decide.2 (show isE (s.drop m)↔isX (s.drop p)from ?_)]at this
  ·exact this
  ·rw[hee,hi];exact⟨fun h=>h.elim (fun h=>by omega) fun h=>h.2,fun h=> .inr ⟨hc,h⟩⟩
 have fin:¬(s.getD m 0=101∨s.getD m 0=69)->∀b2,K (decide (((m:Nat):Int)=(s.length:Int))) b2 st:=fun hn b2=>by
  have:=hk b2
  rw[decide_eq_decide.2 (show isE (s.drop m)↔((m:Nat):Int)=(s.length:Int)from ?_)]at this
  ·exact this
  ·rw[hee];exact⟨fun h=>h.elim (fun h=>by omega) fun h=>absurd h.1 hn,fun h=> .inl (by omega)⟩
 refine Aa (fun g=>⟨⟨by omega,g⟩,Aa (fun g1=>?q1) fun g1=>⟨⟨by omega,g⟩,Aa (fun g2=>?q2) fun g2=>?_⟩⟩) fun g=>?_
 case q1 | q2=>
  have hc:s.getD m 0=101∨s.getD m 0=69:=by first | exact .inl ((u8i (k:=101)).1 (by assumption)) | exact .inr ((u8i (k:=69)).1 (by assumption))
  have hlt:m<s.length:=by omega
  refine Aa (fun g4=>⟨⟨by omega,g4⟩,Aa (fun g5=>go hlt hc (m+2) (by omega) (by rw[if_pos (.inr ((u8i (k:=43)).1 g5))])) fun g5=>⟨⟨by omega,g4⟩,Aa (fun g6=>go hlt hc (m+2) (by omega) (by rw[if_pos (.inl ((u8i (k:=45)).1 g6))])) fun g6=>go hlt hc (m+1) (by omega) (by rw[if_neg (by rintro(h | h);exact g6 ((u8i (k:=45)).2 h);exact g5 ((u8i (k:=43)).2 h))])⟩⟩) fun g4=>go hlt hc (m+1) (by omega) ?_
  rw[if_neg (by rintro(h | h)<;>(have:=D7 (by decide) h;omega))]
 ·exact fin (by rintro(h | h);exact g1 ((u8i (k:=101)).2 h);exact g2 ((u8i (k:=69)).2 h)) _
 ·exact fin (by rintro(h | h)<;>(have:=D7 (by decide) h;omega)) _
def scK (k:Nat):Sc:=⟨(k:Nat),false,false,[],0,0,0,0,0,[],[]⟩
theorem vlLeaf (st:St) (s:Sc) (h:s.bytes=[]):VlR st (.mk s [] []) (A7 s .nilSlice .nilSlice .nilSlice):=by
 unfold VlR
 refine⟨_,_,_,[],[],rfl,?_,.of_rd (.inl ⟨rfl,rfl,rfl⟩),by unfold VsR;rfl,.of_rd (.inl ⟨rfl,rfl,rfl⟩),by unfold FsR;rfl⟩
 rw[h];exact .of_rd (.inl ⟨rfl,rfl,rfl⟩)
theorem FsR.snoc0 {st:St} {d:Fd} {cd:List TV} {l:List Fd} {xs:List TV} (h:FsR st l xs) (hd:FdR st d cd):FsR st (l++[d]) (xs++cd):=by
 obtain⟨cks,rfl,hall⟩:=h.chunks
 have:=FsR.of_chunks (hall.snoc hd)
 simpa using this
theorem Ct {n w:Nat} (hw:w<=100) (hn:n<=1000000000000000000) {st:St} {K:B8->St->Prop} (hk:∀st',Aq st st'->K (Cj w n) st'):CallT PR AH [.int .i64 (n:Int),.int .i64 (w:Int)] [.one .str] st K:=by
 refine L0 _ _ st K ⟨⟨by omega,by omega,by rw[Int.toNat_natCast];omega⟩,?_⟩
 rw[Int.toNat_natCast,Ah _ (by omega) (by omega)]
 refine⟨fun n1 i b st'=>TV.ms 1 st.nb 0 w w=b/\∃(j m:Nat) (t:B8),i=(j:Int)-1/\n1=m/\m<=n/\j+t.length=w/\Cj w n=Cj j m++t/\BxB st st' b (List.replicate j 0++t),fun _ i _ _=>(i+1).toNat,⟨rfl,w,n,[],rfl,rfl,Nat.le_refl _,rfl,by simp,by simpa using BxB.make (Aq.refl st) w⟩,?_⟩
 rintro _ _ _ st1 ⟨rfl,j,m,t,rfl,rfl,hm,hj,he,hb⟩
 have hlen:(List.replicate j (0:UInt8)++t).length=w:=by simp;omega
 refine Aa (fun g=>?_) fun g=>?_
 ·obtain⟨i,rfl⟩:∃i,j=i+1:=⟨j-1,by omega⟩
  have hi:(((i+1:Nat):Int)-1)=(i:Int):=by omega
  rw[hi,hb.rd.lenZ,Int.toNat_natCast]
  refine⟨⟨by omega,by omega⟩,hb.set (c:=(48+m%10).toUInt8) (by rw[dg_w8 _ rfl];rfl) (by omega) fun st2 hb2=>?_⟩
  have hd:i64.wrap ((m:Int).tdiv 10)=((m/10:Nat):Int):=by rw[Int.tdiv_eq_ediv_of_nonneg (by omega),Ah _ (by omega) (by omega)];omega
  rw[hd,Ah _ (by omega) (by omega)]
  refine⟨⟨rfl,i,m/10,(48+m%10).toUInt8::t,rfl,rfl,by omega,by rw[List.length_cons];omega,by rw[he,Cj,List.append_assoc];rfl,?_⟩,by dsimp only;omega⟩
  have:(List.replicate (i+1) (0:UInt8)++t).set i (48+m%10).toUInt8=List.replicate i 0++(48+m%10).toUInt8::t:=by
   rw[List.replicate_succ',List.append_assoc,List.set_append_right _ _ (by simp),List.length_replicate,Nat.sub_self];rfl
  rw[<-this];exact hb2
 ·have:j=0:=by omega
  subst this
  rw[List.replicate_zero,List.nil_append]at hb
  rw[Cj,List.nil_append]at he
  rw[<-he]at hb
  exact hb.str (hk _ hb.ext)
theorem To {n:Nat} (hn:n<=3652058) {st:St} {K:B8->St->Prop} (hk:∀st',Aq st st'->K (O8 n) st'):CallT PR Bk [.int .i64 (n:Int)] [.one .str] st K:=by
 refine KR _ st K (date_ok hn fun y m d hd=>?_)
 have he:=datT_eq hd
 obtain⟨a1,a2,a3,a4,a5,a6,a7⟩:=hd
 have hm:=H9 y m
 have l4:=Bw 4 y
 have l2:=Bw 2 m
 have l3:=Bw 2 d
 refine Ct (w:=4) (by omega) (by omega) fun st1 e1=>⟨by rw[l4];show 4+1<=_;omega,Ct (w:=2) (by omega) (by omega) fun st2 e2=>⟨by rw[List.length_append,l4,l2];show 4+1+2<=_;omega,by rw[List.length_append,List.length_append,l4,l2];show 4+1+2+1<=_;omega,Ct (w:=2) (by omega) (by omega) fun st3 e3=>⟨by simp only[List.length_append,l4,l2,l3];show 4+1+2+1+2<=_;omega,?_⟩⟩⟩
 have:=hk st3 ((e1.trans e2).trans e3)
 rw[he,List.append_cons,List.append_cons,List.append_assoc (Cj 4 y++[45]),<-List.append_assoc,<-List.append_assoc]at this
 exact this
theorem Uz {f:B8} (h:f≠ []):f=f.take (f.length-1)++[f.getD (f.length-1) 0]:=by
 have hp:=List.length_pos_iff.2 h
 have:=EN f (f.length-1) 0 (by omega)
 rw[show f.length-1+1=f.length by omega,List.take_length]at this
 exact this
theorem RI {n:Nat} (hn:n<=86399999999999) {st:St} {K:B8->St->Prop} (hk:∀st',Aq st st'->K (RJ n) st'):CallT PR Bg [.int .i64 (n:Int)] [.one .str] st K:=by
 refine Kf _ st K ?_
 have e1:i64.wrap ((n:Int).tdiv 1000000000)=((n/1000000000:Nat):Int):=by rw[Int.tdiv_eq_ediv_of_nonneg (by omega),Ah _ (by omega) (by omega)];omega
 have e2:i64.wrap (((n/1000000000:Nat):Int).tdiv 3600)=((n/1000000000/3600:Nat):Int):=by rw[Int.tdiv_eq_ediv_of_nonneg (by omega),Ah _ (by omega) (by omega)];omega
 have e3:(i64.wrap (((n/1000000000:Nat):Int).tdiv 60)).tmod 60=((n/1000000000/60%60:Nat):Int):=by
  rw[Int.tdiv_eq_ediv_of_nonneg (by omega),Ah _ (by omega) (by omega),Int.tmod_eq_emod_of_nonneg (by omega)];omega
 have e4:((n/1000000000:Nat):Int).tmod 60=((n/1000000000%60:Nat):Int):=by rw[Int.tmod_eq_emod_of_nonneg (by omega)];omega
 have e5:(n:Int).tmod 1000000000=((n%1000000000:Nat):Int):=by rw[Int.tmod_eq_emod_of_nonneg (by omega)];omega
 rw[e1,e2,e3,e4,e5]
 have l1:=Bw 2 (n/1000000000/3600)
 have l2:=Bw 2 (n/1000000000/60%60)
 have l3:=Bw 2 (n/1000000000%60)
 refine Ct (w:=2) (by omega) (by omega) fun st1 x1=>⟨by rw[l1];show 2+1<=_;omega,Ct (w:=2) (by omega) (by omega) fun st2 x2=>⟨by rw[List.length_append,l1,l2];show 2+1+2<=_;omega,by rw[List.length_append,List.length_append,l1,l2];show 2+1+2+1<=_;omega,Ct (w:=2) (by omega) (by omega) fun st3 x3=>⟨by simp only[List.length_append,l1,l2,l3];show 2+1+2+1+2<=_;omega,?_⟩⟩⟩
 have e0:=(x1.trans x2).trans x3
 have hpre:∀(f:B8),Cj 2 (n/1000000000/3600)++58::(Cj 2 (n/1000000000/60%60)++58::(Cj 2 (n/1000000000%60)++f))=((((Cj 2 (n/1000000000/3600)++[58])++Cj 2 (n/1000000000/60%60))++[58])++Cj 2 (n/1000000000%60))++f:=fun f=>by
  simp only[List.append_assoc,List.cons_append,List.nil_append]
 unfold RJ at hk
 rw[hpre]at hk
 generalize hP:((((Cj 2 (n/1000000000/3600)++[58])++Cj 2 (n/1000000000/60%60))++[58])++Cj 2 (n/1000000000%60))=P at hk
 have hPl:P.length=8:=by rw[<-hP];simp only[List.length_append,l1,l2,l3];rfl
 have hP2:((((Cj 2 (n/1000000000/3600)++DH)++Cj 2 (n/1000000000/60%60))++DH)++Cj 2 (n/1000000000%60))=P:=hP
 rw[hP2]
 refine Aa (fun g=>?_) fun g=>?_
 ·have:=hk st3 e0
  rw[if_pos (by omega),List.append_nil]at this
  exact this
 ·rw[if_neg (by omega)]at hk
  have hr0:n%1000000000≠0:=by omega
  have hcne:=cut0_ne (n:=n%1000000000) (by omega) hr0
  refine Ct (w:=9) (by omega) (by omega) fun st4 x4=>⟨fun f s st'=>P=s/\st4=st'/\LS f=LS (Cj 9 (n%1000000000))/\f.length<=9,fun f _ _=>f.length,⟨rfl,rfl,rfl,by rw[Bw];omega⟩,?_⟩
  rintro f _ _ ⟨rfl,rfl,hf,hfl⟩
  have hfne:f≠ []:=fun e=>by
   rw[e]at hf
   exact hcne (hf.symm.trans rfl)
  have hp:=List.length_pos_iff.2 hfne
  rw[Ah _ (by omega) (by omega),show Int.toNat ((f.length:Int)-1)=f.length-1 by omega]
  have hsp:=Uz hfne
  have hsn:=QF (f.take (f.length-1)) (f.getD (f.length-1) 0)
  rw[<-hsp]at hsn
  refine⟨⟨by omega,by omega⟩,Aa (fun g2=>⟨⟨by omega,by omega⟩,⟨rfl,rfl,?_,by rw[List.length_take];omega⟩,by dsimp only;rw[List.length_take];omega⟩) fun g2=>⟨by rw[hPl];show 8+1<=_;omega,by rw[List.length_append,hPl];show 8+1+_<=_;omega,?_⟩⟩
  ·rw[if_pos (UInt8.toNat_inj.1 (by show _=48;omega))]at hsn
   rw[<-hsn];exact hf
  ·rw[if_neg (fun e=>g2 (by rw[e];rfl))]at hsn
   have:=hk st4 (e0.trans x4)
   rw[<-hf,hsn,List.append_cons]at this
   exact this
theorem PK {z:Int} (h1: -1439<=z) (h2:z<=1439) {st:St} {K:B8->St->Prop} (hk:∀st',Aq st st'->K (Wy z) st'):CallT PR Do [.int .i64 z] [.one .str] st K:=by
 unfold Wy at hk
 refine Jc _ st K (Aa (fun g=>?_) fun g=>?_)
 ·have:=hk st (Aq.refl _)
  rw[if_pos g]at this;exact this
 ·rw[if_neg g]at hk
  have l1:=Bw 2 (z.natAbs/60)
  have l2:=Bw 2 (z.natAbs%60)
  refine Aa (fun g2=>?_) fun g2=>?_
  ·rw[if_pos g2]at hk
   have e1:i64.wrap ((i64.wrap (0-z)).tdiv 60)=((z.natAbs/60:Nat):Int):=by rw[Ah (0-z) (by omega) (by omega),Int.tdiv_eq_ediv_of_nonneg (by omega),Ah _ (by omega) (by omega)];omega
   have e2:(i64.wrap (0-z)).tmod 60=((z.natAbs%60:Nat):Int):=by rw[Ah (0-z) (by omega) (by omega),Int.tmod_eq_emod_of_nonneg (by omega)];omega
   rw[e1,e2]
   refine Ct (w:=2) (by omega) (by omega) fun st1 x1=>⟨by rw[l1];show 1+2<=_;omega,by rw[List.length_append,l1];show 1+2+1<=_;omega,Ct (w:=2) (by omega) (by omega) fun st2 x2=>⟨by simp only[List.length_append,l1,l2];show 1+2+1+2<=_;omega,?_⟩⟩
   have:=hk st2 (x1.trans x2)
   rw[<-List.cons_append,List.append_cons]at this
   exact this
  ·rw[if_neg g2]at hk
   have e1:i64.wrap (z.tdiv 60)=((z.natAbs/60:Nat):Int):=by rw[Int.tdiv_eq_ediv_of_nonneg (by omega),Ah _ (by omega) (by omega)];omega
   have e2:z.tmod 60=((z.natAbs%60:Nat):Int):=by rw[Int.tmod_eq_emod_of_nonneg (by omega)];omega
   rw[e1,e2]
   refine Ct (w:=2) (by omega) (by omega) fun st1 x1=>⟨by rw[l1];show 1+2<=_;omega,by rw[List.length_append,l1];show 1+2+1<=_;omega,Ct (w:=2) (by omega) (by omega) fun st2 x2=>⟨by simp only[List.length_append,l1,l2];show 1+2+1+2<=_;omega,?_⟩⟩
   have:=hk st2 (x1.trans x2)
   rw[<-List.cons_append,List.append_cons]at this
   exact this
def b64A:B8:=[65,66,67,68,69,70,71,72,73,74,75,76,77,78,79,80,81,82,83,84,85,86,87,88,89,90,97,98,99,100,101,102,103,104,105,106,107,108,109,110,111,112,113,114,115,116,117,118,119,120,121,122,48,49,50,51,52,53,54,55,56,57,43,47]
def fnd:B8->UInt8->Int
 | [],_=> -1
 | a::al,c=>if a=c then 0 else if fnd al c<0 then-1 else fnd al c+1
def Vb (l:B8) (i:Nat):Nat:=(l.getD (i/8) 0).toNat/2^(7-i%8)%2
def bdg (l:B8) (i:Nat):Nat->Nat
 | 0=>0
 | m+1=>bdg l i m*2+Vb l (i+m)
theorem dg6 (l:B8) (i:Nat):bdg l i 6=((((Vb l i*2+Vb l (i+1))*2+Vb l (i+2))*2+Vb l (i+3))*2+Vb l (i+4))*2+Vb l (i+5):=by
 simp[bdg]
theorem Sm (k td tn tz:Int):(TN k td tn tz).length<=40:=by
 have h1:∀n,(O8 n).length=10:=fun n=>by unfold O8;simp only[List.length_append,List.length_cons,Bw]
 have h2:∀n,(RJ n).length<=18:=fun n=>by
  unfold RJ
  have:(if n%1000000000=0 then([]:B8)else 46::LS (Cj 9 (n%1000000000))).length<=10:=by
   split
   ·simp
   ·have:=Yq (Cj 9 (n%1000000000))
    rw[Bw]at this
    rw[List.length_cons];omega
  simp only[List.length_append,List.length_cons,Bw];omega
 have h3:∀z,(Wy z).length<=6:=fun z=>by
  unfold Wy;split
  ·decide
  ·simp only[List.length_append,List.length_cons,Bw];omega
 unfold TN
 have e1:=h1 td.toNat
 have e2:=h2 tn.toNat
 have e3:=h3 tz
 split
 ·omega
 split
 ·omega
 split
 ·rw[List.length_append,List.length_cons];omega
 ·rw[List.length_append,List.length_cons,List.length_append];omega
theorem XK {k d n z:Int} (h:Ft k d n z) {st:St} {K:B8->St->Prop} (hk:∀st',Aq st st'->K (TN k d n z) st'):CallT PR Ep [.agg [.int .i64 k,.int .i64 d,.int .i64 n,.int .i64 z]] [.one .str] st K:=by
 have h0:=h
 obtain⟨a1,a2,a3,a4,a5,a6,a7,a8,a9,a10,a11⟩:=h
 have ed:d=((d.toNat:Nat):Int):=by omega
 have en:n=((n.toNat:Nat):Int):=by omega
 have l1:∀m,(O8 m).length=10:=fun n=>by unfold O8;simp only[List.length_append,List.length_cons,Bw]
 unfold TN at hk
 have hdt:∀{st:St} {K:B8->St->Prop},(∀st',Aq st st'->K (O8 d.toNat) st')->CallT PR Bk [.int .i64 d] [.one .str] st K:=fun {st K} hk=>by
  rw[ed];exact To (by omega) hk
 have hct:∀{st:St} {K:B8->St->Prop},(∀st',Aq st st'->K (RJ n.toNat) st')->CallT PR Bg [.int .i64 n] [.one .str] st K:=fun {st K} hk=>by
  rw[en];exact RI (by omega) hk
 have l2:(RJ n.toNat).length<=40:=by have:=Sm 2 d n z;unfold TN at this;rw[if_neg (by omega),if_pos rfl]at this;exact this
 have l3:(Wy z).length<=40:=by have:=Sm 4 d n z;unfold TN at this;rw[if_neg (by omega),if_neg (by omega),if_neg (by omega),List.length_append,List.length_cons,List.length_append]at this;omega
 have l1':=l1 d.toNat
 refine N5 _ _ _ _ st K (Lo ?_)
 rw[decide_eq_true h0]
 refine Aa (p:=False) (fun h=>h.elim) fun _=>Aa (fun g=>?_) fun g1=>Aa (fun g=>?_) fun g2=>Aa (fun g=>?_) fun g3=>?_
 ·rw[if_pos g]at hk;exact hdt hk
 ·rw[if_neg g1,if_pos g]at hk;exact hct hk
 ·rw[if_neg g1,if_neg g2,if_pos g]at hk
  refine hdt fun st1 e1=>⟨by rw[l1'];show 10+1<=_;omega,hct fun st2 e2=>⟨by rw[List.length_append,l1'];show 10+1+_<=_;omega,?_⟩⟩
  have:=hk st2 (e1.trans e2)
  rw[List.append_cons]at this
  exact this
 ·rw[if_neg g1,if_neg g2,if_neg g3]at hk
  refine hdt fun st1 e1=>⟨by rw[l1'];show 10+1<=_;omega,hct fun st2 e2=>⟨by rw[List.length_append,l1'];show 10+1+_<=_;omega,PK a7 a8 fun st3 e3=>⟨by rw[List.length_append,List.length_append,l1'];show 10+1+_+_<=_;omega,?_⟩⟩⟩
  have:=hk st3 ((e1.trans e2).trans e3)
  rw[List.append_cons,<-List.append_assoc]at this
  exact this
theorem szl' (s:Sc):(Vl.mk s [] []).sz=1+s.bytes.length+s.text.length+s.dg.length:=by rw[szs];rfl
def tkT (s:B8):Sc:=⟨4,false,false,[],0,0,0,0,0,s,[]⟩
def tkB (b:Bool):Sc:=⟨1,b,false,[],0,0,0,0,0,[],[]⟩
def tkN (neg:Bool) (dg:B8) (ex:Int):Sc:=⟨2,false,neg,dg,ex,0,0,0,0,[],[]⟩
def tkM (k d n z:Int):Sc:=⟨3,false,false,[],0,k,d,n,z,[],[]⟩
theorem JY:AX []=0:=BG _ (by simp[ul])
theorem NU (l:B8) (m j:Nat):bt (l.take m) j=if j<m then bt l j else 0:=by
 unfold bt
 by_cases h:j<m
 ·rw[if_pos h];simp[List.getD,List.getElem?_take,h]
 ·rw[if_neg h];simp[List.getD,List.getElem?_take,h]
def Pa (n:Nat):Prop:=128<=n/\n<192
theorem Q4 (l:B8) (j:Nat) (h1:0<j) (h2:j<ul l):Pa (bt l j):=by
 have h:ul l≠0:=by omega
 have hne:l≠ []:=fun h0=>h (by simp[ul,h0])
 have hv:=Yo l h
 have h4:=(Vr l h).2.2.2
 unfold dN Lib.decodeN at hv
 have hz:=(Q3 l hne).2
 unfold Pa
 have hj:j=1∨j=2∨j=3:=by omega
 repeat' split at hv
 all_goals simp only[Prod.mk.injEq]at hv
 all_goals first
  | omega
  | (rcases hj with rfl | rfl | rfl<;>omega)
  | (exfalso;have:=ul_not l h;omega)
theorem Ms (l:B8) (m r0:Nat):∀j,j<m->Cn (l.take m) r0 j=Cn l r0 j
 | 0,_=>rfl
 | j+1,h=>by
  simp only[Cn]
  rw[Ms l m r0 j (by omega),NU,if_pos h]
theorem Vp {l:B8} {m:Nat} (h:ul l≠0) (hm:ul l<=m):ul (l.take m)=ul l/\ur (l.take m)=ur l:=by
 have hne:l≠ []:=fun h0=>h (by simp[ul,h0])
 have hle:=Jr l
 have hne2:l.take m≠ []:=by
  intro h0
  have:=congrArg List.length h0
  rw[List.length_take]at this
  simp only[List.length_nil]at this
  have:0<l.length:=List.length_pos_iff.2 hne
  omega
 have e1:=GC l hne
 have e2:=GC (l.take m) hne2
 rw[if_neg h]at e1
 have hs:=Re (bt l 0)
 unfold PJ at e1
 simp only at e1
 by_cases g1:l.length<rsz (bt l 0)
 ·rw[if_pos g1]at e1
  simp only[Prod.mk.injEq]at e1;omega
 rw[if_neg g1]at e1
 split at e1
 ·rename_i hc
  simp only[Prod.mk.injEq]at e1
  unfold PJ at e2
  simp only at e2
  rw[NU,if_pos (show 0<m by omega),Ms _ _ _ _ (by omega),if_neg (by rw[List.length_take];omega),List.take_take,Nat.min_eq_left (by omega),if_pos hc]at e2
  split at e2
  ·simp only[Prod.mk.injEq]at e2;omega
  ·simp only[Prod.mk.injEq]at e2;omega
 ·simp only[Prod.mk.injEq]at e1;omega
theorem UP (s:B8) (j k:Nat):(s.take k).drop j=(s.drop j).take (k-j):=List.drop_take ..
theorem Od {l:B8} {m:Nat} (h:ul (l.take m)≠0):ul l=ul (l.take m):=by
 have hne2:l.take m≠ []:=fun h0=>h (by simp[ul,h0])
 have hne:l≠ []:=by rintro rfl;simp at hne2
 have hm:0<m:=by rcases Nat.eq_zero_or_pos m with h0 | h0;(rw[h0]at hne2;simp at hne2);exact h0
 have e1:=GC l hne
 have e2:=GC (l.take m) hne2
 rw[if_neg h]at e2
 have hs:=Re (bt l 0)
 have hb:bt (l.take m) 0=bt l 0:=by rw[NU,if_pos hm]
 unfold PJ at e2
 simp only[hb]at e2
 split at e2
 ·simp only[Prod.mk.injEq]at e2;omega
 rename_i g1
 rw[List.length_take]at g1
 split at e2
 ·rename_i hc
  simp only[Prod.mk.injEq]at e2
  rw[Ms _ _ _ _ (by omega),List.take_take,Nat.min_eq_left (by omega)]at hc
  unfold PJ at e1
  simp only at e1
  rw[if_neg (by omega),if_pos hc]at e1
  split at e1
  ·simp only[Prod.mk.injEq]at e1;omega
  ·simp only[Prod.mk.injEq]at e1;omega
 ·simp only[Prod.mk.injEq]at e2;omega
theorem Sa:∀(n:Nat) (a b:B8),a.length<=n->AX a=a.length->AX (a++b)=a.length+AX b:=by
 intro n
 induction n with
 | zero=>intro a b h hv;have:a=[]:=List.eq_nil_of_length_eq_zero (by omega);subst this;simp
 | succ n ih=>
  intro a b h hv
  by_cases ha:a=[]
  ·subst ha;simp
  have hpos:0<a.length:=List.length_pos_iff.2 ha
  have h0:ul a≠0:=fun h0=>by rw[BG a h0]at hv;omega
  have hle:=Jr a
  have hu:ul (a++b)=ul a:=by
   have:=Od (l:=a++b) (m:=a.length) (by rw[List.take_left];exact h0)
   rw[List.take_left]at this;exact this
  rw[BH _ h0]at hv
  rw[BH _ (by rw[hu];exact h0),hu,List.drop_append_of_le_length hle,ih _ b (by rw[List.length_drop];omega) (by rw[List.length_drop];omega),List.length_drop]
  omega
theorem I9 {a b:B8} (ha:AX a=a.length) (hb:AX b=b.length):AX (a++b)=(a++b).length:=by
 rw[Sa _ a b (Nat.le_refl _) ha,List.length_append,hb]
theorem JZ {c:UInt8} {l:B8} (hc:c.toNat<128) (hl:AX l=l.length):AX (c::l)=(c::l).length:=by
 have h:=Oe (c::l) (by simp) hc
 rw[BH _ (by omega),h.1]
 simp only[List.drop_succ_cons,List.drop_zero,List.length_cons];omega
theorem EF:∀l:B8,(l.all fun c=>decide (c.toNat<128))=true->AX l=l.length
 | [],_=>JY
 | c::l,h=>by
  simp only[List.all_cons,Bool.and_eq_true,decide_eq_true_eq]at h
  exact JZ h.1 (EF l h.2)
theorem headDg {a b:B8} (ha:∀c,c∈a->AS c) (hne:a≠ []):AS ((a++b).getD 0 0):=by
 obtain⟨c,r,rfl⟩:=List.exists_cons_of_ne_nil hne
 exact ha c (by simp)
theorem not_isQ {a r:B8} {c:UInt8} (ha:∀d,d∈a->AS d) (hc:c=45∨c=58):¬isQ (a++c::r):=by
 rintro⟨_,_,h⟩
 have h0:(c::r).getD 0 0=c:=rfl
 have hn:¬AS c:=by rcases hc with rfl | rfl<;>decide
 rw[WN ha (by rw[h0];exact hn),List.drop_left]at h
 unfold isF at h
 rw[h0,if_neg (by rcases hc with rfl | rfl<;>decide)]at h
 unfold isE at h
 rw[h0]at h
 rcases h with h | ⟨h | h,_⟩
 ·cases h
 ·rcases hc with rfl | rfl<;>revert h<;>decide
 ·rcases hc with rfl | rfl<;>revert h<;>decide
theorem K6 (st:St):Ff St.zero st:=⟨Nat.zero_le _,fun i hi=>absurd hi (Nat.not_lt_zero _)⟩
def v64 (c:UInt8):Nat:=(fnd b64A c).toNat
def fin (k eq w:Nat) (pad:Bool) (o:B8):B8×Int:=
 if k%4=0/\eq=0 then(o,0)
 else if 0<eq/\(k%4<2∨4-k%4<eq∨w≠0)then([],3)
 else if k%4=1∨w≠0∨(pad=true/\eq<4-k%4)then([],4)
 else(o,0)
def isD (c:UInt8):Bool:=decide (0<=fnd b64A c)
def lead (s:B8):Nat:=(s.takeWhile isD).length
def nch (c:UInt8):Prop:=AS c∨c=45∨c=43∨c=46∨c=101
instance (c:UInt8):Decidable (nch c):=inferInstanceAs (Decidable (_∨_))
def tkF (t s:B8) (a:Nat) (b:Bool):Prop:=b=false/\(s.drop a).take t.length=t
instance (t s:B8) (a:Nat) (b:Bool):Decidable (tkF t s a b):=inferInstanceAs (Decidable (_/\_))
end Go.TVF
section
namespace Go.TVF
open Go.IntKind(i64 u8)
open Go Go.Proofs Go.ChangeShapes
section
variable {H:Type} {enc:TypeId×Value->H} {P:Program} {w:World} {base:Nat} {held:Bool}
def Op (enc:TypeId×Value->H) (P:Program) (w:World) (base:Nat) (held:Bool) (n c:Nat) (S:List TV->Prop) (e:TypeId):Prop:=
 P.cellsOf e=c/\∀vs x,DataW.trod enc P w base (fun _=>true) held n e vs=some x->∃tv,AJ (Ghost.start w) w tv vs/\tv.length=c/\S tv
theorem op_cell {n:Nat} {c:CTy} {e:TypeId} (h:R0 P c e) (hc:P.cellsOf e=1):Op enc P w base held n 1 (flatIs [c]) e:=⟨hc,fun vs x hd=>by
 obtain⟨v,u,rfl,hr,hf⟩:=MA (Ghost.start w) h hd
 exact⟨[v],.cons hr (.nil _ _),rfl,hf⟩⟩
def SlS (c:Nat) (S:List TV->Prop) (v:TV):Prop:=
 v= .nilSlice∨∃cks:List (List TV),v= .list c .non cks.length cks.flatten/\∀ck,ck∈cks->ck.length=c/\S ck
theorem op_slice {n c:Nat} {S:List TV->Prop} {t e:TypeId} (ht:P.underlying t=some (.slice e)) (ht1:P.cellsOf t=1) (hc1:1<=c) (hE:∀m,m<n->Op enc P w base held m c S e):
  Op enc P w base held n 1 (fun tv=>∃v,tv=[v]/\SlS c S v) t:=by
 refine⟨ht1,fun vs x h=>?_⟩
 rcases DataW.trod_slice ht h with⟨rfl,_⟩ | ⟨a,len,cap,elems,rest,m,rfl,rfl,rfl,hb,hl,hm,hel,hi,hsp,_⟩
 ·exact⟨[.nilSlice],.cons .nilSlice (.nil _ _),rfl,_,rfl,.inl rfl⟩
 ·obtain⟨hcE,hE⟩:=hE m (by omega)
  rw[hcE]at hi hsp
  by_cases hcap:cap=0
  ·subst hcap
   obtain rfl:len=0:=by omega
   exact⟨[.list c .non 0 []],.cons (.listE _ _ _ (fun id h=>by cases h)) (.nil _ _),rfl,_,rfl,.inr ⟨[],rfl,fun ck h=>by cases h⟩⟩
  ·obtain⟨b,o,spot⟩:=a
   have hspot:spot=none:=by
    have key:∀(i:Nat) (l:List (DataW H×List MemPlace)) (k:Nat),k<l.length->i=0->(w.cells? base ((⟨b,o,spot⟩:Addr).add (i*c)) c).bind (DataW.trod enc P w base (fun _=>true) held m e)=l[k]?->spot=none:=by
     intro i l k hk hi0 h
     subst hi0
     rw[List.getElem?_eq_getElem hk]at h
     obtain⟨vs,h1,_⟩:=Option.bind_eq_some_iff.1 h
     obtain⟨_,hvl,hvc⟩:=World.cells?_some h1
     have:=World.cell?_spot ((hvc 0 (by omega)).trans (List.getElem?_eq_getElem (show 0<vs.length by omega)))
     rw[Nat.zero_mul]at this
     exact this
    by_cases h0:0<len
    ·exact key 0 elems 0 (by omega) rfl (hi 0 h0)
    ·obtain⟨hr,hs⟩:=hsp rfl
     exact key _ rest 0 (by omega) (by omega) (hs 0 (by omega))
   subst hspot
   have each:∀i,i<len->∃tv vs,AJ (Ghost.start w) w tv vs/\tv.length=c/\S tv/\vs.length=c/\∀j,j<c->w.cell? ⟨b,o+(i*c+j),none⟩=some (vs.getD j Go.undef):=by
    intro i hil
    have h:=hi i hil
    rw[List.getElem?_eq_getElem (by omega)]at h
    obtain⟨vs,h1,h2⟩:=Option.bind_eq_some_iff.1 h
    obtain⟨tv,hr,htl,hf⟩:=hE vs _ h2
    obtain⟨_,hvl,hvc⟩:=World.cells?_some h1
    refine⟨tv,vs,hr,htl,hf,hvl,fun j hj=>?_⟩
    have:=hvc j (by omega)
    rw[Deep.add_add,Pi]at this
    rw[this]
    simp[List.getD,show j<vs.length by omega]
   have build:∀k,k<=len->∃cks:List (List TV),cks.length=k/\(∀ck,ck∈cks->ck.length=c/\S ck)/\cks.flatten.length=k*c/\∀i (h:i<cks.flatten.length),∃u,w.cell? ⟨b,o+i,none⟩=some u/\Rel (Ghost.start w) w cks.flatten[i] u:=by
    intro k
    induction k with
    | zero=>intro _;exact⟨[],rfl,(fun ck h=>by cases h),by simp,fun i h=>absurd h (Nat.not_lt_zero _)⟩
    | succ k ih=>
     intro hk
     obtain⟨cks,h0,h1,h2,h3⟩:=ih (by omega)
     obtain⟨tv,vs,hr,htl,hf,hvl,hvc⟩:=each k (by omega)
     have hfl:(cks++[tv]).flatten=cks.flatten++tv:=by simp
     refine⟨cks++[tv],by simp[h0],fun ck h=>?_,by rw[hfl,List.length_append,h2,htl,Nat.succ_mul],fun i h=>?_⟩
     ·rcases List.mem_append.1 h with h | h
      ·exact h1 ck h
      ·rw[List.mem_singleton.1 h];exact⟨htl,hf⟩
     ·simp only[hfl]at h⊢
      by_cases hix:i<cks.flatten.length
      ·rw[List.getElem_append_left hix];exact h3 i hix
      ·rw[List.getElem_append_right (by omega)]
       rw[List.length_append]at h
       have hj:i-cks.flatten.length<tv.length:=by omega
       refine⟨vs.getD (i-cks.flatten.length) Go.undef,?_,hr.2 _ hj⟩
       have:=hvc (i-cks.flatten.length) (by omega)
       rw[show o+i=o+(k*c+(i-cks.flatten.length)) by rw[<-h2];omega]
       exact this
   obtain⟨cks,h0,h1,h2,h3⟩:=build len (Nat.le_refl _)
   refine⟨[.list c .non cks.length cks.flatten],.cons ?_ (.nil _ _),rfl,_,rfl,.inr ⟨cks,rfl,h1⟩⟩
   have hu:∀i,∃u,(h:i<cks.flatten.length)->w.cell? ⟨b,o+i,none⟩=some u/\Rel (Ghost.start w) w cks.flatten[i] u:=fun i=>by
    by_cases h:i<cks.flatten.length
    ·obtain⟨u,hu⟩:=h3 i h
     exact⟨u,fun _=>hu⟩
    ·exact⟨Go.undef,fun h'=>absurd h' h⟩
   rw[h0]
   refine .list _ _ _ _ b o cap (fun i=>Classical.choose (hu i)) h2 hl (fun i hi=>?_) (fun i hi=>(Classical.choose_spec (hu i) hi).2) trivial
   have:=(Classical.choose_spec (hu i) hi).1
   exact⟨⟨rfl,_,this⟩,this⟩
def Pn (enc:TypeId×Value->H) (P:Program) (w:World) (base:Nat) (held:Bool) (n:Nat):List (List TV->Prop)->List Field->Nat->Prop
 | [],[],_=>True
 | S::Ss,f::fs,o=>f.offset=o/\Op enc P w base held n 1 S f.type/\Pn enc P w base held n Ss fs (o+1)
 | _,_,_=>False
def Po:List (List TV->Prop)->List TV->Prop
 | [],xs=>xs=[]
 | S::Ss,xs=>∃x ys,xs=x::ys/\S [x]/\Po Ss ys
theorem Qg {n:Nat} {vs:List Value}:∀(Ss:List (List TV->Prop)) (fs:List Field) (o:Nat) (xs:List (DataW H×List MemPlace)),Pn enc P w base held n Ss fs o->xs.length=fs.length->vs.length=o+Ss.length->
  (∀(i:Nat) (f:Field),fs[i]? =some f->DataW.trod enc P w base (fun _=>true) held n f.type ((vs.drop f.offset).take (P.cellsOf f.type))=xs[i]?)->∃tv,AJ (Ghost.start w) w tv (vs.drop o)/\tv.length=Ss.length/\Po Ss tv
 | [],[],o,xs,_,_,hl,_=>⟨[],by rw[List.drop_of_length_le (by simp at hl;omega)];exact .nil _ _,rfl,rfl⟩
 | S::Ss,f::fs,o,[],_,hx,_,_=>by simp at hx
 | S::Ss,f::fs,o,x::xs,ht,hx,hl,hd=>by
  obtain⟨h1,⟨h2,h3⟩,h4⟩:=ht
  have hd0:=hd 0 f rfl
  rw[h1,h2]at hd0
  obtain⟨tv0,hr,htl,hf⟩:=h3 _ _ hd0
  obtain⟨v,rfl⟩:=List.length_eq_one_iff.1 htl
  obtain⟨tv,hr',hl',hf'⟩:=Qg (n:=n) (vs:=vs) Ss fs (o+1) xs h4 (by simpa using hx) (by simp at hl;omega) (fun i f' hi=>by simpa using hd (i+1) f' (by simpa using hi))
  refine⟨v::tv,?_,by simp[hl'],v,tv,rfl,hf,hf'⟩
  have hlt:o<vs.length:=by simp at hl;omega
  rw[List.drop_eq_getElem_cons hlt]
  rw[List.drop_eq_getElem_cons hlt]at hr
  simp only[List.take_succ_cons,List.take_zero]at hr
  exact .cons (hr.2 0 (by simp)) hr'
 | [],f::fs,o,xs,ht,_,_,_=>ht.elim
 | S::Ss,[],o,xs,ht,_,_,_=>ht.elim
theorem op_struct {n c:Nat} {Ss:List (List TV->Prop)} {e:TypeId} {fs:Array Field} (ht:P.underlying e=some (.struct fs)) (hc:P.cellsOf e=c) (hl:Ss.length=c) (hf:∀m,m<n->Pn enc P w base held m Ss fs.toList 0):
  Op enc P w base held n c (Po Ss) e:=⟨hc,fun vs x hd=>by
 obtain⟨xs,m,rfl,_,hvl,hx,hi⟩:=DataW.trod_struct ht hd
 obtain⟨tv,h1,h2,h3⟩:=Qg (enc:=enc) (P:=P) (w:=w) (base:=base) (held:=held) (n:=m) (vs:=vs) Ss fs.toList 0 xs (hf m (by omega)) (by simpa using hx) (by omega) (fun i f h=>hi i f (by simpa using h))
 exact⟨tv,by simpa using h1,by omega,h3⟩⟩
end
end Go.TVF
end
section
namespace Go.TVF
open Go.IntKind(i64 u8)
open Go Go.Proofs Go.ChangeShapes
structure Blk {H:Type} (bk:DataW H->Nat):Prop where
 one:∀d,1<=bk d
 str:∀b,b.length+1<=bk (.lit (.string b))
 sl:∀e s,(e.map bk).sum+1<=bk (.slice e s)
 agg:∀p,(p.map bk).sum+1<=bk (.agg p)
section
variable {H:Type} {enc:TypeId×Value->H} {P:Program} {w:World} {base:Nat} {held:Bool} {bk:DataW H->Nat}
def OpQ (bk:DataW H->Nat) (enc:TypeId×Value->H) (P:Program) (w:World) (base:Nat) (held:Bool) (n c:Nat) (S:Nat->List TV->Prop) (e:TypeId):Prop:=
 P.cellsOf e=c/\∀vs x,DataW.trod enc P w base (fun _=>true) held n e vs=some x->∃tv,AJ (Ghost.start w) w tv vs/\tv.length=c/\S (bk x.1) tv
def cellQ (c:CTy) (k:Nat) (tv:List TV):Prop:=flatIs [c] tv/\1<=k
def strQ (k:Nat) (tv:List TV):Prop:=∃l:B8,tv=[.str l]/\l.length<=maxLen/\l.length+1<=k
theorem opq_cell {n:Nat} {c:CTy} {e:TypeId} (hb:Blk bk) (h:R0 P c e) (hc:P.cellsOf e=1):OpQ bk enc P w base held n 1 (cellQ c) e:=⟨hc,fun vs x hd=>by
 obtain⟨v,u,rfl,hr,hf⟩:=MA (Ghost.start w) h hd
 exact⟨[v],.cons hr (.nil _ _),rfl,hf,hb.one _⟩⟩
theorem opq_str {n:Nat} {e:TypeId} (hb:Blk bk) (h:P.underlying e=some .string) (hc:P.cellsOf e=1):OpQ bk enc P w base held n 1 strQ e:=⟨hc,fun vs x hd=>by
 obtain⟨s,rfl,rfl,hs⟩:=DataW.trod_string h hd
 exact⟨[_],.cons (Ow (Ghost.start w) w s) (.nil _ _),rfl,_,rfl,by rw[Array.length_toList];exact hs,hb.str _⟩⟩
def SlQ (c:Nat) (S:Nat->List TV->Prop) (k:Nat) (v:TV):Prop:=
 v= .nilSlice∨∃ps:List (List TV×Nat),v= .list c .non ps.length (ps.map (·.1)).flatten/\(∀p,p∈ps->p.1.length=c/\S p.2 p.1)/\(ps.map (·.2)).sum+1<=k
theorem opq_slice {n c:Nat} {S:Nat->List TV->Prop} {t e:TypeId} (hb:Blk bk) (ht:P.underlying t=some (.slice e)) (ht1:P.cellsOf t=1) (hc1:1<=c) (hE:∀m,m<n->OpQ bk enc P w base held m c S e):
  OpQ bk enc P w base held n 1 (fun k tv=>∃v,tv=[v]/\SlQ c S k v) t:=by
 refine⟨ht1,fun vs x h=>?_⟩
 rcases DataW.trod_slice ht h with⟨rfl,_⟩ | ⟨a,len,cap,elems,rest,m,rfl,rfl,rfl,hbk,hl,hm,hel,hi,hsp,_⟩
 ·exact⟨[.nilSlice],.cons .nilSlice (.nil _ _),rfl,_,rfl,.inl rfl⟩
 ·obtain⟨hcE,hE⟩:=hE m (by omega)
  rw[hcE]at hi hsp
  have hbs:=hb.sl (elems.map (·.1)) (rest.map (·.1))
  rw[List.map_map]at hbs
  by_cases hcap:cap=0
  ·subst hcap
   obtain rfl:len=0:=by omega
   exact⟨[.list c .non 0 []],.cons (.listE _ _ _ (fun id h=>by cases h)) (.nil _ _),rfl,_,rfl,.inr ⟨[],rfl,(fun ck h=>by cases h),by simp only[List.map_nil,List.sum_nil];omega⟩⟩
  ·obtain⟨b,o,spot⟩:=a
   have hspot:spot=none:=by
    have key:∀(i:Nat) (l:List (DataW H×List MemPlace)) (k:Nat),k<l.length->i=0->(w.cells? base ((⟨b,o,spot⟩:Addr).add (i*c)) c).bind (DataW.trod enc P w base (fun _=>true) held m e)=l[k]?->spot=none:=by
     intro i l k hk hi0 h
     subst hi0
     rw[List.getElem?_eq_getElem hk]at h
     obtain⟨vs,h1,_⟩:=Option.bind_eq_some_iff.1 h
     obtain⟨_,hvl,hvc⟩:=World.cells?_some h1
     have:=World.cell?_spot ((hvc 0 (by omega)).trans (List.getElem?_eq_getElem (show 0<vs.length by omega)))
     rw[Nat.zero_mul]at this
     exact this
    by_cases h0:0<len
    ·exact key 0 elems 0 (by omega) rfl (hi 0 h0)
    ·obtain⟨hr,hs⟩:=hsp rfl
     exact key _ rest 0 (by omega) (by omega) (hs 0 (by omega))
   subst hspot
   have each:∀i (hil:i<len),∃tv vs,AJ (Ghost.start w) w tv vs/\tv.length=c/\S (bk (elems[i]'(by omega)).1) tv/\vs.length=c/\∀j,j<c->w.cell? ⟨b,o+(i*c+j),none⟩=some (vs.getD j Go.undef):=by
    intro i hil
    have h:=hi i hil
    rw[List.getElem?_eq_getElem (by omega)]at h
    obtain⟨vs,h1,h2⟩:=Option.bind_eq_some_iff.1 h
    obtain⟨tv,hr,htl,hf⟩:=hE vs _ h2
    obtain⟨_,hvl,hvc⟩:=World.cells?_some h1
    refine⟨tv,vs,hr,htl,hf,hvl,fun j hj=>?_⟩
    have:=hvc j (by omega)
    rw[Deep.add_add,Pi]at this
    rw[this]
    simp[List.getD,show j<vs.length by omega]
   have build:∀k,k<=len->∃ps:List (List TV×Nat),ps.length=k/\(∀p,p∈ps->p.1.length=c/\S p.2 p.1)/\ps.map (·.2)=(elems.take k).map (fun y=>bk y.1)/\(ps.map (·.1)).flatten.length=k*c/\∀i (h:i<(ps.map (·.1)).flatten.length),∃u,w.cell? ⟨b,o+i,none⟩=some u/\Rel (Ghost.start w) w (ps.map (·.1)).flatten[i] u:=by
    intro k
    induction k with
    | zero=>intro _;exact⟨[],rfl,(fun ck h=>by cases h),by simp,by simp,fun i h=>absurd h (Nat.not_lt_zero _)⟩
    | succ k ih=>
     intro hk
     obtain⟨ps,h0,h1,hm1,h2,h3⟩:=ih (by omega)
     obtain⟨tv,vs,hr,htl,hf,hvl,hvc⟩:=each k (by omega)
     have hfl:((ps++[(tv,bk (elems[k]'(by omega)).1)]).map (·.1)).flatten=(ps.map (·.1)).flatten++tv:=by simp
     refine⟨ps++[(tv,bk (elems[k]'(by omega)).1)],by simp[h0],fun p h=>?_,?_,by rw[hfl,List.length_append,h2,htl,Nat.succ_mul],fun i h=>?_⟩
     ·rcases List.mem_append.1 h with h | h
      ·exact h1 p h
      ·rw[List.mem_singleton.1 h];exact⟨htl,hf⟩
     ·rw[List.map_append,hm1,List.take_succ_eq_append_getElem (by omega),List.map_append];rfl
     ·simp only[hfl]at h⊢
      by_cases hix:i<(ps.map (·.1)).flatten.length
      ·rw[List.getElem_append_left hix];exact h3 i hix
      ·rw[List.getElem_append_right (by omega)]
       rw[List.length_append]at h
       have hj:i-(ps.map (·.1)).flatten.length<tv.length:=by omega
       refine⟨vs.getD (i-(ps.map (·.1)).flatten.length) Go.undef,?_,hr.2 _ hj⟩
       have:=hvc (i-(ps.map (·.1)).flatten.length) (by omega)
       rw[show o+i=o+(k*c+(i-(ps.map (·.1)).flatten.length)) by rw[<-h2];omega]
       exact this
   obtain⟨ps,h0,h1,hm1,h2,h3⟩:=build len (Nat.le_refl _)
   refine⟨[.list c .non ps.length (ps.map (·.1)).flatten],.cons ?_ (.nil _ _),rfl,_,rfl,.inr ⟨ps,rfl,h1,?_⟩⟩
   ·have hu:∀i,∃u,(h:i<(ps.map (·.1)).flatten.length)->w.cell? ⟨b,o+i,none⟩=some u/\Rel (Ghost.start w) w (ps.map (·.1)).flatten[i] u:=fun i=>by
     by_cases h:i<(ps.map (·.1)).flatten.length
     ·obtain⟨u,hu⟩:=h3 i h
      exact⟨u,fun _=>hu⟩
     ·exact⟨Go.undef,fun h'=>absurd h' h⟩
    rw[h0]
    refine .list _ _ _ _ b o cap (fun i=>Classical.choose (hu i)) h2 hl (fun i hi=>?_) (fun i hi=>(Classical.choose_spec (hu i) hi).2) trivial
    have:=(Classical.choose_spec (hu i) hi).1
    exact⟨⟨rfl,_,this⟩,this⟩
   ·rw[hm1,List.take_of_length_le (by omega)]
    exact hbs
def RX (bk:DataW H->Nat) (enc:TypeId×Value->H) (P:Program) (w:World) (base:Nat) (held:Bool) (n:Nat):List (Nat×(Nat->List TV->Prop))->List Field->Nat->Prop
 | [],[],_=>True
 | S::Ss,f::fs,o=>f.offset=o/\OpQ bk enc P w base held n S.1 S.2 f.type/\RX bk enc P w base held n Ss fs (o+S.1)
 | _,_,_=>False
def V3:List (Nat×(Nat->List TV->Prop))->Nat->List TV->Prop
 | [],_,xs=>xs=[]
 | S::Ss,k,xs=>∃a b k1 k2,xs=a++b/\a.length=S.1/\S.2 k1 a/\V3 Ss k2 b/\k1+k2<=k
def Sl:List (Nat×(Nat->List TV->Prop))->Nat
 | []=>0
 | S::Ss=>S.1+Sl Ss
theorem OH {n:Nat} {vs:List Value}:∀(Ss:List (Nat×(Nat->List TV->Prop))) (fs:List Field) (o:Nat) (xs:List (DataW H×List MemPlace)),RX bk enc P w base held n Ss fs o->xs.length=fs.length->vs.length=o+Sl Ss->
  (∀(i:Nat) (f:Field),fs[i]? =some f->DataW.trod enc P w base (fun _=>true) held n f.type ((vs.drop f.offset).take (P.cellsOf f.type))=xs[i]?)->∃tv,AJ (Ghost.start w) w tv (vs.drop o)/\tv.length=Sl Ss/\V3 Ss (xs.map (fun y=>bk y.1)).sum tv
 | [],[],o,xs,_,_,hl,_=>⟨[],by rw[List.drop_of_length_le (by simp[Sl]at hl;omega)];exact .nil _ _,rfl,rfl⟩
 | S::Ss,f::fs,o,[],_,hx,_,_=>by simp at hx
 | S::Ss,f::fs,o,x::xs,ht,hx,hl,hd=>by
  obtain⟨h1,⟨h2,h3⟩,h4⟩:=ht
  have hd0:=hd 0 f rfl
  rw[h1,h2]at hd0
  obtain⟨tv0,hr,htl,hf⟩:=h3 _ _ hd0
  obtain⟨tv,hr',hl',hf'⟩:=OH (n:=n) (vs:=vs) Ss fs (o+S.1) xs h4 (by simpa using hx) (by simp only[Sl]at hl;omega) (fun i f' hi=>by simpa using hd (i+1) f' (by simpa using hi))
  refine⟨tv0++tv,?_,by simp[hl',htl,Sl],tv0,tv,_,_,rfl,htl,hf,hf',by simp only[List.map_cons,List.sum_cons];exact Nat.le_refl _⟩
  have hlt:o+S.1<=vs.length:=by simp only[Sl]at hl;omega
  have e:vs.drop o=(vs.drop o).take S.1++vs.drop (o+S.1):=by rw[<-List.drop_drop,List.take_append_drop]
  rw[e]
  exact AJ.append hr hr'
 | [],f::fs,o,xs,ht,_,_,_=>ht.elim
 | S::Ss,[],o,xs,ht,_,_,_=>ht.elim
theorem opq_struct {n c:Nat} {Ss:List (Nat×(Nat->List TV->Prop))} {e:TypeId} {fs:Array Field} (hb:Blk bk) (ht:P.underlying e=some (.struct fs)) (hc:P.cellsOf e=c) (hl:Sl Ss=c) (hf:∀m,m<n->RX bk enc P w base held m Ss fs.toList 0):
  OpQ bk enc P w base held n c (fun k tv=>∃k',k'+1<=k/\V3 Ss k' tv) e:=⟨hc,fun vs x hd=>by
 obtain⟨xs,m,rfl,rfl,hvl,hx,hi⟩:=DataW.trod_struct ht hd
 obtain⟨tv,h1,h2,h3⟩:=OH (bk:=bk) (enc:=enc) (P:=P) (w:=w) (base:=base) (held:=held) (n:=m) (vs:=vs) Ss fs.toList 0 xs (hf m (by omega)) (by simpa using hx) (by omega) (fun i f h=>hi i f (by simpa using h))
 refine⟨tv,by simpa using h1,by omega,_,?_,h3⟩
 have:=hb.agg (xs.map (·.1))
 rw[List.map_map]at this
 exact this⟩
end
end Go.TVF
end
