/- What the laws below rest on: a framework for Go programs, and contracts of the functions that they reach. -/
import Derived.Test.YtpfhcnpnngjpnaaGreatDoorHaE
import Derived.WideShapes
import Derived.Shelf.Strings.Builder2
import Derived.Shelf.Strings.Replace
import Derived.Test.YtpfhcnpnngjpnaaGreatDoorProg
set_option maxRecDepth 20000
set_option linter.unusedVariables false
set_option linter.unusedSimpArgs false
namespace Go.TVF
open Go.IntKind(i64 u8)
open Go Go.Proofs
def G7 (form s:B8):Prop:=form.length<=s.length/\∀i,i<form.length->if form.getD i 0=100 then A2 (s.getD i 0)else s.getD i 0=form.getD i 0
instance (form s:B8):Decidable (G7 form s):=inferInstanceAs (Decidable (_/\_))
theorem KS {s form:B8} (hl:s.length<=100000000) {st:St} {K:Bool->St->Prop} (hk:K (decide (G7 form s)) st):Ad PR Bm [.str s,.str form] [.one .bool] st K:=by
 have no:¬G7 form s->K false st:=fun h=>by rw[decide_eq_false h]at hk;exact hk
 refine IF s form st K (Aa (fun g=>no fun h=>by have:=h.1;omega) fun g=>?_)
 refine⟨fun i s' f' st'=>s=s'/\form=f'/\st=st'/\∃k:Nat,i=k/\k<=form.length/\∀j,j<k->if form.getD j 0=100 then A2 (s.getD j 0)else s.getD j 0=form.getD j 0,fun i _ _ _=>(form.length-i).toNat,⟨rfl,rfl,rfl,0,rfl,Nat.zero_le _,fun j h=>absurd h (Nat.not_lt_zero _)⟩,?_⟩
 rintro _ _ _ _ ⟨rfl,rfl,rfl,k,rfl,hk1,hd⟩
 rw[Int.toNat_natCast,Al _ (by omega) (by omega)]
 have next:(if form.getD k 0=100 then A2 (s.getD k 0)else s.getD k 0=form.getD k 0)->∀j,j<k+1->if form.getD j 0=100 then A2 (s.getD j 0)else s.getD j 0=form.getD j 0:=fun h j hj=>by
  by_cases hjk:j=k
  ·subst hjk;exact h
  ·exact hd j (by omega)
 have nxt:= @next
 refine Aa (fun g1=>⟨⟨by omega,g1⟩,Aa (fun g2=>⟨⟨by omega,by omega⟩,Aa (fun g3=>no fun h=>?_) fun g3=>⟨⟨by omega,by omega⟩,Aa (fun g4=>no fun h=>?_) fun g4=>⟨⟨by omega,g1⟩,Aa (fun g5=>absurd g2 g5) fun _=>⟨⟨rfl,rfl,rfl,k+1,by omega,by omega,nxt ?_⟩,by dsimp only;omega⟩⟩⟩⟩) fun g2=>⟨⟨by omega,g1⟩,Aa (fun g5=>⟨⟨by omega,by omega⟩,⟨by omega,g1⟩,Aa (fun g6=>no fun h=>?_) fun g6=>⟨⟨rfl,rfl,rfl,k+1,by omega,by omega,nxt ?_⟩,by dsimp only;omega⟩⟩) fun g5=>absurd g2 g5⟩⟩) fun g1=>?_
 ·have:=h.2 k (by omega)
  rw[if_pos ((u8i (k:=100)).1 g2)]at this
  have:=this.1;omega
 ·have:=h.2 k (by omega)
  rw[if_pos ((u8i (k:=100)).1 g2)]at this
  have:=this.2;omega
 ·rw[if_pos ((u8i (k:=100)).1 g2)]
  exact⟨by omega,by omega⟩
 ·have:=h.2 k (by omega)
  rw[if_neg fun e=>g2 ((u8i (k:=100)).2 e)]at this
  exact g6 (by rw[this])
 ·rw[if_neg fun e=>g2 ((u8i (k:=100)).2 e)]
  exact UInt8.toNat_inj.1 (Int.ofNat.inj (Decidable.not_not.1 g6))
 ·have:G7 form s:=⟨by omega,fun i hi=>hd i (by omega)⟩
  rw[decide_eq_true this]at hk;exact hk
theorem like_C (s:B8):G7 [100,100,58,100,100,58,100,100] s↔IY s:=by
 constructor
 ·intro h
  exact⟨⟨h.2 0 (by decide),h.2 1 (by decide)⟩,h.2 2 (by decide),⟨h.2 3 (by decide),h.2 4 (by decide)⟩,h.2 5 (by decide),⟨h.2 6 (by decide),h.2 7 (by decide)⟩⟩
 ·rintro⟨⟨h0,h1⟩,h2,⟨h3,h4⟩,h5,⟨h6,h7⟩⟩
  have hl:=Oz h7
  refine⟨hl,fun i hi=>?_⟩
  rcases (by simp at hi;omega:i=0∨i=1∨i=2∨i=3∨i=4∨i=5∨i=6∨i=7)with rfl | rfl | rfl | rfl | rfl | rfl | rfl | rfl
  ·exact h0
  ·exact h1
  ·exact h2
  ·exact h3
  ·exact h4
  ·exact h5
  ·exact h6
  ·exact h7
theorem like_D (s:B8):G7 [100,100,100,100,45,100,100,45,100,100] s↔DU s:=by
 constructor
 ·intro h
  exact⟨⟨h.2 0 (by decide),h.2 1 (by decide)⟩,⟨h.2 2 (by decide),h.2 3 (by decide)⟩,h.2 4 (by decide),⟨h.2 5 (by decide),h.2 6 (by decide)⟩,h.2 7 (by decide),⟨h.2 8 (by decide),h.2 9 (by decide)⟩⟩
 ·rintro⟨⟨h0,h1⟩,⟨h2,h3⟩,h4,⟨h5,h6⟩,h7,⟨h8,h9⟩⟩
  have hl:=Oz h9
  refine⟨hl,fun i hi=>?_⟩
  rcases (by simp at hi;omega:i=0∨i=1∨i=2∨i=3∨i=4∨i=5∨i=6∨i=7∨i=8∨i=9)with rfl | rfl | rfl | rfl | rfl | rfl | rfl | rfl | rfl | rfl
  ·exact h0
  ·exact h1
  ·exact h2
  ·exact h3
  ·exact h4
  ·exact h5
  ·exact h6
  ·exact h7
  ·exact h8
  ·exact h9
theorem WZ (s:B8) (c:UInt8) (hc:c≠100) (hl:s.length=6):G7 [c,100,100,58,100,100] s↔(b0 s 0=c/\dd s 1/\b0 s 3=58/\dd s 4):=by
 constructor
 ·intro h
  have h0:=h.2 0 (by simp)
  rw[show([c,100,100,58,100,100]:B8).getD 0 0=c from rfl,if_neg hc]at h0
  exact⟨h0,⟨h.2 1 (by simp),h.2 2 (by simp)⟩,h.2 3 (by simp),⟨h.2 4 (by simp),h.2 5 (by simp)⟩⟩
 ·rintro⟨h0,⟨h1,h2⟩,h3,⟨h4,h5⟩⟩
  refine⟨by rw[hl];simp,fun i hi=>?_⟩
  rcases (by simp at hi;omega:i=0∨i=1∨i=2∨i=3∨i=4∨i=5)with rfl | rfl | rfl | rfl | rfl | rfl
  ·rw[show([c,100,100,58,100,100]:B8).getD 0 0=c from rfl,if_neg hc];exact h0
  ·exact h1
  ·exact h2
  ·exact h3
  ·exact h4
  ·exact h5
theorem Ep {l:B8} (hl:l.length<=18) (hd:∀c,c∈l->A2 c) {N:Nat} (hN:N=BM l) {st:St} {K:Int->St->Prop} (hk:K (N:Nat) st):Ad PR At [.str l] [.one (.int .i64)] st K:=by
 subst hN
 refine Hn l st K ⟨fun n i l' st'=>l=l'/\st=st'/\∃k:Nat,i=k/\k<=l.length/\n=(BM (l.take k):Nat),fun _ i _ _=>(l.length-i).toNat,⟨rfl,rfl,0,rfl,Nat.zero_le _,rfl⟩,?_⟩
 rintro _ _ _ _ ⟨rfl,rfl,k,rfl,hkl,rfl⟩
 rw[Int.toNat_natCast]
 refine Aa (fun g=>⟨⟨by omega,g⟩,?_⟩) fun g=>?_
 ·have hk':k<l.length:=by omega
  have hv:=Hu hd hl k hk'
  have hs:=G0 hk'
  obtain⟨c1,c2⟩:=hd _ (F6 hk')
  rw[Nf _ (by omega) (by omega),Al (_*10) (by omega) (by omega),Al (((l.getD k 0).toNat:Int)-48) (by omega) (by omega),Al (_+_) (by omega) (by omega),Al _ (by omega) (by omega)]
  exact⟨⟨rfl,rfl,k+1,by omega,by omega,by rw[hs];omega⟩,by dsimp only;omega⟩
 ·have:k=l.length:=by omega
  subst this
  rw[List.take_length];exact hk
theorem Kb {s:B8} {k m:Nat} (hm:k+2=m) (h:dd s k):((s.take m).drop k).length<=18/\(∀c,c∈(s.take m).drop k->A2 c)/\d2 s k=BM ((s.take m).drop k):=by
 have e:(s.take m).drop k=(s.drop k).take 2:=by rw[List.drop_take];congr 1;omega
 have f:JB 2 (s.drop k):=(numF2 _).2 ((UZ s k 0).2 h)
 rw[e]
 refine⟨by rw[List.length_take];omega,fun c hc=>?_,by rw[val2 f,Vb];rfl⟩
 obtain⟨i,hi⟩:=List.getElem?_of_mem hc
 have hl:=(List.getElem?_eq_some_iff.1 hi).1
 rw[List.length_take]at hl
 rw[List.getElem?_take,if_pos (by omega)]at hi
 have:=f.2 i (by omega)
 rwa [List.getD,hi]at this
theorem Li {s:B8} {k:Nat} (h:dd s k):d2 s k<100:=by
 obtain⟨⟨h1,h2⟩,h3,h4⟩:=h
 unfold d2 dv
 omega
def KCl (K:Int->B8->Bool->Bool->St->Prop) (r:Option (Nat×Nat×Nat×Nat×B8)) (st:St):Prop:=match r with
 | none=>K 0 [] false false st
 | some (h,m,sc,f,r)=>K (Fl h m sc f:Nat) r true (decide (okC h m sc)) st
theorem Xe {f:B8} (hd:∀c,c∈f->A2 c) (hl:f.length<=9):NV f<1000000000:=by
 unfold NV
 have:=Ji (f++List.replicate (9-f.length) 48) fun c hc=>by
  rcases List.mem_append.1 hc with hc | hc
  ·exact hd c hc
  ·rw[List.eq_of_mem_replicate hc];decide
 rw[List.length_append,List.length_replicate,show f.length+(9-f.length)=9 by omega]at this
 exact this
theorem Wy {s:B8} (hl:s.length<=1000000) {st:St} {K:Int->B8->Bool->Bool->St->Prop} (hk:KCl K (Gf s) st):Ad PR AT [.str s] [.one (.int .i64),.one .str,.one .bool,.one .bool] st K:=by
 refine Gm s st K (KS (by omega) ?_)
 show BIf (!decide (G7 [100,100,58,100,100,58,100,100] s)) _ _
 rw[decide_eq_decide.2 (like_C s)]
 unfold Gf at hk
 by_cases fc:IY s
 ·rw[if_pos fc]at hk
  rw[decide_eq_true fc]
  refine Ar (fun h=>by cases h) fun _=>?_
  have hlen:=Oz fc.2.2.2.2.2
  obtain⟨n1,n2,n3⟩:=Kb (k:=0) (m:=2) rfl fc.1
  obtain⟨m1,m2,m3⟩:=Kb (k:=3) (m:=5) rfl fc.2.2.1
  obtain⟨p1,p2,p3⟩:=Kb (k:=6) (m:=8) rfl fc.2.2.2.2
  rw[List.drop_zero]at n1 n2 n3
  have a1:=Li fc.1
  have a2:=Li fc.2.2.1
  have a3:=Li fc.2.2.2.2
  refine⟨⟨by omega,by omega⟩,⟨by omega,by omega,by omega⟩,⟨by omega,by omega,by omega⟩,Ep n1 n2 n3 (Ep m1 m2 m3 (Ep p1 p2 p3 ⟨⟨by omega,by omega⟩,?_⟩))⟩
  rw[show Int.toNat (8:Int)=8 from rfl,show Int.toNat (0:Int)=0 from rfl]
  generalize d2 s 0=h at*
  generalize d2 s 3=m at*
  generalize d2 s 6=sc at*
  clear n1 n2 n3 m1 m2 m3 p1 p2 p3
  --what is returned
  have ret:∀(f:Nat) (r:B8),f<1000000000->K (Fl h m sc f:Nat) r true (decide (okC h m sc)) st->BIf (decide (((h:Nat):Int)<=23)) (BIf (decide (((m:Nat):Int)<=59)) (K (i64.wrap ((i64.wrap ((i64.wrap ((i64.wrap ((i64.wrap ((i64.wrap (((h:Nat):Int)*60))+((m:Nat):Int)))*60))+((sc:Nat):Int)))*1000000000))+((f:Nat):Int))) r true (decide (((sc:Nat):Int)<=59)) st) (K (i64.wrap ((i64.wrap ((i64.wrap ((i64.wrap ((i64.wrap ((i64.wrap (((h:Nat):Int)*60))+((m:Nat):Int)))*60))+((sc:Nat):Int)))*1000000000))+((f:Nat):Int))) r true false st)) (K (i64.wrap ((i64.wrap ((i64.wrap ((i64.wrap ((i64.wrap ((i64.wrap (((h:Nat):Int)*60))+((m:Nat):Int)))*60))+((sc:Nat):Int)))*1000000000))+((f:Nat):Int))) r true false st):=fun f r hf hk'=>by
   rw[Tt a1 a2 a3 hf]
   refine Aa (fun g1=>Aa (fun g2=>?_) fun g2=>?_) fun g1=>?_
   ·have:decide (okC h m sc)=decide (((sc:Nat):Int)<=59):=decide_eq_decide.2 ⟨fun k=>by have:=k.2.2;omega,fun k=>⟨by omega,by omega,by omega⟩⟩
    rw[this]at hk';exact hk'
   ·rw[decide_eq_false fun k:okC h m sc=>by have:=k.2.1;omega]at hk';exact hk'
   ·rw[decide_eq_false fun k:okC h m sc=>by have:=k.1;omega]at hk';exact hk'
  have h8:(s.drop 8).getD 0 0=b0 s 8:=by rw[show(s.drop 8).getD 0 0=b0 (s.drop 8) 0 from rfl,FH]
  rw[h8]
  have plain:b0 s 8≠46->K (Fl h m sc 0:Nat) (s.drop 8) true (decide (okC h m sc)) st:=fun h=>by rw[if_neg h]at hk;exact hk
  refine Aa (fun g=>⟨⟨by omega,g⟩,Aa (fun g1=>?_) fun g1=>ret 0 _ (by decide) (plain fun e=>g1 ((u8i (k:=46)).2 e))⟩) fun g=>ret 0 _ (by decide) (plain fun e=>?_)
  ·have g46:=(u8i (k:=46)).1 g1
   rw[if_pos g46]at hk
   have hd9:s.drop 9=(s.drop 8).drop 1:=by rw[List.drop_drop]
   rw[hd9]at hk
   have hl8:(s.drop 8).length<=1000000:=by rw[List.length_drop];omega
   have hfin:∀n,s.drop (9+n)=(s.drop 8).drop (1+n):=fun n=>by rw[List.drop_drop];congr 1;omega
   rw[hfin]at hk
   have hpos:0<(s.drop 8).length:=by omega
   generalize s.drop 8=t at*
   clear hfin hd9
   have hrl:=CE (t.drop 1)
   rw[List.length_drop]at hrl
   have hrd:=Ga (t.drop 1)
   refine⟨fun n t' h' m' sc' st'=>t=t'/\((h:Nat):Int)=h'/\((m:Nat):Int)=m'/\((sc:Nat):Int)=sc'/\st=st'/\∃j:Nat,n=((1+j:Nat):Int)/\1+j<=t.length/\∀i,i<j->A2 ((t.drop 1).getD i 0),fun n _ _ _ _ _=>(t.length-n).toNat,⟨rfl,rfl,rfl,rfl,rfl,0,rfl,by omega,fun j h=>absurd h (Nat.not_lt_zero _)⟩,?_⟩
   rintro _ _ _ _ _ _ ⟨rfl,rfl,rfl,rfl,rfl,j,rfl,hj,hd⟩
   rw[Int.toNat_natCast]
   have hget:(t.drop 1).getD j 0=t.getD (1+j) 0:=FH t 1 j
   have run:(1+j=t.length∨¬A2 (t.getD (1+j) 0))->(Aw (t.drop 1)).length=j:=fun hs=>Hb (t.drop 1) j (by rw[List.length_drop];omega) hd (by
    rcases hs with hs | hs
    ·left;rw[List.length_drop];omega
    ·right;rw[hget];exact hs)
   have tail:(1+j=t.length∨¬A2 (t.getD (1+j) 0))->BIf (decide (((1+j:Nat):Int)<2)) (K 0 [] false false st) (BIf (decide (10<((1+j:Nat):Int))) (K 0 [] false false st) ((0<=(1:Int)/\(1:Int)<=((1+j:Nat):Int)/\((1+j:Nat):Int)<=((t.length:Nat):Int))/\((List.drop (Int.toNat (1:Int)) (List.take (1+j) t)).length+EW.length<=9223372036854775807/\((0<=(9:Int)/\(9:Int)<=(((List.drop (Int.toNat (1:Int)) (List.take (1+j) t)++EW).length:Nat):Int))/\
     Ad PR At [.str (List.take (Int.toNat (9:Int)) (List.drop (Int.toNat (1:Int)) (List.take (1+j) t)++EW))] [.one (.int .i64)] st fun n4 st6=>((0<=((1+j:Nat):Int)/\((1+j:Nat):Int)<=((t.length:Nat):Int))/\BIf (decide (((h:Nat):Int)<=23)) (BIf (decide (((m:Nat):Int)<=59)) (K (i64.wrap ((i64.wrap ((i64.wrap ((i64.wrap ((i64.wrap ((i64.wrap (((h:Nat):Int)*60))+((m:Nat):Int)))*60))+((sc:Nat):Int)))*1000000000))+n4)) (List.drop (1+j) t) true (decide (((sc:Nat):Int)<=59)) st6) (K (i64.wrap ((i64.wrap ((i64.wrap ((i64.wrap ((i64.wrap ((i64.wrap (((h:Nat):Int)*60))+((m:Nat):Int)))*60))+((sc:Nat):Int)))*1000000000))+n4)) (List.drop (1+j) t) true false st6)) (K (i64.wrap ((i64.wrap ((i64.wrap ((i64.wrap ((i64.wrap ((i64.wrap (((h:Nat):Int)*60))+((m:Nat):Int)))*60))+((sc:Nat):Int)))*1000000000))+n4)) (List.drop (1+j) t) true false st6)))))):=fun hs=>by
    have hr:=run hs
    have htk:List.drop (Int.toNat (1:Int)) (List.take (1+j) t)=Aw (t.drop 1):=by
     show(t.take (1+j)).drop 1=_
     rw[List.drop_take,Nat.add_sub_cancel_left,<-hr,D7]
    rw[htk]
    rw[hr]at hk
    generalize Aw (t.drop 1)=f at*
    refine Aa (fun g2=>?_) fun g2=>Aa (fun g3=>?_) fun g3=>⟨⟨by omega,by omega,by omega⟩,?_,⟨by omega,?_⟩,?_⟩
    ·rw[if_pos (.inl (List.length_eq_zero_iff.1 (by omega)))]at hk;exact hk
    ·rw[if_pos (.inr (by omega))]at hk;exact hk
    ·show f.length+9<=_;omega
    ·rw[List.length_append];show(9:Int)<=((f.length+9:Nat):Int);omega
    ·rw[if_neg (by rintro(e | e);rw[e]at hr;simp at hr;omega;omega)]at hk
     have hlt:=Xe hrd (by omega)
     have he:(f++EW).take 9=f++List.replicate (9-f.length) 48:=by
      rw[List.take_append,List.take_of_length_le (by omega)]
      congr 1
      show(List.replicate 9 (48:UInt8)).take _=_
      rw[List.take_replicate];congr 1;omega
     have hN:NV f=BM ((f++EW).take (Int.toNat (9:Int))):=by
      show _=BM ((f++EW).take 9)
      rw[he];rfl
     refine Ep (N:=NV f) ?_ ?_ hN ⟨⟨by omega,by omega⟩,ret _ _ hlt hk⟩
     ·show((f++EW).take 9).length<=18;rw[List.length_take];omega
     ·show ∀c,c∈(f++EW).take 9->A2 c
      rw[he]
      intro c hc
      rcases List.mem_append.1 hc with hc | hc
      ·exact hrd c hc
      ·rw[List.eq_of_mem_replicate hc];decide
   refine Aa (fun g2=>⟨⟨by omega,g2⟩,Aa (fun g3=>⟨⟨by omega,g2⟩,Aa (fun g4=>?_) fun g4=>?_⟩) fun g3=>?_⟩) fun g2=>?_
   ·rw[Al _ (by omega) (by omega)]
    refine⟨⟨rfl,rfl,rfl,rfl,rfl,j+1,by omega,by omega,fun i hi=>?_⟩,by dsimp only;omega⟩
    by_cases hij:i=j
    ·subst hij;rw[hget];exact⟨by omega,by omega⟩
    ·exact hd i (by omega)
   ·exact tail (.inr fun h=>g4 (by have:=h.2;omega))
   ·exact tail (.inr fun h=>g3 (by have:=h.1;omega))
   ·exact tail (.inl (by omega))
  ·have:=Ln (by decide) e
   rw[List.length_drop]at g
   omega
 ·rw[if_neg fc]at hk
  rw[decide_eq_false fc]
  exact Ar (fun _=>hk) fun h=>by cases h
def KOf (K:Int->Bool->Bool->St->Prop) (r:Option (Bool×Nat×Nat)) (st:St):Prop:=match r with
 | none=>K 0 false false st
 | some (ls,oh,om)=>K (if ls then-((oh*60+om:Nat):Int)else((oh*60+om:Nat):Int)) true (decide (oh<=23/\om<=59)) st
theorem rto_ok {s:B8} (hl:s.length<=1000000) {st:St} {K:Int->Bool->Bool->St->Prop} (hk:KOf K (MR s) st):Ad PR A1 [.str s] [.one (.int .i64),.one .bool,.one .bool] st K:=by
 unfold MR at hk
 refine FX s st K (Aa (fun g=>?_) fun g=>Aa (fun g2=>?_) fun g2=>Aa (fun g3=>?_) fun g3=>?_)
 ·rw[if_pos (.inl g)]at hk;exact hk
 ·rw[if_pos (.inr g2)]at hk;exact hk
 ·have nz:¬(s=[90]∨s=[122]):=by rintro(h | h);exact g h;exact g2 h
  rw[if_neg nz,if_neg fun h=>by have:=h.1;omega]at hk;exact hk
 ·have nz:¬(s=[90]∨s=[122]):=by rintro(h | h);exact g h;exact g2 h
  rw[if_neg nz]at hk
  have h6:s.length=6:=by omega
  have tail:∀c:UInt8,b0 s 0=c->(c=43∨c=45)->dd s 1->b0 s 3=58->dd s 4->((0<=(1:Int)/\(1:Int)<=3/\(3:Int)<=((s.length:Nat):Int))/\((0<=(4:Int)/\(4:Int)<=6/\(6:Int)<=((s.length:Nat):Int))/\
    Ad PR At [.str (List.drop (Int.toNat (1:Int)) (List.take (Int.toNat (3:Int)) s))] [.one (.int .i64)] st fun n1 st3=>Ad PR At [.str (List.drop (Int.toNat (4:Int)) (List.take (Int.toNat (6:Int)) s))] [.one (.int .i64)] st3 fun n2 st4=>((0<=(0:Int)/\(0:Int)<((s.length:Nat):Int))/\
     BIf (decide (((List.getD s (Int.toNat (0:Int)) 0).toNat:Int)=45)) (BIf (decide (n1<=23)) (K (i64.wrap (0-i64.wrap (i64.wrap (n1*60)+n2))) true (decide (n2<=59)) st4) (K (i64.wrap (0-i64.wrap (i64.wrap (n1*60)+n2))) true false st4)) (BIf (decide (n1<=23)) (K (i64.wrap (i64.wrap (n1*60)+n2)) true (decide (n2<=59)) st4) (K (i64.wrap (i64.wrap (n1*60)+n2)) true false st4))))):=fun c h0 hc f1 f3 f4=>by
   obtain⟨n1,n2,n3⟩:=Kb (k:=1) (m:=3) rfl f1
   obtain⟨m1,m2,m3⟩:=Kb (k:=4) (m:=6) rfl f4
   have a1:=Li f1
   have a2:=Li f4
   rw[if_pos ⟨h6,(by rcases hc with rfl | rfl;exact .inl h0;exact .inr h0),f1,f3,f4⟩]at hk
   refine⟨⟨by omega,by omega,by omega⟩,⟨by omega,by omega,by omega⟩,Ep n1 n2 n3 (Ep m1 m2 m3 ⟨⟨by omega,by omega⟩,?_⟩)⟩
   generalize d2 s 1=oh at*
   generalize d2 s 4=om at*
   have hw:i64.wrap (i64.wrap (((oh:Nat):Int)*60)+((om:Nat):Int))=((oh*60+om:Nat):Int):=WP a1 a2
   rw[hw]
   change K (if decide (b0 s 0=45)=true then-((oh*60+om:Nat):Int)else((oh*60+om:Nat):Int)) true (decide (oh<=23/\om<=59)) st at hk
   have hin:∀z:Int,K z true (decide (oh<=23/\om<=59)) st->BIf (decide (((oh:Nat):Int)<=23)) (K z true (decide (((om:Nat):Int)<=59)) st) (K z true false st):=fun z hz=>Aa (fun g=>by
    rw[decide_eq_decide.2 (show(oh<=23/\om<=59)↔((om:Nat):Int)<=59 from⟨fun h=>by omega,fun h=>⟨by omega,by omega⟩⟩)]at hz;exact hz) fun g=>by
    rw[decide_eq_false fun h:oh<=23/\om<=59=>by omega]at hz;exact hz
   refine Aa (fun g=>hin _ ?_) fun g=>hin _ ?_
   ·have e:b0 s 0=45:=(u8i (k:=45)).1 g
    rw[if_pos (by simpa using e)]at hk
    rw[Al _ (by omega) (by omega),show(0:Int)-((oh*60+om:Nat):Int)= -((oh*60+om:Nat):Int) by omega];exact hk
   ·have e:¬b0 s 0=45:=fun e=>g ((u8i (k:=45)).2 e)
    rw[if_neg (by simpa using e)]at hk;exact hk
  have L1:=WZ s 43 (by decide) h6
  have L2:=WZ s 45 (by decide) h6
  refine KS (by omega) (Ar (fun b1=>KS (by omega) (Ar (fun b2=>?_) fun b2=>?_)) fun b1=>?_)
  ·have x1:¬G7 [43,100,100,58,100,100] s:=by have h:=b1;simp at h;exact h
   have x2:¬G7 [45,100,100,58,100,100] s:=by have h:=b2;simp at h;exact h
   rw[if_neg]at hk
   ·exact hk
   ·rintro⟨_,h | h,h2,h3,h4⟩
    ·exact x1 (L1.2 ⟨h,h2,h3,h4⟩)
    ·exact x2 (L2.2 ⟨h,h2,h3,h4⟩)
  ·have x2:G7 [45,100,100,58,100,100] s:=by have h:=b2;simp at h;exact h
   obtain⟨y1,y2,y3,y4⟩:=L2.1 x2
   exact tail 45 y1 (.inr rfl) y2 y3 y4
  ·have x1:G7 [43,100,100,58,100,100] s:=by have h:=b1;simp at h;exact h
   obtain⟨y1,y2,y3,y4⟩:=L1.1 x1
   exact tail 43 y1 (.inl rfl) y2 y3 y4
theorem Tf {y:Nat} (h1:1<=y) (h2:y<=9999) {st:St} {K:Int->St->Prop} (hk:K (yrS y:Nat) st):Ad PR CP [.int .i64 (y:Nat)] [.one (.int .i64)] st K:=by
 refine Hp _ st K ⟨fun n i y' st'=>((y:Nat):Int)=y'/\st=st'/\∃j:Nat,i=j/\1<=j/\j<=y/\n=(yrS j:Nat),fun _ i _ _=>(y-i).toNat,⟨rfl,rfl,1,rfl,by omega,by omega,rfl⟩,?_⟩
 rintro _ _ _ _ ⟨rfl,rfl,j,rfl,hj1,hj2,rfl⟩
 have hy:yrS j<=4000000:=by unfold yrS;omega
 refine Aa (fun g=>Tg hj1 (by omega) ?_) fun g=>?_
 ·have:=K3 j 12
  have:=K4 j 12
  rw[Al _ (by omega) (by omega),Al _ (by omega) (by omega)]
  exact⟨⟨rfl,rfl,j+1,by omega,by omega,by omega,by rw[We hj1];omega⟩,by dsimp only;omega⟩
 ·have:j=y:=by omega
  subst this;exact hk
theorem rDay_ok {y m d:Nat} (hy:y<=100000) (hm:m<=1000) (hd:d<=1000) {st:St} {K:Int->Int->St->Prop} (hk:K (if okD y m d then(JD y m d:Nat)else 0) (if okD y m d then 0 else 2) st):
  Ad PR DM [.int .i64 (y:Nat),.int .i64 (m:Nat),.int .i64 (d:Nat)] [.one (.int .i64),.one (.int .i64)] st K:=by
 refine Jy _ _ _ st K (Aa (fun g=>?_) fun g=>LP (by omega) (Aa (fun g2=>?_) fun g2=>?_))
 ·have hn:¬okD y m d:=fun h=>by have:=h.2.2.2.2.1;omega
  rw[if_neg hn,if_neg hn]at hk;exact hk
 ·have hn:¬okD y m d:=fun h=>by
   obtain⟨a1,a2,a3,a4,a5,a6⟩:=h
   rw[HF a1 a2 a3 a4]at g2
   omega
  rw[if_neg hn,if_neg hn]at hk;exact hk
 ·have hr:1<=y/\y<=9999/\1<=m/\m<=12:=by
   by_cases h:1<=y/\y<=9999/\1<=m/\m<=12
   ·exact h
   ·rw[show Tu y m=0 from if_neg h]at g2
    omega
  obtain⟨a1,a2,a3,a4⟩:=hr
  rw[HF a1 a2 a3 a4]at g2
  have ok:okD y m d:=⟨a1,a2,a3,a4,by omega,by omega⟩
  rw[if_pos ok,if_pos ok]at hk
  have hyr:yrS y<=4000000:=by unfold yrS;omega
  refine Tf a1 a2 ⟨fun n i y' m' d' st'=>((y:Nat):Int)=y'/\((m:Nat):Int)=m'/\((d:Nat):Int)=d'/\st=st'/\∃j:Nat,i=j/\1<=j/\j<=m/\n=((yrS y+IS y j:Nat):Int),fun _ i _ _ _ _=>(m-i).toNat,⟨rfl,rfl,rfl,rfl,1,rfl,by omega,by omega,rfl⟩,?_⟩
  rintro _ _ _ _ _ _ ⟨rfl,rfl,rfl,rfl,j,rfl,hj1,hj2,rfl⟩
  have hms:=K3 y j
  refine Aa (fun g3=>LP (by omega) ?_) fun g3=>?_
  ·have hmd:=K4 y j
   rw[HF a1 a2 hj1 (by omega),Al _ (by omega) (by omega),Al _ (by omega) (by omega)]
   exact⟨⟨rfl,rfl,rfl,rfl,j+1,by omega,by omega,by omega,by rw[Jn y hj1];omega⟩,by dsimp only;omega⟩
  ·have:j=m:=by omega
   subst this
   rw[Al (((yrS y+IS y j:Nat):Int)+((d:Nat):Int)) (by omega) (by omega),Al _ (by omega) (by omega)]
   unfold JD at hk
   rw[show((yrS y+IS y j:Nat):Int)+((d:Nat):Int)-1=((yrS y+IS y j+(d-1):Nat):Int) by omega]
   exact hk
theorem four_at {s:B8} (h1:dd s 0) (h2:dd s 2):(s.take 4).length<=18/\(∀c,c∈s.take 4->A2 c)/\d2 s 0*100+d2 s 2=BM (s.take 4):=by
 have f:JB 4 s:=(RP _).2 ⟨h1,h2⟩
 refine⟨by rw[List.length_take];omega,fun c hc=>?_,(val4 f).symm⟩
 obtain⟨i,hi⟩:=List.getElem?_of_mem hc
 have hl:=(List.getElem?_eq_some_iff.1 hi).1
 rw[List.length_take]at hl
 rw[List.getElem?_take,if_pos (by omega)]at hi
 have:=f.2 i (by omega)
 rwa [List.getD,hi]at this
theorem rtP_ok {s:B8} (hl:s.length<=1000000) {st:St} {K:Int->Int->Int->Int->Int->St->Prop} (hk:KT K (tmP s) st):Ad PR Dd [.str s] [.agg [.int .i64,.int .i64,.int .i64,.int .i64],.one (.int .i64)] st K:=by
 refine Ie s st K (KS (by omega) ?_)
 show BIf (!decide (G7 [100,100,100,100,45,100,100,45,100,100] s)) _ _
 rw[decide_eq_decide.2 (like_D s)]
 unfold KT tmP at hk
 by_cases fd:DU s
 ·rw[if_pos fd]at hk
  rw[decide_eq_true fd]
  refine Ar (fun h=>by cases h) fun _=>?_
  have hlen:=Oz fd.2.2.2.2.2.2
  obtain⟨n1,n2,n3⟩:=four_at fd.1 fd.2.1
  obtain⟨m1,m2,m3⟩:=Kb (k:=5) (m:=7) rfl fd.2.2.2.1
  obtain⟨p1,p2,p3⟩:=Kb (k:=8) (m:=10) rfl fd.2.2.2.2.2
  have a0:=Li fd.1
  have a1:=Li fd.2.1
  have a2:=Li fd.2.2.2.1
  have a3:=Li fd.2.2.2.2.2
  refine⟨⟨by omega,by omega⟩,⟨by omega,by omega,by omega⟩,⟨by omega,by omega,by omega⟩,Ep n1 n2 n3 (Ep m1 m2 m3 (Ep p1 p2 p3 (rDay_ok (by omega) (by omega) (by omega) ⟨⟨by omega,by omega⟩,?_⟩)))⟩
  rw[show Int.toNat (10:Int)=10 from rfl,show Int.toNat (0:Int)=0 from rfl]
  generalize d2 s 0*100+d2 s 2=y at*
  generalize d2 s 5=mo at*
  generalize d2 s 8=d at*
  clear n1 n2 n3 m1 m2 m3 p1 p2 p3
  have ht:(s.drop 10).length<=1000000:=by rw[List.length_drop];omega
  generalize s.drop 10=t at*
  unfold tmD at hk
  generalize hn5:(if okD y mo d then((JD y mo d:Nat):Int)else 0)=n5
  generalize hn6:(if okD y mo d then(0:Int)else 2)=n6
  have ok:okD y mo d->n5=(JD y mo d:Nat)/\n6=0:=fun h=>by rw[if_pos h]at hn5 hn6;exact⟨hn5.symm,hn6.symm⟩
  have nok:¬okD y mo d->n6=2:=fun h=>by rw[if_neg h]at hn6;exact hn6.symm
  have way:t≠ []->(b0 t 0=84∨b0 t 0=116∨b0 t 0=32)->((0<=(1:Int)/\(1:Int)<=((t.length:Nat):Int))/\Ad PR AT [.str (List.drop (Int.toNat (1:Int)) t)] [.one (.int .i64),.one .str,.one .bool,.one .bool] st fun n7 s2 b4 b5 st7=>BIf (!b4) (K 0 0 0 0 3 st7) (BIf (decide (s2≠([]:B8))) (Ad PR A1 [.str s2] [.one (.int .i64),.one .bool,.one .bool] st7 fun n8 b6 b7 st8=>BIf (!b6) (K 0 0 0 0 3 st8) (BIf b5 (BIf (decide (n6≠0)) (K 0 0 0 0 2 st8) (BIf (!b7) (K 0 0 0 0 2 st8) (K 4 n5 n7 n8 0 st8))) (BIf (decide (n6≠0)) (K 0 0 0 0 2 st8) (K 0 0 0 0 2 st8)))) (BIf (decide (n6≠0)) (K 0 0 0 0 2 st7) (BIf (!b5) (K 0 0 0 0 2 st7) (K 3 n5 n7 0 0 st7))))):=fun hne fo=>by
   rw[if_neg hne,if_pos fo]at hk
   have hpos:=List.length_pos_iff.2 hne
   refine⟨⟨by omega,by omega⟩,Wy (by rw[List.length_drop];omega) ?_⟩
   show KCl _ (Gf (t.drop 1)) st
   have hcl:∀h m sc f r',Gf (t.drop 1)=some (h,m,sc,f,r')->r'.length<=1000000:=fun h m sc f r' he=>by
    unfold Gf at he
    split at he
    ·split at he
     ·split at he
      ·cases he
      ·simp only[Option.some.injEq,Prod.mk.injEq]at he
       rw[<-he.2.2.2.2];simp only[List.length_drop];omega
     ·simp only[Option.some.injEq,Prod.mk.injEq]at he
      rw[<-he.2.2.2.2];simp only[List.length_drop];omega
    ·cases he
   cases hc:Gf (t.drop 1)with
   | none=>
    rw[hc]at hk
    exact hk
   | some p=>
    obtain⟨h,m,sc,f,r'⟩:=p
    have hr':=hcl _ _ _ _ _ hc
    rw[hc]at hk
    dsimp only at hk
    unfold tmO at hk
    refine Aa (fun g=>rto_ok hr' ?_) fun g=>?_
    ·rw[if_neg g]at hk
     cases ho:MR r' with
     | none=>
      rw[ho]at hk
      exact hk
     | some q=>
      obtain⟨ls,oh,om⟩:=q
      rw[ho]at hk
      dsimp only at hk
      refine Aa (fun gc=>Aa (fun g6=>?_) fun g6=>Ar (fun g7=>?_) fun g7=>?_) fun gc=>?_
      ·rw[if_neg fun k=>g6 (ok k.1).2]at hk;exact hk
      ·have:¬(oh<=23/\om<=59):=by have h:=g7;simp at h;omega
       rw[if_neg fun k=>this k.2.2]at hk;exact hk
      ·have hin:oh<=23/\om<=59:=by have h:=g7;simp at h;exact h
       have hD:okD y mo d:=Decidable.byContradiction fun h=>by have:=nok h;omega
       rw[if_pos ⟨hD,gc,hin⟩]at hk
       rw[(ok hD).1];exact hk
      ·rw[if_neg fun k=>gc k.2.1]at hk
       exact Aa (fun _=>hk) fun _=>hk
    ·have hr:r'=[]:=Decidable.not_not.1 g
     rw[if_pos hr]at hk
     subst hr
     refine Aa (fun g6=>?_) fun g6=>Ar (fun g7=>?_) fun g7=>?_
     ·rw[if_neg fun k=>g6 (ok k.1).2]at hk;exact hk
     ·have:¬okC h m sc:=by have h:=g7;simp at h;exact h
      rw[if_neg fun k=>this k.2]at hk;exact hk
     ·have hin:okC h m sc:=by have h:=g7;simp at h;exact h
      have hD:okD y mo d:=Decidable.byContradiction fun h=>by have:=nok h;omega
      rw[if_pos ⟨hD,hin⟩]at hk
      rw[(ok hD).1];exact hk
  refine Aa (fun g=>?_) fun g=>?_
  ·rw[if_pos g]at hk
   refine Aa (fun g6=>?_) fun g6=>?_
   ·have hn:¬okD y mo d:=fun h=>g6 (ok h).2
    rw[if_neg hn]at hk
    rw[nok hn];exact hk
   ·have hD:okD y mo d:=Decidable.byContradiction fun h=>by have:=nok h;omega
    rw[if_pos hD]at hk
    rw[(ok hD).1];exact hk
  ·have hpos:=List.length_pos_iff.2 g
   refine⟨⟨by omega,by omega⟩,Aa (fun g1=>⟨⟨by omega,by omega⟩,Aa (fun g2=>⟨⟨by omega,by omega⟩,Aa (fun g3=>?_) fun g3=>way g (.inr (.inr ((u8i (k:=32)).1 (Decidable.not_not.1 g3))))⟩) fun g2=>way g (.inr (.inl ((u8i (k:=116)).1 (Decidable.not_not.1 g2))))⟩) fun g1=>way g (.inl ((u8i (k:=84)).1 (Decidable.not_not.1 g1)))⟩
   rw[if_neg g,if_neg]at hk
   ·exact hk
   ·rintro(h | h | h)
    ·exact g1 ((u8i (k:=84)).2 h)
    ·exact g2 ((u8i (k:=116)).2 h)
    ·exact g3 ((u8i (k:=32)).2 h)
 ·rw[if_neg fd]at hk
  rw[decide_eq_false fd]
  refine Ar (fun _=>Wy hl ?_) fun h=>by cases h
  cases hc:Gf s with
  | none=>
   rw[hc]at hk
   exact hk
  | some p=>
   obtain⟨h,m,sc,f,r'⟩:=p
   rw[hc]at hk
   dsimp only at hk
   refine Aa (fun g=>?_) fun g=>Ar (fun g7=>?_) fun g7=>?_
   ·rw[if_neg g]at hk;exact hk
   ·have:¬okC h m sc:=by have h:=g7;simp at h;exact h
    rw[if_pos (Decidable.not_not.1 g),if_neg this]at hk;exact hk
   ·have hin:okC h m sc:=by have h:=g7;simp at h;exact h
    rw[if_pos (Decidable.not_not.1 g),if_pos hin]at hk;exact hk
end Go.TVF
section
namespace Go.TVF
open Go.IntKind(i64 u8)
open Go Go.Proofs Go.RowKit
theorem Sim.grown {g:Ghost} {st:St} {loc:List (Option (List TV))} {w w':World} (s:Sim g st loc w) (h:Below w.heap.size w w'):Sim g st loc w'/\Ext g w g w':=
 s.world h.size (s.below.trans (h.mono s.fits)) h.block
end Go.TVF
end
namespace Go.TVF
open Go.IntKind(i64 u8)
open Go Go.Proofs
def Ut (c:Int):Bool:=decide (97<=c/\c<=122∨65<=c/\c<=90∨48<=c/\c<=57∨c=95∨c=45∨c=43∨c=46∨c=58)
def spaceB (c:Int):Bool:=decide (c=32∨c=9)
def twl (p:Int->Bool):B8->Nat
 | []=>0
 | c::r=>if p (c.toNat:Int)then twl p r+1 else 0
def K5 (c:Int):Bool:=decide (97<=c/\c<=122∨65<=c/\c<=90)
def I9 (c:Int):Bool:=decide (48<=c/\c<=57)
theorem Sn {c:Int} {st:St} {K:Bool->St->Prop} (hk:K (I9 c) st):Ad PR B7 [.int .u8 c] [.one (.bool)] st K:=by
 refine Ib c st K ?_
 unfold I9 at hk
 repeat' (refine Aa (fun _=>?_) fun _=>?_)
 all_goals first | exact DQ (decide_eq_true (by omega)).symm hk | exact DQ (decide_eq_false (by omega)).symm hk | exact DQ (decide_eq_decide.2 (by omega)) hk
def patB:List (Option UInt8)->B8->Bool
 | [],_=>true
 | _::_,[]=>false
 | none::ps,c::cs=>I9 (c.toNat:Int)&&patB ps cs
 | some a::ps,c::cs=>decide (c=a)&&patB ps cs
def mkPat (d:UInt8) (p:B8):List (Option UInt8):=p.map fun c=>if c=d then none else some c
def hexD (c:Nat):Option Nat:=if 48<=c/\c<=57 then some (c-48)else if 97<=c/\c<=102 then some (c-87)else if 65<=c/\c<=70 then some (c-55)else none
def hexS:Nat->B8->Nat->Except Int Nat
 | 0,_,acc=> .ok acc
 | k+1,[],acc=> .error 4
 | k+1,c::cs,acc=>match hexD c.toNat with
  | none=> .error 3
  | some d=>hexS k cs (acc*16+d)
def escS (l:B8):Except Int (Nat×Nat):=
 match hexS 4 l 0 with
 | .error e=> .error e
 | .ok n=>
  if 56320<=n/\n<=57343 then .error 5
  else if n<55296∨57343<n then .ok (n,4)
  else if l.length<=4 then .error 4
  else if bt l 4≠92 then .error 5
  else if l.length<=5 then .error 4
  else if bt l 5≠117 then .error 5
  else match hexS 4 (l.drop 6) 0 with
   | .error e=> .error e
   | .ok m=>if m<56320∨57343<m then .error 5 else .ok (65536+(n-55296)*1024+(m-56320),10)
def simE (c:Nat):Option UInt8:=if c=34 then some 34 else if c=92 then some 92 else if c=47 then some 47 else if c=98 then some 8 else if c=102 then some 12 else if c=110 then some 10 else if c=114 then some 13 else if c=116 then some 9 else none
def qF:Nat->Nat->B8->B8->Nat->Except Int (B8×Nat)
 | 0,_,_,_,_=> .error 4
 | f+1,m,l,acc,n=>
  if l.length=0 then .error 4
  else if bt l 0=m then .ok (acc,n+1)
  else if ul l=0∨bt l 0<32 then .error 5
  else if bt l 0≠92∨m=39 then qF f m (l.drop (ul l)) (acc++l.take (ul l)) (n+ul l)
  else if l.length<=1 then .error 4
  else if bt l 1=117 then match escS (l.drop 2)with
   | .error e=> .error e
   | .ok p=>qF f m (l.drop (2+p.2)) (acc++FE p.1) (n+(2+p.2))
  else match simE (bt l 1)with
   | none=> .error 3
   | some c=>qF f m (l.drop 2) (acc++[c]) (n+2)
def wlen (l:B8):Nat:=if twl Ut l=10/\patB (mkPat 100 [100,100,100,100,45,100,100,45,100,100,32,100,100,58]) l=true then 11+twl Ut (l.drop 11)else twl Ut l
def cF:Nat->B8->Nat->Option Nat
 | 0,_,_=>none
 | f+1,l,k=>if l.length=0 then some k else if bt l 0=10 then some k else if 1<l.length/\bt l 0=13/\bt l 1=10 then some k
  else if ul l=0 then none else cF f (l.drop (ul l)) (k+ul l)
def tokC (c c1:Nat) (s:B8) (i:Nat):Except Int (Int×Nat):=
 if c=32∨c=9 then .ok (1,i+twl spaceB (s.drop i))
 else if c=10 then .ok (2,i+1)
 else if c=13 then(if s.length=i+1 then .error 4 else if c1=10 then .ok (2,i+2)else .error 3)
 else if c=35 then(match cF (s.length+1) (s.drop i) i with | none=> .error 5 | some k=> .ok (3,k))
 else if c=91∨c=93∨c=123∨c=125∨c=44∨c=61 then .ok (4,i+1)
 else if c=34∨c=39 then(match qF (s.length+1) c (s.drop (i+1)) [] (i+1)with | .error e=> .error e | .ok p=> .ok (5,p.2))
 else if Ut (c:Int)=true then .ok (6,i+wlen (s.drop i))else .error 3
def tokS (s:B8) (i:Nat):Except Int (Int×Nat):=tokC (bt (s.drop i) 0) (bt (s.drop i) 1) s i
def nxt (s:B8) (at':Int):Except Int (Int×B8×Int):=
 if at'<0∨(s.length:Int)<at' then .error 1 else if at'=(s.length:Int)then .error 7
 else match tokS s at'.toNat with | .error e=> .error e | .ok p=> .ok (p.1,(s.drop at'.toNat).take (p.2-at'.toNat),at')
theorem G9 (s:B8) (k:Nat):(s.drop k).getD 0 0=s.getD k 0:=by simp[List.getD]
theorem Qe {s:B8} {k:Nat} (hl:s.length<=1000000000) (hk0:k<=s.length) {I:Int} (hI:I=(k:Nat)) {st:St} {K:Int->St->Prop} (hk:K ((k+(Aw (s.drop k)).length:Nat):Int) st):Ad PR BN [.str s,.int .i64 I] [.one (.int .i64)] st K:=by
 subst hI
 refine JA s _ st K ⟨fun n s' st'=>s=s'/\st=st'/\∃j:Nat,n=((k+j:Nat):Int)/\k+j<=s.length/\∀i,i<j->A2 (s.getD (k+i) 0),fun n _ _=>(s.length-n).toNat,⟨rfl,rfl,0,rfl,by omega,fun j h=>absurd h (Nat.not_lt_zero _)⟩,?_⟩
 rintro _ _ _ ⟨rfl,rfl,j,rfl,hj1,hd⟩
 rw[Int.toNat_natCast]
 have fin:(k+j=s.length∨¬A2 (s.getD (k+j) 0))->K ((k+j:Nat):Int) st:=fun h=>by
  have:=Hb (s.drop k) j (by rw[List.length_drop];omega) (fun i hi=>by have:=hd i hi;simpa [List.getD]using this) (by
   rcases h with h | h
   ·left;rw[List.length_drop];omega
   ·right;simpa [List.getD]using h)
  rw[this]at hk;exact hk
 refine Aa (fun g=>⟨⟨by omega,g⟩,Aa (fun g1=>⟨⟨by omega,g⟩,Aa (fun g2=>?_) fun g2=>fin (.inr fun h=>g2 (by have:=h.2;omega))⟩) fun g1=>fin (.inr fun h=>g1 (by have:=h.1;omega))⟩) fun g=>fin (.inl (by omega))
 rw[Al _ (by omega) (by omega)]
 refine⟨⟨rfl,rfl,j+1,by omega,by omega,fun i hi=>?_⟩,by dsimp only;omega⟩
 by_cases hij:i=j
 ·subst hij;exact⟨by omega,by omega⟩
 ·exact hd i (by omega)
theorem Rj:∀(s:B8) (k:Nat),k<=s.length->(∀j,j<k->s.getD j 0=48)->(k=s.length∨s.getD k 0≠48)->Bb s=s.drop k
 | [],k,_,_,_=>by simp[Bb]
 | a::s,0,_,_,h=>by
  have:a≠48:=by
   rcases h with h | h
   ·simp at h
   ·exact h
  rw[II this];rfl
 | a::s,k+1,h1,h2,h3=>by
  have ha:a=48:=h2 0 (by omega)
  subst ha
  have:=Kd 1 s
  rw[show List.replicate 1 (48:UInt8)++s=48::s from rfl]at this
  rw[this,List.drop_succ_cons]
  exact Rj s k (by simpa using h1) (fun j hj=>h2 (j+1) (by omega)) (by
   rcases h3 with h3 | h3
   ·exact .inl (by simpa using h3)
   ·exact .inr h3)
theorem Ri {s:B8} (hl:s.length<=1000000000) {st:St} {K:B8->St->Prop} (hk:K (Bb s) st):Ad PR Ca [.str s] [.one .str] st K:=by
 refine Il s st K ⟨fun n s' st'=>s=s'/\st=st'/\∃k:Nat,n=k/\k<=s.length/\∀j,j<k->s.getD j 0=48,fun n _ _=>(s.length-n).toNat,⟨rfl,rfl,0,rfl,Nat.zero_le _,fun j h=>absurd h (Nat.not_lt_zero _)⟩,?_⟩
 rintro _ _ _ ⟨rfl,rfl,k,rfl,hk1,hd⟩
 rw[Int.toNat_natCast]
 have fin:(k=s.length∨s.getD k 0≠48)->K (s.drop k) st:=fun h=>by rw[Rj s k hk1 hd h]at hk;exact hk
 refine Aa (fun g=>⟨⟨by omega,g⟩,Aa (fun g1=>?_) fun g1=>⟨⟨by omega,by omega⟩,fin (.inr fun h=>g1 (u8i (k:=48) |>.2 h))⟩⟩) fun g=>⟨⟨by omega,by omega⟩,fin (.inl (by omega))⟩
 rw[Al _ (by omega) (by omega)]
 refine⟨⟨rfl,rfl,k+1,by omega,by omega,fun j hj=>?_⟩,by dsimp only;omega⟩
 by_cases hjk:j=k
 ·subst hjk;exact(u8i (k:=48)).1 g1
 ·exact hd j (by omega)
theorem Vs {l:B8} (hl:l.length<=18) (hd:∀c,c∈l->A2 c) (h0:l.getD 0 0≠48) {st:St} {K:Int->Int->St->Prop} (hk:K (BM l:Nat) 0 st):Ad PR Di [.str l] [.one (.int .i64),.one (.int .i64)] st K:=by
 refine Ik l st K (rNum_ok (by omega) ?_)
 have hno:decide (Lt l)=true:=decide_eq_true ⟨by omega,hd,fun _=>h0⟩
 rw[hno]
 refine Ar (fun h=>by cases h) fun _=>Aa (fun g=>by omega) fun _=>Aa (fun g=>by omega) fun _=>?_
 refine⟨fun n i l' st'=>l=l'/\st=st'/\∃k:Nat,i=k/\k<=l.length/\n=(BM (l.take k):Nat),fun _ i _ _=>(l.length-i).toNat,⟨rfl,rfl,0,rfl,Nat.zero_le _,rfl⟩,?_⟩
 rintro _ _ _ _ ⟨rfl,rfl,k,rfl,hkl,rfl⟩
 rw[Int.toNat_natCast]
 refine Aa (fun g=>⟨⟨by omega,g⟩,?_⟩) fun g=>?_
 ·have hk':k<l.length:=by omega
  have hv:=Hu hd hl k hk'
  have hs:=G0 hk'
  have hc:=hd _ (F6 hk')
  obtain⟨c1,c2⟩:=hc
  rw[Al (10*_) (by omega) (by omega),Al ((List.getD l k 0).toNat:Int) (by omega) (by omega),Al (_+_) (by omega) (by omega),Al _ (by omega) (by omega),Al _ (by omega) (by omega)]
  exact⟨⟨rfl,rfl,k+1,by omega,by omega,by rw[hs];omega⟩,by dsimp only;omega⟩
 ·have:k=l.length:=by omega
  subst this
  rw[List.take_length]at*;exact hk
theorem WI {l:B8} (hl:l.length<=1000000) (hd:∀c,c∈l->A2 c) {st:St} {K:Int->St->Prop} (hk:K ((if (Bb l).length<=9 then BM l else 1000000000:Nat):Int) st):Ad PR De [.str l] [.one (.int .i64)] st K:=by
 refine Ig l st K (Ri (by omega) (Aa (fun g=>?_) fun g=>?_))
 ·rw[if_neg (by omega)]at hk;exact hk
 ·rw[if_pos (by omega)]at hk
  refine Vs (by omega) (fun c hc=>hd c (Hw l c hc)) (IH l) ?_
  rw[FZ];exact hk
theorem VG {neg:Bool} {s:B8} {ex:Int} (hl:s.length<=2000000) (h1: -3000000000000<=ex) (h2:ex<=3000000000000) {st:St} {K:Bool->B8->Int->Int->St->Prop} (hk:KD K (dcN neg (Bb s) ex) st):
  Ad PR CQ [.bool neg,.str s,.int .i64 ex] [.agg [.bool,.str,.int .i64],.one (.int .i64)] st K:=by
 refine Hs neg s ex st K (Ri (by omega) ?_)
 have hsl:=EJ s
 generalize Bb s=t at*
 unfold KD dcN at hk
 refine Aa (fun g=>by rw[if_pos g]at hk;exact hk) fun g=>Vq (by omega) ?_
 rw[if_neg g]at hk
 have ht:=Nc t
 have e2:i64.wrap ((t.length:Int)-(Cc t:Nat))=((t.length-Cc t:Nat):Int):=by rw[Al _ (by omega) (by omega)];omega
 rw[e2,Int.toNat_natCast,Al (ex+_) (by omega) (by omega)]
 have hlen:(t.take (t.length-Cc t)).length=t.length-Cc t:=by rw[List.length_take];omega
 rw[hlen]
 refine⟨⟨by omega,by omega⟩,Aa (fun g1=>?_) fun g1=>Aa (fun g2=>?_) fun g2=>Aa (fun g3=>?_) fun g3=>Aa (fun g4=>?_) fun g4=>?_⟩
 ·rw[if_pos (by omega)]at hk;exact hk
 ·rw[if_pos (by omega)]at hk;exact hk
 ·rw[if_pos (by omega)]at hk;exact hk
 ·rw[if_pos (by omega)]at hk;exact hk
 ·rw[if_neg (by omega)]at hk;exact hk
theorem D9 {s:B8} {k:Nat} {c:UInt8} (hc:c≠0) (h:s.getD k 0=c):k<s.length:=by
 by_cases hk:k<s.length
 ·exact hk
 ·rw[show s.getD k 0=0 by simp[List.getD,Nat.le_of_not_lt hk]]at h
  exact absurd h.symm hc
theorem rP_ok {s:B8} (hl:s.length<=1000000) {st:St} {K:Bool->B8->Int->Int->St->Prop} (hk:KD K (dcP s) st):Ad PR Df [.str s] [.agg [.bool,.str,.int .i64],.one (.int .i64)] st K:=by
 refine Ih s st K ⟨fun i s1 _ _ _ st'=>s=s1/\st=st'/\∃j:Nat,i=j/\j<=1/\j<=s.length/\dcP s=dcQ (decide (i=1)) (s.drop j),?_,?_⟩
 ·have no:¬s.getD 0 0=45->dcP s=dcQ (decide ((0:Int)=1)) (s.drop 0):=fun h=>by unfold dcP;rw[if_neg h];rfl
  refine Aa (fun g=>⟨⟨by omega,g⟩,Aa (fun g1=>⟨rfl,rfl,1,rfl,by omega,by omega,?_⟩) fun g1=>⟨rfl,rfl,0,rfl,by omega,by omega,no fun h=>g1 (u8i (k:=45) |>.2 h)⟩⟩) fun g=>⟨rfl,rfl,0,rfl,by omega,by omega,no fun h=>?_⟩
  ·unfold dcP;rw[if_pos (show s.getD 0 0=45 from(u8i (k:=45)).1 g1)];rfl
  ·have:=D9 (by decide) h;omega
 rintro i _ _ _ _ _ ⟨rfl,rfl,j,rfl,hj1,hjl,h1⟩
 rw[h1]at hk
 clear h1
 generalize decide (((j:Nat):Int)=1)=neg at*
 have hrl:=CE (s.drop j)
 rw[List.length_drop]at hrl
 refine Qe (by omega) hjl rfl ?_
 have hdr:s.drop (j+(Aw (s.drop j)).length)=(s.drop j).drop (Aw (s.drop j)).length:=by rw[List.drop_drop]
 have htk:(s.take (j+(Aw (s.drop j)).length)).drop j=Aw (s.drop j):=by rw[List.drop_take,Nat.add_sub_cancel_left];exact D7 _
 have hdg:=Ga (s.drop j)
 have hlen:(Aw (s.drop j)).length=(Aw (s.drop j)).length:=rfl
 generalize ha:Aw (s.drop j)=a at*
 refine⟨fun s2 i2 neg2 k2 _ _ _ st'=>s=s2/\((j:Nat):Int)=i2/\neg=neg2/\((j+a.length:Nat):Int)=k2/\st=st'/\dcQ neg (s.drop j)=dcF neg a (s.drop (j+a.length)),Aa (fun g=>?_) fun g=>?_,?_⟩
 ·have:a=[]:=List.length_eq_zero_iff.1 (by omega)
  unfold KD dcQ at hk
  rw[ha,if_pos (.inl this)]at hk;exact hk
 ·have hpos:j<s.length:=by omega
  rw[Int.toNat_natCast]
  have hne:a≠ []:=fun h=>g (by rw[h];simp)
  refine⟨⟨by omega,by omega⟩,Aa (fun g3=>?_) fun g3=>⟨rfl,rfl,rfl,rfl,rfl,?_⟩⟩
  ·have h48:(s.drop j).getD 0 0=48:=by rw[G9];exact(u8i (k:=48)).1 g3
   rw[Al _ (by omega) (by omega)]
   refine Aa (fun g4=>?_) fun g4=>⟨rfl,rfl,rfl,rfl,rfl,?_⟩
   ·unfold KD dcQ at hk
    rw[ha,if_pos (.inr ⟨by omega,h48⟩)]at hk;exact hk
   ·unfold dcQ
    rw[ha,if_neg (by rintro(h | ⟨h,_⟩);exact hne h;omega),hdr]
  ·unfold dcQ
   rw[ha,if_neg (by rintro(h | ⟨_,h⟩);exact hne h;exact g3 (by rw[G9]at h;exact(u8i (k:=48)).2 h)),hdr]
 rintro _ _ _ _ _ _ _ _ ⟨rfl,rfl,rfl,rfl,rfl,h2⟩
 rw[h2]at hk
 have hka:j+a.length<=s.length:=by omega
 rw[Int.toNat_natCast,Int.toNat_natCast,htk]
 have hal:a.length<=1000000:=by omega
 have hjk:j<=j+a.length:=Nat.le_add_right _ _
 have hak:a.length<=j+a.length:=Nat.le_add_left _ _
 generalize hkk:j+a.length=k at*
 clear h2 htk hdr hkk ha hlen hrl
 refine⟨⟨by omega,by omega,by omega⟩,?_⟩
 refine⟨fun k3 all ex s3 neg3 _ _ _ st'=>s=s3/\neg=neg3/\st=st'/\ -1000000<=ex/\ex<=0/\all.length<=1000000/\(∀c,c∈all->A2 c)/\∃m:Nat,k3=m/\m<=s.length/\dcF neg a (s.drop k)=dcE neg all ex (s.drop m),?_,?_⟩
 ·refine⟨fun b s3 neg3 k3 dg ex _ _ _ st'=>s=s3/\neg=neg3/\((k:Nat):Int)=k3/\a=dg/\(0:Int)=ex/\st=st'/\b=decide ((s.drop k).getD 0 0=46),Aa (fun g=>⟨⟨by omega,g⟩,rfl,rfl,rfl,rfl,rfl,rfl,?_⟩) fun g=>⟨rfl,rfl,rfl,rfl,rfl,rfl,?_⟩,?_⟩
  ·rw[G9];exact decide_eq_decide.2 (u8i (k:=46))
  ·refine(decide_eq_false fun h=>?_).symm
   rw[G9]at h
   have:=D9 (by decide) h;omega
  rintro b _ _ _ _ _ _ _ _ _ ⟨rfl,rfl,rfl,rfl,rfl,rfl,rfl⟩
  refine Aa (fun g=>?_) fun g=>⟨rfl,rfl,rfl,by omega,by omega,hal,hdg,k,rfl,hka,?_⟩
  ·have g46:s.getD k 0=46:=by rw[<-G9];exact g
   have hkl:=D9 (by decide) g46
   have hf1:=CE (s.drop (k+1))
   rw[List.length_drop]at hf1
   have htk:(s.take (k+1+(Aw (s.drop (k+1))).length)).drop (k+1)=Aw (s.drop (k+1)):=by rw[List.drop_take,Nat.add_sub_cancel_left];exact D7 _
   have hdf:=Ga (s.drop (k+1))
   rw[Al (((k:Nat):Int)+1) (by omega) (by omega)]
   refine Qe (k:=k+1) (by omega) (by omega) (by omega) ?_
   have hd1:(s.drop k).drop 1=s.drop (k+1):=by rw[List.drop_drop]
   generalize hf:Aw (s.drop (k+1))=f at*
   refine Aa (fun g2=>?_) fun g2=>?_
   ·have:f=[]:=List.length_eq_zero_iff.1 (by omega)
    unfold KD dcF at hk
    rw[if_pos g,hd1,hf,if_pos this]at hk;exact hk
   ·rw[show(((k:Nat):Int)+1).toNat=k+1 by omega,Int.toNat_natCast,htk,Al _ (by omega) (by omega)]
    refine⟨⟨by omega,by omega,by omega⟩,by omega,rfl,rfl,rfl,by omega,by omega,by rw[List.length_append];omega,fun c hc=>?_,k+1+f.length,rfl,by omega,?_⟩
    ·rcases List.mem_append.1 hc with hc | hc
     ·exact hdg c hc
     ·exact hdf c hc
    ·unfold dcF
     rw[if_pos g,hd1,hf,if_neg (fun e=>g2 (by rw[e];simp)),List.drop_drop]
     rw[show((k:Nat):Int)+1-((k+1+f.length:Nat):Int)= -(f.length:Nat) by omega,show k+(1+f.length)=k+1+f.length by omega]
  ·unfold dcF;rw[if_neg g]
 rintro _ all ex _ _ _ _ _ _ ⟨rfl,rfl,rfl,x1,x2,x3,x5,m,rfl,hm,h3⟩
 rw[h3]at hk
 clear h3 hdg hal hka hak
 refine⟨fun k7 ex7 s7 neg7 dg7 _ _ _ st'=>s=s7/\neg=neg7/\all=dg7/\st=st'/\ -3000000000<=ex7/\ex7<=3000000000/\∃p:Nat,k7=p/\p<=s.length/\dcE neg all ex (s.drop m)=(if p<s.length then JZ else dcN neg (Bb all) ex7),?_,?_⟩
 ·refine⟨fun b s5 neg5 k5 dg5 ex5 _ _ _ st'=>s=s5/\neg=neg5/\((m:Nat):Int)=k5/\all=dg5/\ex=ex5/\st=st'/\b=decide ((s.drop m).getD 0 0=101∨(s.drop m).getD 0 0=69),Aa (fun g=>?_) fun g=>⟨rfl,rfl,rfl,rfl,rfl,rfl,?_⟩,?_⟩
  ·rw[G9,Int.toNat_natCast]
   refine⟨⟨by omega,g⟩,Aa (fun g1=>⟨rfl,rfl,rfl,rfl,rfl,rfl,?_⟩) fun g1=>⟨⟨by omega,g⟩,rfl,rfl,rfl,rfl,rfl,rfl,?_⟩⟩
   ·exact(decide_eq_true (.inl ((u8i (k:=101)).1 g1))).symm
   ·refine decide_eq_decide.2 ⟨fun h=> .inr ((u8i (k:=69)).1 h),fun h=>?_⟩
    rcases h with h | h
    ·exact absurd ((u8i (k:=101)).2 h) g1
    ·exact(u8i (k:=69)).2 h
  ·refine(decide_eq_false fun h=>?_).symm
   rw[G9]at h
   rcases h with h | h
   ·have:=D9 (by decide) h;omega
   ·have:=D9 (by decide) h;omega
  rintro b _ _ _ _ _ _ _ _ _ ⟨rfl,rfl,rfl,rfl,rfl,rfl,rfl⟩
  refine Aa (fun g=>?_) fun g=>⟨rfl,rfl,rfl,rfl,by omega,by omega,m,rfl,hm,?_⟩
  ·have hml:m<s.length:=by
    rw[G9]at g
    rcases g with h | h
    ·exact D9 (by decide) h
    ·exact D9 (by decide) h
   have hne:s.drop m≠ []:=fun e=>by have:=congrArg List.length e;rw[List.length_drop]at this;simp at this;omega
   rw[Al (((m:Nat):Int)+1) (by omega) (by omega),show(((m:Nat):Int)+1).toNat=m+1 by omega]
   have hd1:(s.drop m).drop 1=s.drop (m+1):=by rw[List.drop_drop]
   have hd2:(s.drop m).drop 2=s.drop (m+1+1):=by rw[List.drop_drop]
   have hE:dcE neg all ex (s.drop m)=if s.getD (m+1) 0=45 then dcX neg all ex true (s.drop (m+1+1))else if s.getD (m+1) 0=43 then dcX neg all ex false (s.drop (m+1+1))else dcX neg all ex false (s.drop (m+1)):=by
    unfold dcE
    rw[if_neg hne,if_pos g,hd1,hd2,G9]
   refine⟨fun down s6 neg6 k6 dg6 ex6 _ _ _ st'=>s=s6/\neg=neg6/\(((m+1:Nat):Nat):Int)=k6/\all=dg6/\ex=ex6/\st=st'/\down=decide (s.getD (m+1) 0=45),Aa (fun g1=>⟨⟨by omega,g1⟩,rfl,rfl,by omega,rfl,rfl,rfl,decide_eq_decide.2 (u8i (k:=45))⟩) fun g1=>⟨rfl,rfl,by omega,rfl,rfl,rfl,(decide_eq_false fun h=>by have:=D9 (by decide) h;omega).symm⟩,?_⟩
   rintro down _ _ _ _ _ _ _ _ _ ⟨rfl,rfl,rfl,rfl,rfl,rfl,rfl⟩
   rw[Int.toNat_natCast]
   refine⟨fun k8 s8 neg8 dg8 ex8 down8 _ _ _ st'=>s=s8/\neg=neg8/\all=dg8/\ex=ex8/\st=st'/\∃q:Nat,k8=q/\q<=s.length/\dcE neg all ex (s.drop m)=dcX neg all ex down8 (s.drop q),?_,?_⟩
   ·refine Aa (fun g1=>⟨⟨by omega,g1⟩,Aa (fun g2=>⟨rfl,rfl,rfl,rfl,rfl,m+1+1,?_,by omega,?_⟩) fun g2=>⟨⟨by omega,g1⟩,Aa (fun g3=>⟨rfl,rfl,rfl,rfl,rfl,m+1+1,?_,by omega,?_⟩) fun g3=>⟨rfl,rfl,rfl,rfl,rfl,m+1,rfl,by omega,?_⟩⟩⟩) fun g1=>⟨rfl,rfl,rfl,rfl,rfl,m+1,rfl,by omega,?_⟩
    ·rw[Al _ (by omega) (by omega)];omega
    ·have g2':=(u8i (k:=45)).1 g2
     rw[hE,if_pos g2',decide_eq_true g2']
    ·rw[Al _ (by omega) (by omega)];omega
    ·have g2':¬s.getD (m+1) 0=45:=fun h=>g2 ((u8i (k:=45)).2 h)
     rw[hE,if_neg g2',if_pos ((u8i (k:=43)).1 g3),decide_eq_false g2']
    ·have g2':¬s.getD (m+1) 0=45:=fun h=>g2 ((u8i (k:=45)).2 h)
     rw[hE,if_neg g2',if_neg (fun h=>g3 ((u8i (k:=43)).2 h)),decide_eq_false g2']
    ·have g2':¬s.getD (m+1) 0=45:=fun h=>by have:=D9 (by decide) h;omega
     rw[hE,if_neg g2',if_neg (fun h=>by have:=D9 (by decide) h;omega),decide_eq_false g2']
   rintro _ _ _ _ _ less _ _ _ _ ⟨rfl,rfl,rfl,rfl,rfl,q,rfl,hq,h5⟩
   rw[h5]at hk⊢
   refine Qe (by omega) hq rfl ?_
   have hf1:=CE (s.drop q)
   rw[List.length_drop]at hf1
   have htk:(s.take (q+(Aw (s.drop q)).length)).drop q=Aw (s.drop q):=by rw[List.drop_take,Nat.add_sub_cancel_left];exact D7 _
   have hdf:=Ga (s.drop q)
   refine Aa (fun g1=>?_) fun g1=>?_
   ·unfold KD dcX at hk
    rw[if_pos]at hk
    ·exact hk
    ·by_cases h0:s.drop q=[]
     ·exact .inl h0
     ·refine .inr fun h=>h0 (List.length_eq_zero_iff.1 (by omega))
   ·rw[Int.toNat_natCast,Int.toNat_natCast,htk]
    refine⟨⟨by omega,by omega,by omega⟩,WI (by omega) hdf ?_⟩
    have key:∀z:Int,z=(if less then ex-((if (Bb (Aw (s.drop q))).length<=9 then BM (Aw (s.drop q))else 1000000000:Nat):Int)else ex+((if (Bb (Aw (s.drop q))).length<=9 then BM (Aw (s.drop q))else 1000000000:Nat):Int))->dcX neg all ex less (s.drop q)=(if q+(Aw (s.drop q)).length<s.length then JZ else dcN neg (Bb all) z):=by
     intro z hz
     unfold dcX
     by_cases hfull:q+(Aw (s.drop q)).length<s.length
     ·rw[if_pos hfull,if_pos (.inr (by rw[List.length_drop];omega))]
     ·have hall:Aw (s.drop q)=s.drop q:=by
       have:=Ma (s.drop q)
       have h0:(s.drop q).drop (Aw (s.drop q)).length=[]:=List.drop_of_length_le (by rw[List.length_drop];omega)
       rw[h0,List.append_nil]at this
       exact this.symm
      rw[if_neg hfull,if_neg (by rintro(h | h);exact g1 (by rw[h];simp[Aw]);exact h (by rw[hall])),hz]
      have hd5:∀c,c∈s.drop q->A2 c:=by rw[<-hall];exact hdf
      rw[hall]
      by_cases h9:(Bb (s.drop q)).length<=9
      ·rw[if_pos h9]
      ·rw[if_neg h9]
       have hf:=Q4 (k:=9) hd5 (by omega)
       exact(U4 (n:=((1000000000:Nat):Int)) (m:=(BM (s.drop q):Nat)) (by have:=EJ all;omega) (by omega) (by omega) (by omega) (by omega) less).symm
    have hb:(if (Bb (Aw (s.drop q))).length<=9 then BM (Aw (s.drop q))else 1000000000)<=1000000000:=by
     split
     ·rename_i h9
      have:=O1 hdf h9
      omega
     ·exact Nat.le_refl _
    generalize (if (Bb (Aw (s.drop q))).length<=9 then BM (Aw (s.drop q))else 1000000000)=N at*
    refine Ar (fun hb1=>⟨rfl,rfl,rfl,rfl,?_,?_,_,rfl,by omega,key _ ?_⟩) fun hb1=>⟨rfl,rfl,rfl,rfl,?_,?_,_,rfl,by omega,key _ ?_⟩
    ·rw[Al (0-_) (by omega) (by omega),Al _ (by omega) (by omega)];omega
    ·rw[Al (0-_) (by omega) (by omega),Al _ (by omega) (by omega)];omega
    ·rw[Al (0-_) (by omega) (by omega),Al _ (by omega) (by omega),if_pos hb1];omega
    ·rw[Al _ (by omega) (by omega)];omega
    ·rw[Al _ (by omega) (by omega)];omega
    ·rw[Al _ (by omega) (by omega),hb1];rfl
  ·unfold dcE
   by_cases hm2:m<s.length
   ·rw[if_pos hm2,if_neg (fun e=>by have:=congrArg List.length e;rw[List.length_drop]at this;simp at this;omega),if_neg g]
   ·rw[if_neg hm2,if_pos (List.drop_of_length_le (by omega))]
 rintro _ ex7 _ _ _ _ _ _ _ ⟨rfl,rfl,rfl,rfl,y1,y2,p,rfl,hp,h4⟩
 rw[h4]at hk
 unfold KD at hk
 refine Aa (fun g=>?_) fun g=>?_
 ·rw[if_pos (by omega)]at hk;exact hk
 ·rw[if_neg (by omega)]at hk
  exact VG (by omega) (by omega) (by omega) hk
theorem LQ {s:B8} {k:Nat} (hl:s.length<=1000000000) (hk0:k<=s.length) {I:Int} (hI:I=(k:Nat)) {st:St} {K:Int->St->Prop} (hk:K ((k+(Aw (s.drop k)).length:Nat):Int) st):Ad PR AD [.str s,.int .i64 I] [.one (.int .i64)] st K:=by
 subst hI
 refine Jx s _ st K ⟨fun n s' st'=>s=s'/\st=st'/\∃j:Nat,n=((k+j:Nat):Int)/\k+j<=s.length/\∀i,i<j->A2 (s.getD (k+i) 0),fun n _ _=>(s.length-n).toNat,⟨rfl,rfl,0,rfl,by omega,fun j h=>absurd h (Nat.not_lt_zero _)⟩,?_⟩
 rintro _ _ _ ⟨rfl,rfl,j,rfl,hj1,hd⟩
 rw[Int.toNat_natCast]
 have fin:(k+j=s.length∨¬A2 (s.getD (k+j) 0))->K ((k+j:Nat):Int) st:=fun h=>by
  have:=Hb (s.drop k) j (by rw[List.length_drop];omega) (fun i hi=>by have:=hd i hi;simpa [List.getD]using this) (by
   rcases h with h | h
   ·left;rw[List.length_drop];omega
   ·right;simpa [List.getD]using h)
  rw[this]at hk;exact hk
 have hB:I9 ((s.getD (k+j) 0).toNat:Int)=decide (A2 (s.getD (k+j) 0)):=by
  unfold I9 A2
  exact decide_eq_decide.2 ⟨fun h=>⟨by omega,by omega⟩,fun h=>⟨by omega,by omega⟩⟩
 refine Aa (fun g=>⟨⟨by omega,g⟩,Sn (Ar (fun g1=>?_) fun g1=>fin (.inr fun h=>?_))⟩) fun g=>fin (.inl (by omega))
 ·rw[hB]at g1
  rw[Al _ (by omega) (by omega)]
  refine⟨⟨rfl,rfl,j+1,by omega,by omega,fun i hi=>?_⟩,by dsimp only;omega⟩
  by_cases hij:i=j
  ·rw[hij];exact of_decide_eq_true g1
  ·exact hd i (by omega)
 ·rw[hB,decide_eq_true h]at g1;cases g1
def isX (r:B8):Prop:=r≠ []/\(Aw r).length=r.length
def isE (r:B8):Prop:=r=[]∨((r.getD 0 0=101∨r.getD 0 0=69)/\(if (r.drop 1).getD 0 0=45∨(r.drop 1).getD 0 0=43 then isX (r.drop 2)else isX (r.drop 1)))
def isF (r:B8):Prop:=if r.getD 0 0=46 then Aw (r.drop 1)≠ []/\isE (r.drop (1+(Aw (r.drop 1)).length))else isE r
def isQ (t:B8):Prop:=Aw t≠ []/\¬(1<(Aw t).length/\t.getD 0 0=48)/\isF (t.drop (Aw t).length)
instance (r:B8):Decidable (isX r):=inferInstanceAs (Decidable (_/\_))
instance (r:B8):Decidable (isE r):=by unfold isE;infer_instance
instance (r:B8):Decidable (isF r):=by unfold isF;infer_instance
instance (r:B8):Decidable (isQ r):=by unfold isQ;infer_instance
theorem U5 (neg:Bool) (s:B8) (ex:Int):(dcN neg s ex).2.2.2=0∨(dcN neg s ex).2.2.2=2:=by
 unfold dcN;split
 ·exact .inl rfl
 ·split
  ·exact .inr rfl
  ·exact .inl rfl
def okE (e:Int):Prop:=e=0∨e=2
theorem QG (neg:Bool) (all:B8) (ex:Int) (less:Bool) (r:B8):(isX r->okE (dcX neg all ex less r).2.2.2)/\(¬isX r->(dcX neg all ex less r).2.2.2=3):=by
 unfold dcX isX
 by_cases h:r=[]∨(Aw r).length≠r.length
 ·rw[if_pos h]
  refine⟨fun g=>?_,fun _=>rfl⟩
  rcases h with h | h
  ·exact absurd h g.1
  ·exact absurd g.2 h
 ·rw[if_neg h]
  have h':r≠ []/\(Aw r).length=r.length:=⟨fun e=>h (.inl e),Decidable.not_not.1 fun e=>h (.inr e)⟩
  exact⟨fun _=>U5 _ _ _,fun g=>absurd h' g⟩
theorem U7 (neg:Bool) (all:B8) (ex:Int) (r:B8):(isE r->okE (dcE neg all ex r).2.2.2)/\(¬isE r->(dcE neg all ex r).2.2.2=3):=by
 unfold dcE isE
 by_cases h:r=[]
 ·rw[if_pos h];exact⟨fun _=>U5 _ _ _,fun g=>absurd (.inl h) g⟩
 rw[if_neg h]
 by_cases h2:r.getD 0 0=101∨r.getD 0 0=69
 ·rw[if_pos h2]
  by_cases h3:(r.drop 1).getD 0 0=45
  ·rw[if_pos h3,if_pos (.inl h3)]
   have:=QG neg all ex true (r.drop 2)
   exact⟨fun g=>this.1 (by rcases g with g | g;exact absurd g h;exact g.2),fun g=>this.2 fun g2=>g (.inr ⟨h2,g2⟩)⟩
  ·rw[if_neg h3]
   by_cases h4:(r.drop 1).getD 0 0=43
   ·rw[if_pos h4,if_pos (.inr h4)]
    have:=QG neg all ex false (r.drop 2)
    exact⟨fun g=>this.1 (by rcases g with g | g;exact absurd g h;exact g.2),fun g=>this.2 fun g2=>g (.inr ⟨h2,g2⟩)⟩
   ·rw[if_neg h4,if_neg (by rintro(g | g);exact h3 g;exact h4 g)]
    have:=QG neg all ex false (r.drop 1)
    exact⟨fun g=>this.1 (by rcases g with g | g;exact absurd g h;exact g.2),fun g=>this.2 fun g2=>g (.inr ⟨h2,g2⟩)⟩
 ·rw[if_neg h2]
  exact⟨fun g=>by rcases g with g | g;exact absurd g h;exact absurd g.1 h2,fun _=>rfl⟩
theorem dcF_err (neg:Bool) (a r:B8):(isF r->okE (dcF neg a r).2.2.2)/\(¬isF r->(dcF neg a r).2.2.2=3):=by
 unfold dcF isF
 by_cases h:r.getD 0 0=46
 ·rw[if_pos h,if_pos h]
  by_cases h2:Aw (r.drop 1)=[]
  ·rw[if_pos h2];exact⟨fun g=>absurd h2 g.1,fun _=>rfl⟩
  ·rw[if_neg h2]
   have:=U7 neg (a++Aw (r.drop 1)) (-(Aw (r.drop 1)).length) (r.drop (1+(Aw (r.drop 1)).length))
   exact⟨fun g=>this.1 g.2,fun g=>this.2 fun g2=>g ⟨h2,g2⟩⟩
 ·rw[if_neg h,if_neg h];exact U7 _ _ _ _
theorem U2 (neg:Bool) (t:B8):(isQ t->okE (dcQ neg t).2.2.2)/\(¬isQ t->(dcQ neg t).2.2.2=3):=by
 unfold dcQ isQ
 by_cases h:Aw t=[]∨(1<(Aw t).length/\t.getD 0 0=48)
 ·rw[if_pos h]
  refine⟨fun g=>?_,fun _=>rfl⟩
  rcases h with h | h
  ·exact absurd h g.1
  ·exact absurd h g.2.1
 ·rw[if_neg h]
  have:=dcF_err neg (Aw t) (t.drop (Aw t).length)
  exact⟨fun g=>this.1 g.2.2,fun g=>this.2 fun g2=>g ⟨fun e=>h (.inl e),fun e=>h (.inr e),g2⟩⟩
def D2 (s:B8):Nat:=if s.getD 0 0=45 then 1 else 0
theorem QH (s:B8):(isQ (s.drop (D2 s))->okE (dcP s).2.2.2)/\(¬isQ (s.drop (D2 s))->(dcP s).2.2.2=3):=by
 unfold dcP D2
 by_cases h:s.getD 0 0=45
 ·rw[if_pos h,if_pos h];exact U2 _ _
 ·rw[if_neg h,if_neg h,List.drop_zero];exact U2 _ _
theorem W4 {s:B8} (hl:s.length<=1000000) {st:St} {K:Bool->Bool->St->Prop} (hk:∀b2,K (decide (isQ (s.drop (D2 s)))) b2 st):Ad PR Cr [.str s] [.one .bool,.one .bool] st K:=by
 refine GH s st K ⟨fun i s' st'=>s=s'/\st=st'/\i=((D2 s:Nat):Int),?_,?_⟩
 ·refine Aa (fun g=>⟨⟨by omega,g⟩,Aa (fun g1=>⟨rfl,rfl,?_⟩) fun g1=>⟨rfl,rfl,?_⟩⟩) fun g=>⟨rfl,rfl,?_⟩
  ·rw[Al _ (by omega) (by omega)];unfold D2;rw[if_pos (show s.getD 0 0=45 from(u8i (k:=45)).1 g1)];rfl
  ·unfold D2;rw[if_neg (show ¬s.getD 0 0=45 from fun h=>g1 ((u8i (k:=45)).2 h))];rfl
  ·unfold D2;rw[if_neg (show ¬s.getD 0 0=45 from fun h=>by have:=D9 (by decide) h;omega)];rfl
 rintro _ _ _ ⟨rfl,rfl,rfl⟩
 have hjl:D2 s<=s.length:=by
  unfold D2;split
  ·rename_i h;have:=D9 (by decide) h;omega
  ·exact Nat.zero_le _
 have hj1:D2 s<=1:=by unfold D2;split<;>omega
 generalize D2 s=j at*
 have no:¬isQ (s.drop j)->∀b2,K false b2 st:=fun hn b2=>by have:=hk b2;rw[decide_eq_false hn]at this;exact this
 have hrl:=CE (s.drop j)
 rw[List.length_drop]at hrl
 refine Aa (fun g=>no (fun h=>h.1 ?_) _) fun g=>LQ (by omega) hjl rfl ?_
 ·rw[List.drop_of_length_le (by omega)];rfl
 have hqq:isQ (s.drop j)↔Aw (s.drop j)≠ []/\¬(1<(Aw (s.drop j)).length/\(s.drop j).getD 0 0=48)/\isF ((s.drop j).drop (Aw (s.drop j)).length):=Iff.rfl
 rw[List.drop_drop,G9]at hqq
 generalize ha:Aw (s.drop j)=a at*
 rw[Al _ (by omega) (by omega),Int.toNat_natCast]
 have hgo:a≠ []->¬(1<a.length/\s.getD j 0=48)->(isQ (s.drop j)↔isF (s.drop (j+a.length))):=fun h1 h2=>by rw[hqq];exact⟨fun h=>h.2.2,fun h=>⟨h1,h2,h⟩⟩
 have hne:¬((j+a.length:Nat):Int)=(j:Int)->a≠ []:=fun g e=>g (by rw[e];simp)
 refine⟨fun s2 k2 st'=>s=s2/\st=st'/\k2=((j+a.length:Nat):Int)/\(isQ (s.drop j)↔isF (s.drop (j+a.length))),Aa (fun g1=>no (fun h=>(hqq.1 h).1 (List.length_eq_zero_iff.1 (by omega))) _) fun g1=>⟨⟨by omega,by omega⟩,Aa (fun g2=>Aa (fun g3=>no (fun h=>(hqq.1 h).2.1 ⟨by omega,(u8i (k:=48)).1 g2⟩) _) fun g3=>⟨rfl,rfl,rfl,hgo (hne g1) fun h=>g3 (by omega)⟩) fun g2=>⟨rfl,rfl,rfl,hgo (hne g1) fun h=>g2 ((u8i (k:=48)).2 h.2)⟩⟩,?_⟩
 rintro _ _ _ ⟨rfl,rfl,rfl,h2⟩
 replace hk:∀b2,K (decide (isF (s.drop (j+a.length)))) b2 st:=fun b=>by have:=hk b;rw[decide_eq_decide.2 h2]at this;exact this
 clear no hqq hgo hne h2 ha
 have hkl:j+a.length<=s.length:=by omega
 generalize j+a.length=k at*
 clear hrl hjl hj1 g
 have no:¬isF (s.drop k)->∀b2,K false b2 st:=fun hn b2=>by have:=hk b2;rw[decide_eq_false hn]at this;exact this
 have hff:isF (s.drop k)↔(if s.getD k 0=46 then Aw (s.drop (k+1))≠ []/\isE (s.drop (k+(1+(Aw (s.drop (k+1))).length)))else isE (s.drop k)):=by
  unfold isF;rw[G9,List.drop_drop,List.drop_drop]
 refine⟨fun i2 s2 st'=>s=s2/\st=st'/\∃m:Nat,i2=m/\m<=s.length/\(isF (s.drop k)↔isE (s.drop m)),?_,?_⟩
 ·have w1:i64.wrap (((k:Nat):Int)+1)=((k+1:Nat):Int):=by rw[Al _ (by omega) (by omega)];omega
  rw[w1,Int.toNat_natCast]
  refine Aa (fun g=>⟨⟨by omega,g⟩,Aa (fun g1=>LQ (by omega) (by omega) rfl ?_) fun g1=>⟨rfl,rfl,k,rfl,hkl,?_⟩⟩) fun g=>⟨rfl,rfl,k,rfl,hkl,?_⟩
  ·rw[if_pos ((u8i (k:=46)).1 g1)]at hff
   have hrl:=CE (s.drop (k+1))
   rw[List.length_drop]at hrl
   refine Aa (fun g2=>no (fun h=>(hff.1 h).1 (List.length_eq_zero_iff.1 (by omega))) _) fun g2=>⟨rfl,rfl,_,rfl,by omega,?_⟩
   rw[hff,show k+1+(Aw (s.drop (k+1))).length=k+(1+(Aw (s.drop (k+1))).length) by omega]
   exact⟨fun h=>h.2,fun h=>⟨fun e=>g2 (by rw[e];simp),h⟩⟩
  ·rw[if_neg (fun h=>g1 ((u8i (k:=46)).2 h))]at hff;exact hff
  ·rw[if_neg (fun h=>by have:=D9 (by decide) h;omega)]at hff;exact hff
 rintro _ _ _ ⟨rfl,rfl,m,rfl,hml,h3⟩
 replace hk:∀b2,K (decide (isE (s.drop m))) b2 st:=fun b=>by have:=hk b;rw[decide_eq_decide.2 h3]at this;exact this
 clear no hff h3 hkl
 have tail:∀(p:Nat),p<=s.length->(∀b2,K (decide (isX (s.drop p))) b2 st)->Ad PR AD [.str s,.int .i64 ((p:Nat):Int)] [.one (.int .i64)] st (fun n st'=>BIf (decide (n=((p:Nat):Int))) (K false (decide (n=(s.length:Int))) st') (K (decide (n=(s.length:Int))) (decide (n=(s.length:Int))) st')):=fun p hp h=>by
  refine LQ (by omega) hp rfl ?_
  have hrl:=CE (s.drop p)
  rw[List.length_drop]at hrl
  refine Aa (fun g=>?_) fun g=>?_
  ·have:=h (decide (((p+(Aw (s.drop p)).length:Nat):Int)=(s.length:Int)))
   rw[decide_eq_false (fun hx=>?_)]at this
   ·exact this
   ·have h1:=hx.2
    have h2:=List.length_pos_iff.2 hx.1
    have g':((p+(Aw (s.drop p)).length:Nat):Int)=((p:Nat):Int):=g
    rw[List.length_drop]at h1 h2
    omega
  ·have:=h (decide (((p+(Aw (s.drop p)).length:Nat):Int)=(s.length:Int)))
   rw[decide_eq_decide.2 (show isX (s.drop p)↔((p+(Aw (s.drop p)).length:Nat):Int)=(s.length:Int)from ?_)]at this
   ·exact this
   ·unfold isX
    rw[List.length_drop]
    exact⟨fun h=>by omega,fun h=>⟨fun e=>g (by rw[e];simp[Aw]),by omega⟩⟩
 have hee:isE (s.drop m)↔m=s.length∨((s.getD m 0=101∨s.getD m 0=69)/\(if s.getD (m+1) 0=45∨s.getD (m+1) 0=43 then isX (s.drop (m+2))else isX (s.drop (m+1)))):=by
  unfold isE
  rw[G9,List.drop_drop,List.drop_drop,G9,List.drop_eq_nil_iff]
  exact⟨fun h=>h.imp (fun h=>by omega) id,fun h=>h.imp (fun h=>by omega) id⟩
 have w1:i64.wrap (((m:Nat):Int)+1)=((m+1:Nat):Int):=by rw[Al _ (by omega) (by omega)];omega
 have w2:i64.wrap (((m+1:Nat):Int)+1)=((m+2:Nat):Int):=by rw[Al _ (by omega) (by omega)];omega
 simp only[w1,w2,Int.toNat_natCast]
 have go:m<s.length->(s.getD m 0=101∨s.getD m 0=69)->∀p,p<=s.length->((if s.getD (m+1) 0=45∨s.getD (m+1) 0=43 then isX (s.drop (m+2))else isX (s.drop (m+1)))↔isX (s.drop p))->Ad PR AD [.str s,.int .i64 ((p:Nat):Int)] [.one (.int .i64)] st (fun n st'=>BIf (decide (n=((p:Nat):Int))) (K false (decide (n=(s.length:Int))) st') (K (decide (n=(s.length:Int))) (decide (n=(s.length:Int))) st')):=fun hlt hc p hp hi=>tail p hp fun b2=>by
  have:=hk b2
  rw[decide_eq_decide.2 (show isE (s.drop m)↔isX (s.drop p)from ?_)]at this
  ·exact this
  ·rw[hee,hi];exact⟨fun h=>h.elim (fun h=>by omega) fun h=>h.2,fun h=> .inr ⟨hc,h⟩⟩
 have fin:¬(s.getD m 0=101∨s.getD m 0=69)->∀b2,K (decide (((m:Nat):Int)=(s.length:Int))) b2 st:=fun hn b2=>by
  have:=hk b2
  rw[decide_eq_decide.2 (show isE (s.drop m)↔((m:Nat):Int)=(s.length:Int)from ?_)]at this
  ·exact this
  ·rw[hee];exact⟨fun h=>h.elim (fun h=>by omega) fun h=>absurd h.1 hn,fun h=> .inl (by omega)⟩
 refine Aa (fun g=>⟨⟨by omega,g⟩,Aa (fun g1=>?q1) fun g1=>⟨⟨by omega,g⟩,Aa (fun g2=>?q2) fun g2=>?_⟩⟩) fun g=>?_
 case q1 | q2=>
  have hc:s.getD m 0=101∨s.getD m 0=69:=by first | exact .inl ((u8i (k:=101)).1 (by assumption)) | exact .inr ((u8i (k:=69)).1 (by assumption))
  have hlt:m<s.length:=by omega
  refine Aa (fun g4=>⟨⟨by omega,g4⟩,Aa (fun g5=>go hlt hc (m+2) (by omega) (by rw[if_pos (.inr ((u8i (k:=43)).1 g5))])) fun g5=>⟨⟨by omega,g4⟩,Aa (fun g6=>go hlt hc (m+2) (by omega) (by rw[if_pos (.inl ((u8i (k:=45)).1 g6))])) fun g6=>go hlt hc (m+1) (by omega) (by rw[if_neg (by rintro(h | h);exact g6 ((u8i (k:=45)).2 h);exact g5 ((u8i (k:=43)).2 h))])⟩⟩) fun g4=>go hlt hc (m+1) (by omega) ?_
  rw[if_neg (by rintro(h | h)<;>(have:=D9 (by decide) h;omega))]
 ·exact fin (by rintro(h | h);exact g1 ((u8i (k:=101)).2 h);exact g2 ((u8i (k:=69)).2 h)) _
 ·exact fin (by rintro(h | h)<;>(have:=D9 (by decide) h;omega)) _
def scK (k:Nat):Sc:=⟨(k:Nat),false,false,[],0,0,0,0,0,[],[]⟩
theorem SQ (st:St) (s:Sc) (h:s.bytes=[]):VlR st (.mk s [] []) (Bk s .nilSlice .nilSlice .nilSlice):=by
 unfold VlR
 refine⟨_,_,_,[],[],rfl,?_,.of_rd (.inl ⟨rfl,rfl,rfl⟩),by unfold VsR;rfl,.of_rd (.inl ⟨rfl,rfl,rfl⟩),by unfold FsR;rfl⟩
 rw[h];exact .of_rd (.inl ⟨rfl,rfl,rfl⟩)
theorem FsR.snoc0 {st:St} {d:Fd} {cd:List TV} {l:List Fd} {xs:List TV} (h:FsR st l xs) (hd:FdR st d cd):FsR st (l++[d]) (xs++cd):=by
 obtain⟨cks,rfl,hall⟩:=h.chunks
 have:=FsR.of_chunks (hall.snoc hd)
 simpa using this
def b64A:B8:=[65,66,67,68,69,70,71,72,73,74,75,76,77,78,79,80,81,82,83,84,85,86,87,88,89,90,97,98,99,100,101,102,103,104,105,106,107,108,109,110,111,112,113,114,115,116,117,118,119,120,121,122,48,49,50,51,52,53,54,55,56,57,43,47]
def fnd:B8->UInt8->Int
 | [],_=> -1
 | a::al,c=>if a=c then 0 else if fnd al c<0 then-1 else fnd al c+1
def Uh (l:B8) (i:Nat):Nat:=(l.getD (i/8) 0).toNat/2^(7-i%8)%2
def bdg (l:B8) (i:Nat):Nat->Nat
 | 0=>0
 | m+1=>bdg l i m*2+Uh l (i+m)
theorem dg6 (l:B8) (i:Nat):bdg l i 6=((((Uh l i*2+Uh l (i+1))*2+Uh l (i+2))*2+Uh l (i+3))*2+Uh l (i+4))*2+Uh l (i+5):=by
 simp[bdg]
theorem szl' (s:Sc):(Vl.mk s [] []).sz=1+s.bytes.length+s.text.length+s.dg.length:=by rw[szs];rfl
def tkT (s:B8):Sc:=⟨4,false,false,[],0,0,0,0,0,s,[]⟩
def tkB (b:Bool):Sc:=⟨1,b,false,[],0,0,0,0,0,[],[]⟩
def tkN (neg:Bool) (dg:B8) (ex:Int):Sc:=⟨2,false,neg,dg,ex,0,0,0,0,[],[]⟩
def tkM (k d n z:Int):Sc:=⟨3,false,false,[],0,k,d,n,z,[],[]⟩
theorem GX:A5 []=0:=Cy _ (by simp[ul])
theorem QM (l:B8) (m j:Nat):bt (l.take m) j=if j<m then bt l j else 0:=by
 unfold bt
 by_cases h:j<m
 ·rw[if_pos h];simp[List.getD,List.getElem?_take,h]
 ·rw[if_neg h];simp[List.getD,List.getElem?_take,h]
theorem LO (l:B8) (m r0:Nat):∀j,j<m->Cz (l.take m) r0 j=Cz l r0 j
 | 0,_=>rfl
 | j+1,h=>by
  simp only[Cz]
  rw[LO l m r0 j (by omega),QM,if_pos h]
theorem Uw {l:B8} {m:Nat} (h:ul l≠0) (hm:ul l<=m):ul (l.take m)=ul l/\ur (l.take m)=ur l:=by
 have hne:l≠ []:=fun h0=>h (by simp[ul,h0])
 have hle:=Nn l
 have hne2:l.take m≠ []:=by
  intro h0
  have:=congrArg List.length h0
  rw[List.length_take]at this
  simp only[List.length_nil]at this
  have:0<l.length:=List.length_pos_iff.2 hne
  omega
 have e1:=Gv l hne
 have e2:=Gv (l.take m) hne2
 rw[if_neg h]at e1
 have hs:=Qd (bt l 0)
 unfold OO at e1
 simp only at e1
 by_cases g1:l.length<rsz (bt l 0)
 ·rw[if_pos g1]at e1
  simp only[Prod.mk.injEq]at e1;omega
 rw[if_neg g1]at e1
 split at e1
 ·rename_i hc
  simp only[Prod.mk.injEq]at e1
  unfold OO at e2
  simp only at e2
  rw[QM,if_pos (show 0<m by omega),LO _ _ _ _ (by omega),if_neg (by rw[List.length_take];omega),List.take_take,Nat.min_eq_left (by omega),if_pos hc]at e2
  split at e2
  ·simp only[Prod.mk.injEq]at e2;omega
  ·simp only[Prod.mk.injEq]at e2;omega
 ·simp only[Prod.mk.injEq]at e1;omega
theorem SR {l:B8} {m:Nat} (h:ul (l.take m)≠0):ul l=ul (l.take m):=by
 have hne2:l.take m≠ []:=fun h0=>h (by simp[ul,h0])
 have hne:l≠ []:=by rintro rfl;simp at hne2
 have hm:0<m:=by rcases Nat.eq_zero_or_pos m with h0 | h0;(rw[h0]at hne2;simp at hne2);exact h0
 have e1:=Gv l hne
 have e2:=Gv (l.take m) hne2
 rw[if_neg h]at e2
 have hs:=Qd (bt l 0)
 have hb:bt (l.take m) 0=bt l 0:=by rw[QM,if_pos hm]
 unfold OO at e2
 simp only[hb]at e2
 split at e2
 ·simp only[Prod.mk.injEq]at e2;omega
 rename_i g1
 rw[List.length_take]at g1
 split at e2
 ·rename_i hc
  simp only[Prod.mk.injEq]at e2
  rw[LO _ _ _ _ (by omega),List.take_take,Nat.min_eq_left (by omega)]at hc
  unfold OO at e1
  simp only at e1
  rw[if_neg (by omega),if_pos hc]at e1
  split at e1
  ·simp only[Prod.mk.injEq]at e1;omega
  ·simp only[Prod.mk.injEq]at e1;omega
 ·simp only[Prod.mk.injEq]at e2;omega
theorem Nh:∀(n:Nat) (a b:B8),a.length<=n->A5 a=a.length->A5 (a++b)=a.length+A5 b:=by
 intro n
 induction n with
 | zero=>intro a b h hv;have:a=[]:=List.eq_nil_of_length_eq_zero (by omega);subst this;simp
 | succ n ih=>
  intro a b h hv
  by_cases ha:a=[]
  ·subst ha;simp
  have hpos:0<a.length:=List.length_pos_iff.2 ha
  have h0:ul a≠0:=fun h0=>by rw[Cy a h0]at hv;omega
  have hle:=Nn a
  have hu:ul (a++b)=ul a:=by
   have:=SR (l:=a++b) (m:=a.length) (by rw[List.take_left];exact h0)
   rw[List.take_left]at this;exact this
  rw[EH _ h0]at hv
  rw[EH _ (by rw[hu];exact h0),hu,List.drop_append_of_le_length hle,ih _ b (by rw[List.length_drop];omega) (by rw[List.length_drop];omega),List.length_drop]
  omega
theorem Q1 {a b:B8} (ha:A5 a=a.length) (hb:A5 b=b.length):A5 (a++b)=(a++b).length:=by
 rw[Nh _ a b (Nat.le_refl _) ha,List.length_append,hb]
theorem headDg {a b:B8} (ha:∀c,c∈a->A2 c) (hne:a≠ []):A2 ((a++b).getD 0 0):=by
 obtain⟨c,r,rfl⟩:=List.exists_cons_of_ne_nil hne
 exact ha c (by simp)
theorem not_isQ {a r:B8} {c:UInt8} (ha:∀d,d∈a->A2 d) (hc:c=45∨c=58):¬isQ (a++c::r):=by
 rintro⟨_,_,h⟩
 have h0:(c::r).getD 0 0=c:=rfl
 have hn:¬A2 c:=by rcases hc with rfl | rfl<;>decide
 rw[VY ha (by rw[h0];exact hn),List.drop_left]at h
 unfold isF at h
 rw[h0,if_neg (by rcases hc with rfl | rfl<;>decide)]at h
 unfold isE at h
 rw[h0]at h
 rcases h with h | ⟨h | h,_⟩
 ·cases h
 ·rcases hc with rfl | rfl<;>revert h<;>decide
 ·rcases hc with rfl | rfl<;>revert h<;>decide
theorem L0 (st:St):He St.zero st:=⟨Nat.zero_le _,fun i hi=>absurd hi (Nat.not_lt_zero _)⟩
def v64 (c:UInt8):Nat:=(fnd b64A c).toNat
def fin (k eq w:Nat) (pad:Bool) (o:B8):B8×Int:=
 if k%4=0/\eq=0 then(o,0)
 else if 0<eq/\(k%4<2∨4-k%4<eq∨w≠0)then([],3)
 else if k%4=1∨w≠0∨(pad=true/\eq<4-k%4)then([],4)
 else(o,0)
def isD (c:UInt8):Bool:=decide (0<=fnd b64A c)
def lead (s:B8):Nat:=(s.takeWhile isD).length
def nch (c:UInt8):Prop:=A2 c∨c=45∨c=43∨c=46∨c=101
instance (c:UInt8):Decidable (nch c):=inferInstanceAs (Decidable (_∨_))
def tkF (t s:B8) (a:Nat) (b:Bool):Prop:=b=false/\(s.drop a).take t.length=t
instance (t s:B8) (a:Nat) (b:Bool):Decidable (tkF t s a b):=inferInstanceAs (Decidable (_/\_))
end Go.TVF
section
namespace Go.TVF
open Go.IntKind(i64 u8)
open Go Go.Proofs Go.ChangeShapes
section
variable {H:Type} {enc:TypeId×Value->H} {P:Program} {w:World} {base:Nat} {held:Bool}
def Op (enc:TypeId×Value->H) (P:Program) (w:World) (base:Nat) (held:Bool) (n c:Nat) (S:List TV->Prop) (e:TypeId):Prop:=
 P.cellsOf e=c/\∀vs x,DataW.trod enc P w base (fun _=>true) held n e vs=some x->∃tv,AV (Ghost.start w) w tv vs/\tv.length=c/\S tv
theorem op_cell {n:Nat} {c:CTy} {e:TypeId} (h:QX P c e) (hc:P.cellsOf e=1):Op enc P w base held n 1 (flatIs [c]) e:=⟨hc,fun vs x hd=>by
 obtain⟨v,u,rfl,hr,hf⟩:=LU (Ghost.start w) h hd
 exact⟨[v],.cons hr (.nil _ _),rfl,hf⟩⟩
def SlS (c:Nat) (S:List TV->Prop) (v:TV):Prop:=
 v= .nilSlice∨∃cks:List (List TV),v= .list c .non cks.length cks.flatten/\∀ck,ck∈cks->ck.length=c/\S ck
theorem WN {n c:Nat} {S:List TV->Prop} {t e:TypeId} (ht:P.underlying t=some (.slice e)) (ht1:P.cellsOf t=1) (hc1:1<=c) (hE:∀m,m<n->Op enc P w base held m c S e):
  Op enc P w base held n 1 (fun tv=>∃v,tv=[v]/\SlS c S v) t:=by
 refine⟨ht1,fun vs x h=>?_⟩
 rcases DataW.trod_slice ht h with⟨rfl,_⟩ | ⟨a,len,cap,elems,rest,m,rfl,rfl,rfl,hb,hl,hm,hel,hi,hsp,_⟩
 ·exact⟨[.nilSlice],.cons .nilSlice (.nil _ _),rfl,_,rfl,.inl rfl⟩
 ·obtain⟨hcE,hE⟩:=hE m (by omega)
  rw[hcE]at hi hsp
  by_cases hcap:cap=0
  ·subst hcap
   obtain rfl:len=0:=by omega
   exact⟨[.list c .non 0 []],.cons (.listE _ _ _ (fun id h=>by cases h)) (.nil _ _),rfl,_,rfl,.inr ⟨[],rfl,fun ck h=>by cases h⟩⟩
  ·obtain⟨b,o,spot⟩:=a
   have hspot:spot=none:=by
    have key:∀(i:Nat) (l:List (DataW H×List MemPlace)) (k:Nat),k<l.length->i=0->(w.cells? base ((⟨b,o,spot⟩:Addr).add (i*c)) c).bind (DataW.trod enc P w base (fun _=>true) held m e)=l[k]?->spot=none:=by
     intro i l k hk hi0 h
     subst hi0
     rw[List.getElem?_eq_getElem hk]at h
     obtain⟨vs,h1,_⟩:=Option.bind_eq_some_iff.1 h
     obtain⟨_,hvl,hvc⟩:=World.cells?_some h1
     have:=World.cell?_spot ((hvc 0 (by omega)).trans (List.getElem?_eq_getElem (show 0<vs.length by omega)))
     rw[Nat.zero_mul]at this
     exact this
    by_cases h0:0<len
    ·exact key 0 elems 0 (by omega) rfl (hi 0 h0)
    ·obtain⟨hr,hs⟩:=hsp rfl
     exact key _ rest 0 (by omega) (by omega) (hs 0 (by omega))
   subst hspot
   have each:∀i,i<len->∃tv vs,AV (Ghost.start w) w tv vs/\tv.length=c/\S tv/\vs.length=c/\∀j,j<c->w.cell? ⟨b,o+(i*c+j),none⟩=some (vs.getD j Go.undef):=by
    intro i hil
    have h:=hi i hil
    rw[List.getElem?_eq_getElem (by omega)]at h
    obtain⟨vs,h1,h2⟩:=Option.bind_eq_some_iff.1 h
    obtain⟨tv,hr,htl,hf⟩:=hE vs _ h2
    obtain⟨_,hvl,hvc⟩:=World.cells?_some h1
    refine⟨tv,vs,hr,htl,hf,hvl,fun j hj=>?_⟩
    have:=hvc j (by omega)
    rw[Deep.add_add,HR]at this
    rw[this]
    simp[List.getD,show j<vs.length by omega]
   have build:∀k,k<=len->∃cks:List (List TV),cks.length=k/\(∀ck,ck∈cks->ck.length=c/\S ck)/\cks.flatten.length=k*c/\∀i (h:i<cks.flatten.length),∃u,w.cell? ⟨b,o+i,none⟩=some u/\Rel (Ghost.start w) w cks.flatten[i] u:=by
    intro k
    induction k with
    | zero=>intro _;exact⟨[],rfl,(fun ck h=>by cases h),by simp,fun i h=>absurd h (Nat.not_lt_zero _)⟩
    | succ k ih=>
     intro hk
     obtain⟨cks,h0,h1,h2,h3⟩:=ih (by omega)
     obtain⟨tv,vs,hr,htl,hf,hvl,hvc⟩:=each k (by omega)
     have hfl:(cks++[tv]).flatten=cks.flatten++tv:=by simp
     refine⟨cks++[tv],by simp[h0],fun ck h=>?_,by rw[hfl,List.length_append,h2,htl,Nat.succ_mul],fun i h=>?_⟩
     ·rcases List.mem_append.1 h with h | h
      ·exact h1 ck h
      ·rw[List.mem_singleton.1 h];exact⟨htl,hf⟩
     ·simp only[hfl]at h⊢
      by_cases hix:i<cks.flatten.length
      ·rw[List.getElem_append_left hix];exact h3 i hix
      ·rw[List.getElem_append_right (by omega)]
       rw[List.length_append]at h
       have hj:i-cks.flatten.length<tv.length:=by omega
       refine⟨vs.getD (i-cks.flatten.length) Go.undef,?_,hr.2 _ hj⟩
       have:=hvc (i-cks.flatten.length) (by omega)
       rw[show o+i=o+(k*c+(i-cks.flatten.length)) by rw[<-h2];omega]
       exact this
   obtain⟨cks,h0,h1,h2,h3⟩:=build len (Nat.le_refl _)
   refine⟨[.list c .non cks.length cks.flatten],.cons ?_ (.nil _ _),rfl,_,rfl,.inr ⟨cks,rfl,h1⟩⟩
   have hu:∀i,∃u,(h:i<cks.flatten.length)->w.cell? ⟨b,o+i,none⟩=some u/\Rel (Ghost.start w) w cks.flatten[i] u:=fun i=>by
    by_cases h:i<cks.flatten.length
    ·obtain⟨u,hu⟩:=h3 i h
     exact⟨u,fun _=>hu⟩
    ·exact⟨Go.undef,fun h'=>absurd h' h⟩
   rw[h0]
   refine .list _ _ _ _ b o cap (fun i=>Classical.choose (hu i)) h2 hl (fun i hi=>?_) (fun i hi=>(Classical.choose_spec (hu i) hi).2) trivial
   have:=(Classical.choose_spec (hu i) hi).1
   exact⟨⟨rfl,_,this⟩,this⟩
end
end Go.TVF
end
section
namespace Go.TVF
open Go.IntKind(i64 u8)
open Go Go.Proofs Go.ChangeShapes
structure Blk {H:Type} (bk:DataW H->Nat):Prop where
 one:∀d,1<=bk d
 str:∀b,b.length+1<=bk (.lit (.string b))
 sl:∀e s,(e.map bk).sum+1<=bk (.slice e s)
 agg:∀p,(p.map bk).sum+1<=bk (.agg p)
section
variable {H:Type} {enc:TypeId×Value->H} {P:Program} {w:World} {base:Nat} {held:Bool} {bk:DataW H->Nat}
def OpQ (bk:DataW H->Nat) (enc:TypeId×Value->H) (P:Program) (w:World) (base:Nat) (held:Bool) (n c:Nat) (S:Nat->List TV->Prop) (e:TypeId):Prop:=
 P.cellsOf e=c/\∀vs x,DataW.trod enc P w base (fun _=>true) held n e vs=some x->∃tv,AV (Ghost.start w) w tv vs/\tv.length=c/\S (bk x.1) tv
def cellQ (c:CTy) (k:Nat) (tv:List TV):Prop:=flatIs [c] tv/\1<=k
def strQ (k:Nat) (tv:List TV):Prop:=∃l:B8,tv=[.str l]/\l.length<=maxLen/\l.length+1<=k
theorem opq_cell {n:Nat} {c:CTy} {e:TypeId} (hb:Blk bk) (h:QX P c e) (hc:P.cellsOf e=1):OpQ bk enc P w base held n 1 (cellQ c) e:=⟨hc,fun vs x hd=>by
 obtain⟨v,u,rfl,hr,hf⟩:=LU (Ghost.start w) h hd
 exact⟨[v],.cons hr (.nil _ _),rfl,hf,hb.one _⟩⟩
theorem opq_str {n:Nat} {e:TypeId} (hb:Blk bk) (h:P.underlying e=some .string) (hc:P.cellsOf e=1):OpQ bk enc P w base held n 1 strQ e:=⟨hc,fun vs x hd=>by
 obtain⟨s,rfl,rfl,hs⟩:=DataW.trod_string h hd
 exact⟨[_],.cons (NE (Ghost.start w) w s) (.nil _ _),rfl,_,rfl,by rw[Array.length_toList];exact hs,hb.str _⟩⟩
def SlQ (c:Nat) (S:Nat->List TV->Prop) (k:Nat) (v:TV):Prop:=
 v= .nilSlice∨∃ps:List (List TV×Nat),v= .list c .non ps.length (ps.map (·.1)).flatten/\(∀p,p∈ps->p.1.length=c/\S p.2 p.1)/\(ps.map (·.2)).sum+1<=k
theorem opq_slice {n c:Nat} {S:Nat->List TV->Prop} {t e:TypeId} (hb:Blk bk) (ht:P.underlying t=some (.slice e)) (ht1:P.cellsOf t=1) (hc1:1<=c) (hE:∀m,m<n->OpQ bk enc P w base held m c S e):
  OpQ bk enc P w base held n 1 (fun k tv=>∃v,tv=[v]/\SlQ c S k v) t:=by
 refine⟨ht1,fun vs x h=>?_⟩
 rcases DataW.trod_slice ht h with⟨rfl,_⟩ | ⟨a,len,cap,elems,rest,m,rfl,rfl,rfl,hbk,hl,hm,hel,hi,hsp,_⟩
 ·exact⟨[.nilSlice],.cons .nilSlice (.nil _ _),rfl,_,rfl,.inl rfl⟩
 ·obtain⟨hcE,hE⟩:=hE m (by omega)
  rw[hcE]at hi hsp
  have hbs:=hb.sl (elems.map (·.1)) (rest.map (·.1))
  rw[List.map_map]at hbs
  by_cases hcap:cap=0
  ·subst hcap
   obtain rfl:len=0:=by omega
   exact⟨[.list c .non 0 []],.cons (.listE _ _ _ (fun id h=>by cases h)) (.nil _ _),rfl,_,rfl,.inr ⟨[],rfl,(fun ck h=>by cases h),by simp only[List.map_nil,List.sum_nil];omega⟩⟩
  ·obtain⟨b,o,spot⟩:=a
   have hspot:spot=none:=by
    have key:∀(i:Nat) (l:List (DataW H×List MemPlace)) (k:Nat),k<l.length->i=0->(w.cells? base ((⟨b,o,spot⟩:Addr).add (i*c)) c).bind (DataW.trod enc P w base (fun _=>true) held m e)=l[k]?->spot=none:=by
     intro i l k hk hi0 h
     subst hi0
     rw[List.getElem?_eq_getElem hk]at h
     obtain⟨vs,h1,_⟩:=Option.bind_eq_some_iff.1 h
     obtain⟨_,hvl,hvc⟩:=World.cells?_some h1
     have:=World.cell?_spot ((hvc 0 (by omega)).trans (List.getElem?_eq_getElem (show 0<vs.length by omega)))
     rw[Nat.zero_mul]at this
     exact this
    by_cases h0:0<len
    ·exact key 0 elems 0 (by omega) rfl (hi 0 h0)
    ·obtain⟨hr,hs⟩:=hsp rfl
     exact key _ rest 0 (by omega) (by omega) (hs 0 (by omega))
   subst hspot
   have each:∀i (hil:i<len),∃tv vs,AV (Ghost.start w) w tv vs/\tv.length=c/\S (bk (elems[i]'(by omega)).1) tv/\vs.length=c/\∀j,j<c->w.cell? ⟨b,o+(i*c+j),none⟩=some (vs.getD j Go.undef):=by
    intro i hil
    have h:=hi i hil
    rw[List.getElem?_eq_getElem (by omega)]at h
    obtain⟨vs,h1,h2⟩:=Option.bind_eq_some_iff.1 h
    obtain⟨tv,hr,htl,hf⟩:=hE vs _ h2
    obtain⟨_,hvl,hvc⟩:=World.cells?_some h1
    refine⟨tv,vs,hr,htl,hf,hvl,fun j hj=>?_⟩
    have:=hvc j (by omega)
    rw[Deep.add_add,HR]at this
    rw[this]
    simp[List.getD,show j<vs.length by omega]
   have build:∀k,k<=len->∃ps:List (List TV×Nat),ps.length=k/\(∀p,p∈ps->p.1.length=c/\S p.2 p.1)/\ps.map (·.2)=(elems.take k).map (fun y=>bk y.1)/\(ps.map (·.1)).flatten.length=k*c/\∀i (h:i<(ps.map (·.1)).flatten.length),∃u,w.cell? ⟨b,o+i,none⟩=some u/\Rel (Ghost.start w) w (ps.map (·.1)).flatten[i] u:=by
    intro k
    induction k with
    | zero=>intro _;exact⟨[],rfl,(fun ck h=>by cases h),by simp,by simp,fun i h=>absurd h (Nat.not_lt_zero _)⟩
    | succ k ih=>
     intro hk
     obtain⟨ps,h0,h1,hm1,h2,h3⟩:=ih (by omega)
     obtain⟨tv,vs,hr,htl,hf,hvl,hvc⟩:=each k (by omega)
     have hfl:((ps++[(tv,bk (elems[k]'(by omega)).1)]).map (·.1)).flatten=(ps.map (·.1)).flatten++tv:=by simp
     refine⟨ps++[(tv,bk (elems[k]'(by omega)).1)],by simp[h0],fun p h=>?_,?_,by rw[hfl,List.length_append,h2,htl,Nat.succ_mul],fun i h=>?_⟩
     ·rcases List.mem_append.1 h with h | h
      ·exact h1 p h
      ·rw[List.mem_singleton.1 h];exact⟨htl,hf⟩
     ·rw[List.map_append,hm1,List.take_succ_eq_append_getElem (by omega),List.map_append];rfl
     ·simp only[hfl]at h⊢
      by_cases hix:i<(ps.map (·.1)).flatten.length
      ·rw[List.getElem_append_left hix];exact h3 i hix
      ·rw[List.getElem_append_right (by omega)]
       rw[List.length_append]at h
       have hj:i-(ps.map (·.1)).flatten.length<tv.length:=by omega
       refine⟨vs.getD (i-(ps.map (·.1)).flatten.length) Go.undef,?_,hr.2 _ hj⟩
       have:=hvc (i-(ps.map (·.1)).flatten.length) (by omega)
       rw[show o+i=o+(k*c+(i-(ps.map (·.1)).flatten.length)) by rw[<-h2];omega]
       exact this
   obtain⟨ps,h0,h1,hm1,h2,h3⟩:=build len (Nat.le_refl _)
   refine⟨[.list c .non ps.length (ps.map (·.1)).flatten],.cons ?_ (.nil _ _),rfl,_,rfl,.inr ⟨ps,rfl,h1,?_⟩⟩
   ·have hu:∀i,∃u,(h:i<(ps.map (·.1)).flatten.length)->w.cell? ⟨b,o+i,none⟩=some u/\Rel (Ghost.start w) w (ps.map (·.1)).flatten[i] u:=fun i=>by
     by_cases h:i<(ps.map (·.1)).flatten.length
     ·obtain⟨u,hu⟩:=h3 i h
      exact⟨u,fun _=>hu⟩
     ·exact⟨Go.undef,fun h'=>absurd h' h⟩
    rw[h0]
    refine .list _ _ _ _ b o cap (fun i=>Classical.choose (hu i)) h2 hl (fun i hi=>?_) (fun i hi=>(Classical.choose_spec (hu i) hi).2) trivial
    have:=(Classical.choose_spec (hu i) hi).1
    exact⟨⟨rfl,_,this⟩,this⟩
   ·rw[hm1,List.take_of_length_le (by omega)]
    exact hbs
def QU (bk:DataW H->Nat) (enc:TypeId×Value->H) (P:Program) (w:World) (base:Nat) (held:Bool) (n:Nat):List (Nat×(Nat->List TV->Prop))->List Field->Nat->Prop
 | [],[],_=>True
 | S::Ss,f::fs,o=>f.offset=o/\OpQ bk enc P w base held n S.1 S.2 f.type/\QU bk enc P w base held n Ss fs (o+S.1)
 | _,_,_=>False
def EachQ:List (Nat×(Nat->List TV->Prop))->Nat->List TV->Prop
 | [],_,xs=>xs=[]
 | S::Ss,k,xs=>∃a b k1 k2,xs=a++b/\a.length=S.1/\S.2 k1 a/\EachQ Ss k2 b/\k1+k2<=k
def Rf:List (Nat×(Nat->List TV->Prop))->Nat
 | []=>0
 | S::Ss=>S.1+Rf Ss
theorem NK {n:Nat} {vs:List Value}:∀(Ss:List (Nat×(Nat->List TV->Prop))) (fs:List Field) (o:Nat) (xs:List (DataW H×List MemPlace)),QU bk enc P w base held n Ss fs o->xs.length=fs.length->vs.length=o+Rf Ss->
  (∀(i:Nat) (f:Field),fs[i]? =some f->DataW.trod enc P w base (fun _=>true) held n f.type ((vs.drop f.offset).take (P.cellsOf f.type))=xs[i]?)->∃tv,AV (Ghost.start w) w tv (vs.drop o)/\tv.length=Rf Ss/\EachQ Ss (xs.map (fun y=>bk y.1)).sum tv
 | [],[],o,xs,_,_,hl,_=>⟨[],by rw[List.drop_of_length_le (by simp[Rf]at hl;omega)];exact .nil _ _,rfl,rfl⟩
 | S::Ss,f::fs,o,[],_,hx,_,_=>by simp at hx
 | S::Ss,f::fs,o,x::xs,ht,hx,hl,hd=>by
  obtain⟨h1,⟨h2,h3⟩,h4⟩:=ht
  have hd0:=hd 0 f rfl
  rw[h1,h2]at hd0
  obtain⟨tv0,hr,htl,hf⟩:=h3 _ _ hd0
  obtain⟨tv,hr',hl',hf'⟩:=NK (n:=n) (vs:=vs) Ss fs (o+S.1) xs h4 (by simpa using hx) (by simp only[Rf]at hl;omega) (fun i f' hi=>by simpa using hd (i+1) f' (by simpa using hi))
  refine⟨tv0++tv,?_,by simp[hl',htl,Rf],tv0,tv,_,_,rfl,htl,hf,hf',by simp only[List.map_cons,List.sum_cons];exact Nat.le_refl _⟩
  have hlt:o+S.1<=vs.length:=by simp only[Rf]at hl;omega
  have e:vs.drop o=(vs.drop o).take S.1++vs.drop (o+S.1):=by rw[<-List.drop_drop,List.take_append_drop]
  rw[e]
  exact AV.append hr hr'
 | [],f::fs,o,xs,ht,_,_,_=>ht.elim
 | S::Ss,[],o,xs,ht,_,_,_=>ht.elim
theorem opq_struct {n c:Nat} {Ss:List (Nat×(Nat->List TV->Prop))} {e:TypeId} {fs:Array Field} (hb:Blk bk) (ht:P.underlying e=some (.struct fs)) (hc:P.cellsOf e=c) (hl:Rf Ss=c) (hf:∀m,m<n->QU bk enc P w base held m Ss fs.toList 0):
  OpQ bk enc P w base held n c (fun k tv=>∃k',k'+1<=k/\EachQ Ss k' tv) e:=⟨hc,fun vs x hd=>by
 obtain⟨xs,m,rfl,rfl,hvl,hx,hi⟩:=DataW.trod_struct ht hd
 obtain⟨tv,h1,h2,h3⟩:=NK (bk:=bk) (enc:=enc) (P:=P) (w:=w) (base:=base) (held:=held) (n:=m) (vs:=vs) Ss fs.toList 0 xs (hf m (by omega)) (by simpa using hx) (by omega) (fun i f h=>hi i f (by simpa using h))
 refine⟨tv,by simpa using h1,by omega,_,?_,h3⟩
 have:=hb.agg (xs.map (·.1))
 rw[List.map_map]at this
 exact this⟩
end
end Go.TVF
end
namespace Go.TVF
open Go.IntKind(i64 u8)
open Go Go.Proofs
section
abbrev decQs:List (Nat×(Nat->List TV->Prop)):=[(1,cellQ .bool),(1,strQ),(1,cellQ (.int .i64))]
abbrev timeQs:List (Nat×(Nat->List TV->Prop)):=[(1,cellQ (.int .i64)),(1,cellQ (.int .i64)),(1,cellQ (.int .i64)),(1,cellQ (.int .i64))]
def valQ (k:Nat) (tv:List TV):Prop:=∃v:Vl,VlR St.zero v tv/\v.sz<=k
def fldQ (k:Nat) (tv:List TV):Prop:=∃d:Fd,FdR St.zero d tv/\d.sz<=k
abbrev S5 (c:Nat) (S:Nat->List TV->Prop) (k:Nat) (tv:List TV):Prop:=∃v,tv=[v]/\SlQ c S k v
abbrev inQ (Ss:List (Nat×(Nat->List TV->Prop))) (k:Nat) (tv:List TV):Prop:=∃k',k'+1<=k/\EachQ Ss k' tv
abbrev valQs:List (Nat×(Nat->List TV->Prop)):=[(1,cellQ (.int .i64)),(1,cellQ .bool),(3,inQ decQs),(4,inQ timeQs),(1,strQ),(1,S5 1 (cellQ (.int .u8))),(1,S5 13 valQ),(1,S5 14 fldQ)]
abbrev fldQs:List (Nat×(Nat->List TV->Prop)):=[(1,strQ),(13,valQ)]
theorem SlQ.bytes {k:Nat} {v:TV} (h:SlQ 1 (cellQ (.int .u8)) k v):∃l:B8,SlR St.zero 1 v l.length (A3 l)/\l.length<=k:=by
 rcases h with rfl | ⟨ps,rfl,h,hk⟩
 ·exact⟨[],.inl (.inl ⟨rfl,rfl,rfl⟩),Nat.zero_le _⟩
 ·have:∃l:B8,l.length=ps.length/\(ps.map (·.1)).flatten=A3 l/\l.length<=(ps.map (·.2)).sum:=by
   clear hk
   induction ps with
   | nil=>exact⟨[],rfl,rfl,Nat.zero_le _⟩
   | cons p r ih=>
    obtain⟨l,h1,h2,h3⟩:=ih (fun q hq=>h q (.tail _ hq))
    obtain⟨hl,⟨n,ys,hp,hw,rfl⟩,h1k⟩:=h p (.head _)
    have hn:0<=n/\n<=255:=by simpa [Lit.wf,IntKind.min,IntKind.max,IntKind.signed,IntKind.bits]using hw
    refine⟨n.toNat.toUInt8::l,by simp[h1],?_,by simp only[List.length_cons,List.map_cons,List.sum_cons];omega⟩
    rw[List.map_cons,List.flatten_cons,hp,h2]
    simp only[A3,List.map_cons,Ow,List.cons_append,List.nil_append,List.cons.injEq,and_true,TV.int.injEq,true_and]
    have:=natB_lt n.toNat (by omega)
    omega
  obtain⟨l,h1,h2,h3⟩:=this
  exact⟨l,.inl (.inr ⟨.non,by rw[h1,h2]⟩),by omega⟩
theorem SlQ.vals {k:Nat} {v:TV} (h:SlQ 13 valQ k v):∃l xl,SlR St.zero 13 v l.length xl/\VsR St.zero l xl/\Cw l<=k:=by
 rcases h with rfl | ⟨ps,rfl,h,hk⟩
 ·exact⟨[],[],.inl (.inl ⟨rfl,rfl,rfl⟩),by unfold VsR;rfl,by unfold Cw;exact Nat.zero_le _⟩
 ·have:∃l:List Vl,l.length=ps.length/\VsR St.zero l (ps.map (·.1)).flatten/\Cw l<=(ps.map (·.2)).sum:=by
   clear hk
   induction ps with
   | nil=>exact⟨[],rfl,by unfold VsR;rfl,by unfold Cw;exact Nat.zero_le _⟩
   | cons p r ih=>
    obtain⟨l,h1,h2,h3⟩:=ih (fun q hq=>h q (.tail _ hq))
    obtain⟨hl,v,hv,hz⟩:=h p (.head _)
    exact⟨v::l,by simp[h1],by unfold VsR;exact⟨_,_,by simp,hv,h2⟩,by unfold Cw;simp only[List.map_cons,List.sum_cons];omega⟩
  obtain⟨l,h1,h2,h3⟩:=this
  exact⟨l,_,.inl (.inr ⟨.non,by rw[h1]⟩),h2,by omega⟩
theorem SlQ.flds {k:Nat} {v:TV} (h:SlQ 14 fldQ k v):∃l xl,SlR St.zero 14 v l.length xl/\FsR St.zero l xl/\DJ l<=k:=by
 rcases h with rfl | ⟨ps,rfl,h,hk⟩
 ·exact⟨[],[],.inl (.inl ⟨rfl,rfl,rfl⟩),by unfold FsR;rfl,by unfold DJ;exact Nat.zero_le _⟩
 ·have:∃l:List Fd,l.length=ps.length/\FsR St.zero l (ps.map (·.1)).flatten/\DJ l<=(ps.map (·.2)).sum:=by
   clear hk
   induction ps with
   | nil=>exact⟨[],rfl,by unfold FsR;rfl,by unfold DJ;exact Nat.zero_le _⟩
   | cons p r ih=>
    obtain⟨l,h1,h2,h3⟩:=ih (fun q hq=>h q (.tail _ hq))
    obtain⟨hl,v,hv,hz⟩:=h p (.head _)
    exact⟨v::l,by simp[h1],by unfold FsR;exact⟨_,_,by simp,hv,h2⟩,by unfold DJ;simp only[List.map_cons,List.sum_cons];omega⟩
  obtain⟨l,h1,h2,h3⟩:=this
  exact⟨l,_,.inl (.inr ⟨.non,by rw[h1]⟩),h2,by omega⟩
theorem FL {kd:IntKind} {k:Nat} {tv:List TV} (h:cellQ (.int kd) k tv):∃n,tv=[.int kd n]:=by
 obtain⟨⟨n,ys,rfl,_,rfl⟩,_⟩:=h;exact⟨n,rfl⟩
theorem Ot {k:Nat} {tv:List TV} (h:cellQ .bool k tv):∃b,tv=[.bool b]:=by
 obtain⟨⟨n,ys,rfl,rfl⟩,_⟩:=h;exact⟨n,rfl⟩
theorem each_field {k:Nat} {tv:List TV} (h:inQ fldQs k tv):fldQ k tv:=by
 obtain⟨k0,hk0,_,_,k1,k2,rfl,_,⟨key,rfl,_,hkey⟩,⟨_,_,k3,k4,rfl,_,⟨v,hv,hz⟩,rfl,h2⟩,h1⟩:=h
 refine⟨.mk key v,by unfold FdR;exact⟨_,by simp,hv⟩,by unfold Fd.sz;omega⟩
theorem each_value {k:Nat} {tv:List TV} (h:inQ valQs k tv):valQ k tv:=by
 obtain⟨k0,hk0,_,_,a1,r1,rfl,_,q1,⟨_,_,a2,r2,rfl,_,q2,⟨_,_,a3,r3,rfl,_,q3,⟨_,_,a4,r4,rfl,_,q4,⟨_,_,a5,r5,rfl,_,q5,⟨_,_,a6,r6,rfl,_,q6,⟨_,_,a7,r7,rfl,_,q7,⟨_,_,a8,r8,rfl,_,q8,rfl,h8⟩,h7⟩,h6⟩,h5⟩,h4⟩,h3⟩,h2⟩,h1⟩:=h
 obtain⟨kd,rfl⟩:=FL q1
 obtain⟨bo,rfl⟩:=Ot q2
 obtain⟨d0,hd0,_,_,d1,d2,rfl,_,p1,⟨_,_,d3,d4,rfl,_,⟨dg,rfl,_,hdg⟩,⟨_,_,d5,d6,rfl,_,p3,rfl,g3⟩,g2⟩,g1⟩:=q3
 obtain⟨ng,rfl⟩:=Ot p1
 obtain⟨ex,rfl⟩:=FL p3
 obtain⟨_,_,_,_,_,_,rfl,_,t1,⟨_,_,_,_,rfl,_,t2,⟨_,_,_,_,rfl,_,t3,⟨_,_,_,_,rfl,_,t4,rfl,_⟩,_⟩,_⟩,_⟩:=q4
 obtain⟨tk,rfl⟩:=FL t1
 obtain⟨td,rfl⟩:=FL t2
 obtain⟨tn,rfl⟩:=FL t3
 obtain⟨tz,rfl⟩:=FL t4
 obtain⟨tx,rfl,_,htx⟩:=q5
 obtain⟨ub,rfl,q6⟩:=q6
 obtain⟨ul,rfl,q7⟩:=q7
 obtain⟨uf,rfl,q8⟩:=q8
 obtain⟨bs,hb,hbl⟩:=q6.bytes
 obtain⟨l,xl,hl,hlv,hlz⟩:=q7.vals
 obtain⟨f,xf,hf,hfv,hfz⟩:=q8.flds
 refine⟨.mk ⟨kd,bo,ng,dg,ex,tk,td,tn,tz,tx,bs⟩ l f,?_,by rw[szs];simp only;omega⟩
 unfold VlR
 exact⟨ub,ul,uf,xl,xf,by simp,hb,hl,hlv,hf,hfv⟩
section
variable {H:Type} {enc:TypeId×Value->H} {P:Program} {w:World} {base b0:Nat} {held:Bool} {bk:DataW H->Nat}
end
end
section
def IsValU (t:TV):Prop:=∃v cs,t= .agg cs/\VlR St.zero v cs
section
variable {H:Type} {enc:TypeId×Value->H} {P:Program} {w:World} {base b0:Nat} {held:Bool} {bk:DataW H->Nat}
theorem open_valU {t:TypeId} {fs:Array Field} {v:Value} {d:DataW H} {p:List MemPlace} (ht:P.underlying t=some (.struct fs)) (hop:∀n,OpQ bk enc P w base held n 13 valQ t)
  (hval:Value.okWide P w .any b0 t v) (h:DataW.Trod enc P w base (fun _=>true) held t v d p):∃tv,Rel (Ghost.start w) w tv v/\IsValU tv:=by
 simp only[Value.okWide,ht]at hval
 obtain⟨vs,rfl,_,_⟩:=hval
 obtain⟨n,hn⟩:=h
 obtain⟨cs,hr,_,vl,hv,hz⟩:=(hop n).2 _ _ hn
 have:=Rel.agg cs vs.toList hr.1 hr.2
 rw[Array.toArray_toList]at this
 exact⟨_,this,vl,cs,rfl,hv⟩
end
end
def scZ:Sc:=⟨0,false,false,[],0,0,0,0,0,[],[]⟩
def CS (l:List Vl):Vl:= .mk {scZ with kind:=6} l []
def P4 (f:List Fd):Vl:= .mk {scZ with kind:=7} [] f
theorem VsR.nil (st:St):VsR st [] []:=by unfold VsR;rfl
theorem FsR.nil (st:St):FsR st [] []:=by unfold FsR;rfl
theorem VK {c:Int} {st:St} {K:Bool->St->Prop} (hk:K (K5 c) st):Ad PR CN [.int .u8 c] [.one (.bool)] st K:=by
 refine Hm c st K ?_
 unfold K5 at hk
 repeat' (refine Aa (fun _=>?_) fun _=>?_)
 all_goals first | exact DQ (decide_eq_true (by omega)).symm hk | exact DQ (decide_eq_false (by omega)).symm hk | exact DQ (decide_eq_decide.2 (by omega)) hk
theorem UJ {s:B8} {st:St} {K:Int->St->Prop} (hl:s.length<=2000000) (hk:∀st',AN st st'->K ((A5 s:Nat):Int) st'):Ad PR Cv [.str s] [.one (.int .i64)] st K:=by
 refine Jz s st K (OZ hl fun v xs st1 e hr hx=>Ab hr.isSl ?_)
 rw[hr.lenS,hr.lenZ]
 have w:i64.wrap (((xs.length+1:Nat):Int)-1)=(xs.length:Nat):=by rw[Al _ (by omega) (by omega)];omega
 rw[w]
 refine⟨⟨by omega,by omega⟩,Ae (hr.ldx st1 _ 0 (x:= .int .i64 ((A5 s:Nat):Int)) ?_) (hk st1 e)⟩
 rw[Int.toNat_natCast];simp
section
inductive Nd where
 | mk (kind:Int) (lead text:B8) (kids:List Nd) (tail:B8)
mutual
def NdC:Nd->List TV->Prop
 | .mk k l t ks tl,cs=>∃v xs,cs=[.int .i64 k,.str l,.str t,v,.str tl]/\Rd 5 v ks.length xs/\BA ks xs
def BA:List Nd->List TV->Prop
 | [],xs=>xs=[]
 | n::r,xs=>∃a b,xs=a++b/\NdC n a/\BA r b
end
theorem NdC.len {n:Nd} {cs:List TV} (h:NdC n cs):cs.length=5:=by
 cases n
 unfold NdC at h
 obtain⟨v,xs,rfl,_⟩:=h
 rfl
theorem BA.get:∀{ks:List Nd} {xs:List TV},BA ks xs->∀{i:Nat} {n:Nd},ks[i]? =some n->∃cs,NdC n cs/\∀j x,cs[j]? =some x->xs[i*5+j]? =some x
 | [],xs,h,i,n,hi=>by simp at hi
 | m::r,xs,h,0,n,hi=>by
  unfold BA at h
  obtain⟨a,b,rfl,ha,hb⟩:=h
  simp only[List.getElem?_cons_zero,Option.some.injEq]at hi
  subst hi
  refine⟨a,ha,fun j x hj=>?_⟩
  rw[Nat.zero_mul,Nat.zero_add,List.getElem?_append_left (List.getElem?_eq_some_iff.1 hj).1]
  exact hj
 | m::r,xs,h,i+1,n,hi=>by
  unfold BA at h
  obtain⟨a,b,rfl,ha,hb⟩:=h
  obtain⟨cs,h1,h2⟩:=hb.get (i:=i) (n:=n) (by simpa using hi)
  refine⟨cs,h1,fun j x hj=>?_⟩
  have hl:=ha.len
  rw[List.getElem?_append_right (by omega),show(i+1)*5+j-a.length=i*5+j by omega]
  exact h2 j x hj
theorem BA.append:∀{ks js:List Nd} {xs ys:List TV},BA ks xs->BA js ys->BA (ks++js) (xs++ys)
 | [],js,xs,ys,h,g=>by unfold BA at h;subst h;exact g
 | n::r,js,xs,ys,h,g=>by
  unfold BA at h
  obtain⟨a,b,rfl,ha,hb⟩:=h
  rw[List.cons_append]
  unfold BA
  exact⟨a,b++ys,by rw[List.append_assoc],ha,hb.append g⟩
theorem BA.one {n:Nd} {cs:List TV} (h:NdC n cs):BA [n] cs:=by
 unfold BA
 exact⟨cs,[],by simp,h,by unfold BA;rfl⟩
theorem BA.nil:BA [] []:=by unfold BA;rfl
theorem Kg {k:Int} {l t tl:B8} {u:TV} (h:Aq u=true):List.all [.int .i64 k,.str l,.str t,u,.str tl] Aq=true:=by
 simp only[List.all_cons,h];rfl
mutual
def VH:Nd->Nat
 | .mk _ l t ks tl=>l.length+t.length+tl.length+klen ks
def klen:List Nd->Nat
 | []=>0
 | n::r=>VH n+klen r
end
mutual
def IR:Nd->B8
 | .mk _ l t ks tl=>l++t++K8 ks++tl
def K8:List Nd->B8
 | []=>[]
 | n::r=>IR n++K8 r
end
mutual
theorem LV:∀n:Nd,(IR n).length=VH n
 | .mk _ l t ks tl=>by
  have:=Pm ks
  simp only[IR,VH,List.length_append];omega
theorem Pm:∀ks:List Nd,(K8 ks).length=klen ks
 | []=>rfl
 | n::r=>by
  have h1:=LV n
  have h2:=Pm r
  simp only[K8,klen,List.length_append];omega
end
def Mv (k:Int):Bool:=decide (k=2∨k=6∨k=10∨k=11)
mutual
def chk:Nd->Int->Int->Except Int Int
 | .mk k l t ks tl,d,s=>if 192<d then .error 9 else if 524288<=s then .error 10 else if k<1∨11<k then .error 6
  else if Mv k=true/\(ks.length≠0∨tl≠ [])then .error 1 else Oq ks (d+1) (s+1)
def Oq:List Nd->Int->Int->Except Int Int
 | [],d,s=> .ok s
 | n::r,d,s=>match chk n d s with | .error e=> .error e | .ok s'=>Oq r d s'
end
end
section
mutual
theorem Oo:∀(n:Nd) {d s e:Int},chk n d s= .error e->e≠0
 | .mk k l t ks tl,d,s,e,h=>by
  unfold chk at h
  split at h
  ·cases h;decide
  split at h
  ·cases h;decide
  split at h
  ·cases h;decide
  split at h
  ·cases h;decide
  exact MC ks h
theorem MC:∀(ks:List Nd) {d s e:Int},Oq ks d s= .error e->e≠0
 | [],d,s,e,h=>by unfold Oq at h;cases h
 | n::r,d,s,e,h=>by
  unfold Oq at h
  split at h
  ·rename_i e1 h1;cases h;exact Oo n h1
  ·exact MC r h
end
def PL (n:Nd):Int:=match chk n 1 0 with
 | .error e=>e
 | .ok _=>if 1048576<VH n then 10 else 0
end
end Go.TVF
section
namespace Go.Proofs
open Go.Shelf
def Tryz.lays155_ren:Go.Shelf.Ren:=⟨fun | 155=>146 | 154=>226 | 138=>280 | 165=>275 | 143=>281 | 166=>196 | 197=>282 | 169=>123 | 195=>308 | 218=>309 | 240=>266 | 241=>305 | 219=>310 | 260=>311 | 276=>300 | 277=>321 | 217=>322 | 225=>323 | 224=>324 | 267=>325 | 266=>330 | 314=>331 | n=>n,fun | 9=>9 | 3=>3 | 4=>4 | 72=>188 | 0=>0 | 76=>254 | 105=>308 | 21=>21 | 5=>5 | 70=>186 | 20=>20 | 37=>59 | 75=>253 | 127=>256 | 164=>315 | 46=>267 | 119=>330 | 139=>333 | 138=>332 | 146=>319 | 51=>318 | 80=>190 | n=>n,fun | 1=>0 | 3=>1 | 4=>2 | n=>n⟩
theorem Tryz.lays155:Go.Proofs.Lays.n155 Tryz.prog Tryz.lays155_ren:={
 mixed:=by kernel_rfl
 f138:=Tryz.func280.trans (congrArg some (by kernel_rfl))
 f143:=Tryz.func281.trans (congrArg some (by kernel_rfl))
 f154:=Tryz.func226.trans (congrArg some (by kernel_rfl))
 f155:=Tryz.func146.trans (congrArg some (by kernel_rfl))
 f165:=Tryz.func275.trans (congrArg some (by kernel_rfl))
 f166:=Tryz.func196.trans (congrArg some (by kernel_rfl))
 f169:=Tryz.func123.trans (congrArg some (by kernel_rfl))
 f195:=Tryz.func308.trans (congrArg some (by kernel_rfl))
 f197:=Tryz.func282.trans (congrArg some (by kernel_rfl))
 f217:=Tryz.func322.trans (congrArg some (by kernel_rfl))
 f218:=Tryz.func309.trans (congrArg some (by kernel_rfl))
 f219:=Tryz.func310.trans (congrArg some (by kernel_rfl))
 f224:=Tryz.func324.trans (congrArg some (by kernel_rfl))
 f225:=Tryz.func323.trans (congrArg some (by kernel_rfl))
 f240:=Tryz.func266.trans (congrArg some (by kernel_rfl))
 f241:=Tryz.func305.trans (congrArg some (by kernel_rfl))
 f260:=Tryz.func311.trans (congrArg some (by kernel_rfl))
 f266:=Tryz.func330.trans (congrArg some (by kernel_rfl))
 f267:=Tryz.func325.trans (congrArg some (by kernel_rfl))
 f276:=Tryz.func300.trans (congrArg some (by kernel_rfl))
 f277:=Tryz.func321.trans (congrArg some (by kernel_rfl))
 f314:=Tryz.func331.trans (congrArg some (by kernel_rfl))
 t0:=Tryz.underlying0
 a0:=Tryz.isAgg0
 z0:=Tryz.sizeOf0
 v0:=Tryz.zeroValue0
 t3:=Tryz.underlying3
 a3:=Tryz.isAgg3
 z3:=Tryz.sizeOf3
 v3:=Tryz.zeroValue3
 t4:=Tryz.underlying4
 a4:=Tryz.isAgg4
 z4:=Tryz.sizeOf4
 v4:=Tryz.zeroValue4
 t5:=Tryz.underlying5
 a5:=Tryz.isAgg5
 z5:=Tryz.sizeOf5
 v5:=Tryz.zeroValue5
 t9:=Tryz.underlying9
 a9:=Tryz.isAgg9
 z9:=Tryz.sizeOf9
 v9:=Tryz.zeroValue9
 t20:=Tryz.underlying20
 a20:=Tryz.isAgg20
 z20:=Tryz.sizeOf20
 v20:=Tryz.zeroValue20
 t21:=Tryz.underlying21
 a21:=Tryz.isAgg21
 z21:=Tryz.sizeOf21
 v21:=Tryz.zeroValue21
 t37:=Tryz.underlying59
 a37:=Tryz.isAgg59
 z37:=Tryz.sizeOf59
 v37:=Tryz.zeroValue59
 t46:=Tryz.underlying267
 a46:=Tryz.isAgg267
 z46:=Tryz.sizeOf267
 v46:=Tryz.zeroValue267
 t51:=Tryz.underlying318
 a51:=Tryz.isAgg318
 z51:=Tryz.sizeOf318
 v51:=Tryz.zeroValue318
 t70:=Tryz.underlying186
 a70:=Tryz.isAgg186
 z70:=Tryz.sizeOf186
 v70:=Tryz.zeroValue186
 t72:=Tryz.underlying188
 a72:=Tryz.isAgg188
 z72:=Tryz.sizeOf188
 v72:=Tryz.zeroValue188
 t75:=Tryz.underlying253
 a75:=Tryz.isAgg253
 z75:=Tryz.sizeOf253
 v75:=Tryz.zeroValue253
 t76:=Tryz.underlying254
 a76:=Tryz.isAgg254
 z76:=Tryz.sizeOf254
 v76:=Tryz.zeroValue254
 t105:=Tryz.underlying308
 a105:=Tryz.isAgg308
 z105:=Tryz.sizeOf308
 v105:=Tryz.zeroValue308
 t119:=Tryz.underlying330
 a119:=Tryz.isAgg330
 z119:=Tryz.sizeOf330
 t127:=Tryz.underlying256
 a127:=Tryz.isAgg256
 z127:=Tryz.sizeOf256
 v127:=Tryz.zeroValue256
 t138:=Tryz.underlying332
 a138:=Tryz.isAgg332
 z138:=Tryz.sizeOf332
 v138:=Tryz.zeroValue332
 t139:=Tryz.underlying333
 a139:=Tryz.isAgg333
 z139:=Tryz.sizeOf333
 v139:=Tryz.zeroValue333
 t146:=Tryz.underlying319
 a146:=Tryz.isAgg319
 z146:=Tryz.sizeOf319
 v146:=Tryz.zeroValue319
 t164:=Tryz.underlying315
 a164:=Tryz.isAgg315
 z164:=Tryz.sizeOf315
 v164:=Tryz.zeroValue315
 g1:=by kernel_rfl
 g3:=by kernel_rfl
 g4:=by kernel_rfl}
theorem Tryz.Builder_Extra_155:Builder.Extra Tryz.prog Tryz.lays155_ren:={
 sizeBuilder:=by kernel_rfl
 liesBuilder:=by kernel_rfl
 t5:=Tryz.underlying5
 a5:=Tryz.isAgg5
 z5:=Tryz.sizeOf5
 v5:=Tryz.zeroValue5
 infoByte:=by kernel_rfl
 cellsByte:=by kernel_rfl
 sizeByte:=by kernel_rfl
 neB5:=by decide}
open Go.RowKit Go.Lib in
theorem Tryz.strings_ReplaceAll (s old new:ByteArray) (m:Int) (w:World) (hs:s.size<4294967281) (hm:w.cell? ⟨0,0,none⟩=some (.int .i64 m)) (h1:1<=old.size) (hlen:s.size+Lib.countB s old*new.size<=140737488355328):
  Calls Tryz.prog 146 #[.string s,.string old,.string new] w fun e w'=>
   e= .returned (.string ⟨(Lib.replaceAll s.data.toList old.data.toList new.data.toList).toArray⟩)/\Below w.heap.size w w':=Any.strings_ReplaceAll Tryz.lays155 Tryz.Builder_Extra_155 s old new m w hs hm h1 hlen
end Go.Proofs
end
section
namespace Go.TVF
open Go.IntKind(i64 u8)
open Go Go.Proofs
open Go.RowKit (Below)
def SX (q:UInt8) (new:B8) (c:UInt8):B8:=if c=q then new else [c]
theorem Po (q:UInt8) (new:B8):∀s:B8,q∉s->s.flatMap (SX q new)=s
 | [],_=>rfl
 | c::l,h=>by
  simp only[List.mem_cons,not_or]at h
  rw[List.flatMap_cons,Po q new l h.2]
  simp[SX,Ne.symm h.1]
theorem Tc {g:Ghost} {w:World} {x y z:TV} {vs:List Value} (h:AV g w [x,y,z] vs):∃v u t,vs=[v,u,t]/\Rel g w x v/\Rel g w y u/\Rel g w z t:=by
 obtain⟨v,h1,h2⟩:=h.get? (i:=0) rfl
 obtain⟨u,h3,h4⟩:=h.get? (i:=1) rfl
 obtain⟨t,h5,h6⟩:=h.get? (i:=2) rfl
 have hl:=h.1
 match vs,hl with
 | [a,b,c],_=>simp at h1 h3 h5;subst h1 h3 h5;exact⟨_,_,_,rfl,h2,h4,h6⟩
end Go.TVF
end
namespace Go.TVF
open Go.IntKind(i64 u8)
open Go Go.Proofs
def letB (c:Int):Bool:=decide (97<=c/\c<=122∨65<=c/\c<=90)
def Dl (c:Int):Bool:=decide (97<=c/\c<=122∨65<=c/\c<=90∨48<=c/\c<=57∨c=43∨c=45∨c=46∨c=58)
def dOk (a b:Int):Bool:=decide (((a=9∨(32<=a/\a<=126))/\33<=b/\b<=126/\a≠b)/\Dl a=false/\Dl b=false)
def lOk (a b c d e:Int):Bool:=decide (1<=a/\a<=48/\1<=b/\b<=65536/\1<=c/\c<=1048576/\0<=d/\d<=1024/\0<=e/\e<=65536)
theorem TP {c:Int} {st:St} {K:Bool->St->Prop} (hk:K (letB c) st):Ad PR Fc [.int .u8 c] [.one (.bool)] st K:=by
 unfold letB at hk
 refine ML c st K ?_
 repeat' first
  | exact DQ (decide_eq_true (by omega)).symm hk
  | exact DQ (decide_eq_false (by omega)).symm hk
  | exact DQ (decide_eq_decide.2 (by omega)) hk
  | refine Aa (fun _=>?_) fun _=>?_
theorem Nx {c:Int} {st:St} {K:Bool->St->Prop} (hk:K (Dl c) st):Ad PR BW [.int .u8 c] [.one (.bool)] st K:=by
 unfold Dl at hk
 refine Lv c st K (TP (Ar (fun h=>?_) fun h=>?_))
 ·have h:=of_decide_eq_true h
  exact DQ (decide_eq_true (by omega)).symm hk
 ·have h:=of_decide_eq_false h
  repeat' first
   | exact DQ (decide_eq_true (by omega)).symm hk
   | exact DQ (decide_eq_false (by omega)).symm hk
   | exact DQ (decide_eq_decide.2 (by omega)) hk
   | refine Aa (fun _=>?_) fun _=>?_
theorem VX {a b:Int} {x y:Bool} {st:St} {K:Bool->St->Prop} (hk:K (dOk a b) st):Ad PR F8 [.agg [.int .u8 a,.int .u8 b,.bool x,.bool y]] [.one (.bool)] st K:=by
 unfold dOk at hk
 have no:¬(((a=9∨(32<=a/\a<=126))/\33<=b/\b<=126/\a≠b)/\Dl a=false/\Dl b=false)->K false st:=fun h=>DQ (decide_eq_false h).symm hk
 have yes:((a=9∨(32<=a/\a<=126))/\33<=b/\b<=126/\a≠b)->Dl a=false->K (!Dl b) st:=fun h h1=>by
  cases hb:Dl b with
  | true=>exact no fun hh=>by rw[hb]at hh;exact absurd hh.2.2 (by decide)
  | false=>exact DQ (decide_eq_true ⟨h,h1,hb⟩).symm hk
 refine Nj a b x y st K ?_
 repeat' first
  | exact no (by omega)
  | refine Aa (fun _=>?_) fun _=>?_
 all_goals
  refine Nx (Ar (fun h=>?_) fun h=>no fun hh=>by rw[hh.2.1]at h;cases h)
  simp only[Bool.not_eq_true']at h
  exact Nx (yes (by omega) h)
theorem UN {c:Int} {st:St} {K:Bool->St->Prop} (hk:K (!Dl c) st):Ad PR Bl [.int .u8 c] [.one (.bool)] st K:=by
 have e:∀b,b= !Dl c->K b st:=fun b h=>h▸hk
 unfold Dl at e
 refine IA c st K (VK (Ar (fun h=>Sn (Ar (fun h2=>?_) fun h2=>?_)) fun h=>?_))
 all_goals simp only[K5,I9,Bool.not_eq_true',Bool.not_eq_false',decide_eq_true_eq,decide_eq_false_iff_not]at h
 ·simp only[K5,I9,Bool.not_eq_true',Bool.not_eq_false',decide_eq_true_eq,decide_eq_false_iff_not]at h2
  repeat' first
   | refine Aa (fun _=>?_) fun _=>?_
  all_goals
   refine e _ ?_
   rw[<-decide_not]
   first
    | exact decide_eq_decide.2 (by omega)
    | exact(decide_eq_false (by omega)).symm
 ·simp only[K5,I9,Bool.not_eq_true',Bool.not_eq_false',decide_eq_true_eq,decide_eq_false_iff_not]at h2
  exact e _ (by rw[<-decide_not];exact(decide_eq_false (by omega)).symm)
 ·exact e _ (by rw[<-decide_not];exact(decide_eq_false (by omega)).symm)
theorem NG {a b:Int} {x y:Bool} {st:St} {K:Bool->St->Prop} (hk:K (dOk a b) st):Ad PR B6 [.agg [.int .u8 a,.int .u8 b,.bool x,.bool y]] [.one (.bool)] st K:=by
 unfold dOk at hk
 have no:¬(((a=9∨(32<=a/\a<=126))/\33<=b/\b<=126/\a≠b)/\Dl a=false/\Dl b=false)->K false st:=fun h=>DQ (decide_eq_false h).symm hk
 have yes:((a=9∨(32<=a/\a<=126))/\33<=b/\b<=126/\a≠b)->Dl a=false->K (!Dl b) st:=fun h h1=>by
  cases hb:Dl b with
  | true=>exact no fun hh=>by rw[hb]at hh;exact absurd hh.2.2 (by decide)
  | false=>exact DQ (decide_eq_true ⟨h,h1,hb⟩).symm hk
 refine H7 a b x y st K ?_
 repeat' first
  | exact no (by omega)
  | refine Aa (fun _=>?_) fun _=>?_
 all_goals
  refine UN (Ar (fun h=>?_) fun h=>no fun hh=>by rw[hh.2.1]at h;cases h)
  simp only[Bool.not_eq_true']at h
  exact UN (yes (by omega) h)
theorem Tv {a b c d e:Int} {st:St} {K:Bool->St->Prop} (hk:K (lOk a b c d e) st):Ad PR F7 [.agg [.int .i64 a,.int .i64 b,.int .i64 c,.int .i64 d,.int .i64 e]] [.one (.bool)] st K:=by
 unfold lOk at hk
 refine Ni a b c d e st K ?_
 repeat' first
  | exact DQ (decide_eq_false (by omega)).symm hk
  | exact DQ (decide_eq_decide.2 (by omega)) hk
  | refine Aa (fun _=>?_) fun _=>?_
theorem ND {a b c d e:Int} {st:St} {K:Bool->St->Prop} (hk:K (lOk a b c d e) st):Ad PR B9 [.agg [.int .i64 a,.int .i64 b,.int .i64 c,.int .i64 d,.int .i64 e]] [.one (.bool)] st K:=by
 unfold lOk at hk
 refine Ic a b c d e st K ?_
 repeat' first
  | exact DQ (decide_eq_false (by omega)).symm hk
  | exact DQ (decide_eq_decide.2 (by omega)) hk
  | refine Aa (fun _=>?_) fun _=>?_
def Mm:B8:=[116,114,117,101]
def LG:B8:=[102,97,108,115,101]
def DI (ty qd:Bool) (s:B8):Sc:=
 if ty=false∨qd=true then tkT s else if s=[]then scK 0 else if s=Mm then tkB true else if s=LG then tkB false
 else if (dcP s).2.2.2=0 then tkN (dcP s).1 (dcP s).2.1 (dcP s).2.2.1
 else if (tmP s).2.2.2.2=0 then tkM (tmP s).1 (tmP s).2.1 (tmP s).2.2.1 (tmP s).2.2.2.1 else tkT s
theorem Jd (ty qd:Bool) (s:B8):(DI ty qd s).bytes=[]:=by
 unfold DI
 repeat' split
 all_goals rfl
theorem SE {s:B8} {k:Nat} {c:UInt8} (hc:c≠0) (h:b0 s k=c):s=s.take k++c::s.drop (k+1):=by
 have hk:=Ln hc h
 have h1:s.drop k=c::s.drop (k+1):=by
  rw[List.drop_eq_getElem_cons hk]
  congr 1
  unfold b0 at h
  rw[List.getD_eq_getElem?_getD,List.getElem?_eq_getElem hk]at h
  exact h
 rw[<-h1,List.take_append_drop]
theorem UA {s:B8} {k:Nat} (h:∀i,i<k->A2 (b0 s i)):∀d,d∈s.take k->A2 d:=by
 intro d hd
 obtain⟨i,hi,rfl⟩:=List.mem_iff_getElem.1 hd
 rw[List.length_take]at hi
 have:=h i (by omega)
 unfold b0 at this
 rw[List.getD_eq_getElem?_getD,List.getElem?_eq_getElem (by omega)]at this
 rw[List.getElem_take]
 exact this
theorem Vg {s:B8} (h:(tmP s).2.2.2.2=0):(dcP s).2.2.2=3:=by
 have key:∃a c r,s=a++c::r/\a≠ []/\(∀d,d∈a->A2 d)/\(c=45∨c=58):=by
  by_cases hd:DU s
  ·obtain⟨⟨h0,h1⟩,⟨h2,h3⟩,h4,_⟩:=hd
   have e:=SE (by decide) h4
   refine⟨_,_,_,e,fun h=>?_,UA fun i hi=>?_,.inl rfl⟩
   ·have:=Ln (by decide) h4
    have h':=congrArg List.length h
    rw[List.length_take,List.length_nil]at h';omega
   ·have:i=0∨i=1∨i=2∨i=3:=by omega
    rcases this with rfl | rfl | rfl | rfl<;>assumption
  ·have hc:IY s:=by
    apply Decidable.byContradiction
    intro hn
    unfold tmP at h
    rw[if_neg hd]at h
    have:Gf s=none:=by unfold Gf;rw[if_neg hn]
    rw[this]at h
    exact absurd h (by decide)
   obtain⟨⟨h0,h1⟩,h4,_⟩:=hc
   have e:=SE (by decide) h4
   refine⟨_,_,_,e,fun h=>?_,UA fun i hi=>?_,.inr rfl⟩
   ·have:=Ln (by decide) h4
    have h':=congrArg List.length h
    rw[List.length_take,List.length_nil]at h';omega
   ·have:i=0∨i=1:=by omega
    rcases this with rfl | rfl<;>assumption
 obtain⟨a,c,r,e,h1,h2,h3⟩:=key
 have hh:A2 (s.getD 0 0):=by rw[e];exact headDg h2 h1
 refine(QH _).2 ?_
 rw[show D2 s=0 from if_neg fun e=>by rw[e]at hh;revert hh;decide,List.drop_zero,e]
 exact not_isQ h2 h3
theorem VF {s:B8} (h:isQ (s.drop (D2 s))):(tmP s).2.2.2.2≠0:=fun h2=>by
 have h3:=Vg h2
 have h4:=(QH s).1 h
 unfold okE at h4;omega
theorem s45:Dl ((45:UInt8).toNat:Int)=true:=by decide
theorem s46:Dl ((46:UInt8).toNat:Int)=true:=by decide
theorem s58:Dl ((58:UInt8).toNat:Int)=true:=by decide
theorem s43:Dl ((43:UInt8).toNat:Int)=true:=by decide
theorem s48:Dl ((48:UInt8).toNat:Int)=true:=by decide
def by_ (s:B8) (i:Nat):Int:=((s.getD i 0).toNat:Int)
def LR (q:Int):B8->Nat->Option Nat
 | [],_=>none
 | [c],i=>if (c.toNat:Int)=q then some (i+1)else none
 | c::c2::l,i=>if (c.toNat:Int)=q then(if (c2.toNat:Int)=q then LR q l (i+2)else some (i+1))else LR q (c2::l) (i+1)
def WK (a q:Int):B8->Nat->Except Nat Nat
 | [],i=> .ok i
 | c::l,i=>if (c.toNat:Int)=a∨(c.toNat:Int)=10∨(c.toNat:Int)=13 then .ok i else if (c.toNat:Int)=q then .error i else WK a q l (i+1)
def QE (q:Int) (s:B8) (i:Nat):Option Nat:=LR q (s.drop i) i
def PE (a q:Int) (s:B8) (i:Nat):Except Nat Nat:=WK a q (s.drop i) i
theorem GA {s:B8} {i:Nat} (h:i<s.length):∃c,s.drop i=c::s.drop (i+1)/\(c.toNat:Int)=by_ s i:=by
 refine⟨s[i],List.drop_eq_getElem_cons h,?_⟩
 unfold by_
 rw[List.getD_eq_getElem?_getD,List.getElem?_eq_getElem h];rfl
theorem OF {q:Int} {s:B8} {i:Nat} (h:s.length<=i):QE q s i=none:=by
 unfold QE;rw[List.drop_of_length_le h];rfl
theorem Lp {q:Int} {s:B8} {i:Nat} (h:i<s.length) (hb:by_ s i≠q):QE q s i=QE q s (i+1):=by
 obtain⟨c,hd,hc⟩:=GA h
 unfold QE
 rw[hd]
 cases hr:s.drop (i+1)with
 | nil=>simp only[LR];rw[if_neg (by omega)]
 | cons c2 l=>simp only[LR];rw[if_neg (by omega)]
theorem Nb {q:Int} {s:B8} {i:Nat} (h:i<s.length) (hb:by_ s i=q) (h2:i+1<s.length->by_ s (i+1)≠q):QE q s i=some (i+1):=by
 obtain⟨c,hd,hc⟩:=GA h
 unfold QE
 rw[hd]
 by_cases hl:i+1<s.length
 ·obtain⟨c2,hd2,hc2⟩:=GA hl
  rw[hd2]
  simp only[LR]
  rw[if_pos (by omega),if_neg (by have:=h2 hl;omega)]
 ·rw[List.drop_of_length_le (by omega)]
  simp only[LR];rw[if_pos (by omega)]
theorem Na {q:Int} {s:B8} {i:Nat} (h:i+1<s.length) (hb:by_ s i=q) (h2:by_ s (i+1)=q):QE q s i=QE q s (i+2):=by
 obtain⟨c,hd,hc⟩:=GA (show i<s.length by omega)
 obtain⟨c2,hd2,hc2⟩:=GA h
 unfold QE
 rw[hd,hd2]
 simp only[LR]
 rw[if_pos (by omega),if_pos (by omega)]
theorem HT {a q:Int} {s:B8} {i:Nat} (h:s.length<=i):PE a q s i= .ok i:=by
 unfold PE;rw[List.drop_of_length_le h];rfl
theorem HS {a q:Int} {s:B8} {i:Nat} (h:i<s.length) (hb:by_ s i=a∨by_ s i=10∨by_ s i=13):PE a q s i= .ok i:=by
 obtain⟨c,hd,hc⟩:=GA h
 unfold PE;rw[hd];simp only[WK];rw[if_pos (by rw[hc];exact hb)]
theorem Lr {a q:Int} {s:B8} {i:Nat} (h:i<s.length) (hb:¬(by_ s i=a∨by_ s i=10∨by_ s i=13)) (hq:by_ s i=q):PE a q s i= .error i:=by
 obtain⟨c,hd,hc⟩:=GA h
 unfold PE;rw[hd];simp only[WK];rw[if_neg (by rw[hc];exact hb),if_pos (by omega)]
theorem Lq {a q:Int} {s:B8} {i:Nat} (h:i<s.length) (hb:¬(by_ s i=a∨by_ s i=10∨by_ s i=13)) (hq:by_ s i≠q):PE a q s i=PE a q s (i+1):=by
 obtain⟨c,hd,hc⟩:=GA h
 unfold PE;rw[hd];simp only[WK];rw[if_neg (by rw[hc];exact hb),if_neg (by omega)]
def Be (a q:Int) (s:B8) (i:Nat):Except (Nat×Int) Nat:=
 if i<s.length/\by_ s i=q then(match QE q s (i+1)with | some e=> .ok e | none=> .error (s.length,4))
 else match PE a q s i with | .ok e=> .ok e | .error o=> .error (o,3)
def slc (s:B8) (i e:Nat):B8:=(s.take e).drop i
def MP (q:Int):B8->B8
 | []=>[]
 | [c]=>[c]
 | c::c2::l=>if (c.toNat:Int)=q then c::MP q l else c::MP q (c2::l)
def txt (q:Int) (c:B8):B8:=if c=[]∨by_ c 0≠q then c else MP q ((c.take (c.length-1)).drop 1)
def BZ (s:B8) (i:Nat):Except (Nat×Int) Nat:=
 if s.length<=i then .ok 0 else if by_ s i=10 then .ok 1 else if by_ s i≠13 then .error (i,3)else if s.length<=i+1 then .error (s.length,4)else if by_ s (i+1)=10 then .ok 2 else .error (i,3)
def EQ (dep nod:Int) (d:Int) (i:Nat) (v:Int):Except (Nat×Int) Int:=if dep<d then .error (i,9)else if nod<=v then .error (i,10)else .ok (v+1)
structure Cx where
 s:B8
 a:Int
 q:Int
 dep:Int
 nod:Int
def E0 (x:Cx) (hd:Bool) (i:Nat) (v:Int) (ns:List B8):Except (Nat×Int) (Nat×Int×List B8):=do
 let v1<-if hd then .ok v else EQ x.dep x.nod 3 i v
 let e<-Be x.a x.q x.s i
 let t:=txt x.q (slc x.s i e)
 if (if hd then 1024 else 65536)<t.length then .error (i,10)
 else if hd/\t∈ns then .error (i,8)
 else .ok (e,v1,if hd then t::ns else ns)
def Lf (s:B8) (i e:Nat) (mark:List Nd):Nd:= .mk 5 [] [] (.mk 2 [] (slc s i e) [] []::mark) []
def Cd (x:Cx) (num:Bool) (wid:Int) (hd:Bool):Nat->List Nd->Nat->Int->List B8->Except (Nat×Int) (Nat×Int×List B8×List Nd)
 | 0,_,_,_,_=> .error (0,0)
 | n+1,acc,i,v,ns=>
  if num/\wid<=acc.length then .error (i,10)else do
   let (e,v1,ns1)<-E0 x hd i v ns
   if e<x.s.length/\by_ x.s e=x.a then Cd x num wid hd n (acc++[Lf x.s i e [.mk 11 [] [x.s.getD e 0] [] []]]) (e+1) v1 ns1
   else do
    let _<-BZ x.s e
    .ok (e,v1,ns1,acc++[Lf x.s i e []])
def dbl (c:UInt8) (t:B8):B8:=t.flatMap (SX c [c,c])
theorem DX (c b:UInt8) (t:B8):dbl c (b::t)=(if b=c then [c,c]else [b])++dbl c t:=by
 simp[dbl,SX]
theorem Vz {q:Int} {c:UInt8} (hc:(c.toNat:Int)=q):∀(n:Nat) (l:B8) (i e:Nat),l.length<=n->LR q l i=some e->∃t rest,l=dbl c t++c::rest/\e=i+(dbl c t).length+1:=by
 have heq:∀b:UInt8,(b.toNat:Int)=q↔b=c:=fun b=>⟨fun h=>UInt8.toNat_inj.1 (by omega),fun h=>by rw[h];exact hc⟩
 intro n
 induction n with
 | zero=>intro l i e hl h;have:l=[]:=List.eq_nil_of_length_eq_zero (by omega);subst this;simp[LR]at h
 | succ n ih=>
  intro l i e hl h
  match l,hl,h with
  | [],_,h=>simp[LR]at h
  | [b],_,h=>
   simp only[LR]at h
   split at h
   ·rename_i hb
    cases h
    exact⟨[],[],by rw[(heq b).1 hb];rfl,rfl⟩
   ·cases h
  | b::b2::l,hl,h=>
   simp only[LR]at h
   split at h
   ·rename_i hb
    have hb:=(heq b).1 hb
    split at h
    ·rename_i hb2
     have hb2:=(heq b2).1 hb2
     obtain⟨t,rest,h1,h2⟩:=ih l (i+2) e (by simp at hl;omega) h
     refine⟨c::t,rest,?_,?_⟩
     ·rw[hb,hb2,h1,DX];simp
     ·rw[h2,DX];simp;omega
    ·cases h
     exact⟨[],b2::l,by rw[hb];rfl,rfl⟩
   ·rename_i hb
    have hb:b≠c:=fun h=>hb ((heq b).2 h)
    obtain⟨t,rest,h1,h2⟩:=ih (b2::l) (i+1) e (by simp at hl⊢;omega) h
    refine⟨b::t,rest,?_,?_⟩
    ·rw[h1,DX,if_neg hb];simp
    ·rw[h2,DX,if_neg hb];simp;omega
theorem Q8 {q:Int} {c:UInt8} (hc:(c.toNat:Int)=q):∀t:B8,MP q (dbl c t)=t
 | []=>rfl
 | b::t=>by
  have ih:=Q8 hc t
  rw[DX]
  by_cases hb:b=c
  ·subst hb
   simp only[if_true,List.cons_append,List.nil_append,MP]
   rw[if_pos hc,ih]
  ·rw[if_neg hb]
   have hb':(b.toNat:Int)≠q:=fun h=>hb (UInt8.toNat_inj.1 (by omega))
   simp only[List.cons_append,List.nil_append]
   cases hd:dbl c t with
   | nil=>rw[hd]at ih;simp only[MP]at ih⊢;rw[<-ih]
   | cons b2 l=>simp only[MP];rw[if_neg hb',<-hd,ih]
theorem Ml (c:UInt8):∀t:B8,c∉t∨∃a b,t=a++c::b/\c∉a
 | []=> .inl (by simp)
 | d::t=>by
  by_cases h:d=c
  ·exact .inr ⟨[],t,by rw[h];rfl,by simp⟩
  ·rcases Ml c t with h1 | ⟨a,b,h1,h2⟩
   ·exact .inl (by simp[Ne.symm h,h1])
   ·exact .inr ⟨d::a,b,by rw[h1];rfl,by simp[Ne.symm h,h2]⟩
theorem Sv {c:UInt8} {t:B8} (h:c∉t):dbl c t=t:=Po c [c,c] t h
theorem M8 (c:UInt8) (a b:B8):dbl c (a++b)=dbl c a++dbl c b:=by simp[dbl]
theorem L4 (c:UInt8) (l:B8):∀a:B8,c∉a->Lib.index (a++l) [c,c]=if Lib.index l [c,c]= -1 then-1 else Lib.index l [c,c]+a.length
 | [],_=>by simp
 | d::a,h=>by
  simp only[List.mem_cons,not_or]at h
  have hp: [c,c].isPrefixOf (d::(a++l))=false:=by simp[List.isPrefixOf,h.1]
  rw[List.cons_append,Lib.index,hp,L4 c l a h.2]
  have hge:=Lib.index_ge l [c,c]
  by_cases hm:Lib.index l [c,c]= -1
  ·simp[hm]
  ·have:¬(Lib.index l [c,c]+(a.length:Int)= -1):=by omega
   simp[hm,this];omega
theorem count2 (c:UInt8):∀(n:Nat) (t:B8),t.length<=n->Lib.count (dbl c t) [c,c]<=t.length/\Lib.replaceK [c,c] [c] (Lib.count (dbl c t) [c,c]) (dbl c t)=t:=by
 intro n
 induction n with
 | zero=>
  intro t ht
  have:t=[]:=List.eq_nil_of_length_eq_zero (by omega)
  subst this
  have h0:Lib.count (dbl c []) [c,c]=0:=Lib.count_miss (by simp[dbl,Lib.index])
  rw[h0];exact⟨by simp,rfl⟩
 | succ n ih=>
  intro t ht
  rcases Ml c t with h | ⟨a,b,h1,h2⟩
  ·rw[Sv h]
   have:Lib.index t [c,c]= -1:=by
    have:=L4 c [] t h
    simpa [Lib.index]using this
   rw[Lib.count_miss this]
   exact⟨by simp,rfl⟩
  ·have hd:dbl c t=a++(c::c::dbl c b):=by rw[h1,M8,Sv h2,DX,if_pos rfl];rfl
   have hi:Lib.index (dbl c t) [c,c]=(a.length:Nat):=by
    have h0:Lib.index (c::c::dbl c b) [c,c]=0:=by simp[Lib.index,List.isPrefixOf]
    rw[hd,L4 c _ a h2,h0];simp
   have hdr:(dbl c t).drop (a.length+ [c,c].length)=dbl c b:=by
    rw[hd,<-List.drop_drop,List.drop_left];rfl
   have hlen:t.length=a.length+1+b.length:=by rw[h1];simp;omega
   obtain⟨c1,c2⟩:=ih b (by omega)
   rw[Lib.count_hit (by simp) hi,hdr]
   refine⟨by omega,?_⟩
   rw[Nat.add_comm,Lib.replaceK_hit _ _ _ _ _ hi,hdr,c2,hd,List.take_left,h1]
   simp
theorem Q9 {s t:B8} {c:UInt8} {st:St} {K:B8->St->Prop} (hs:s=dbl c t) (hl:s.length<=2000000000) (hk:K t st):
  Ad PR ED [.str s,.str [c,c],.str [c]] [.one (.str)] st K:=by
 refine Fv (fun _ _=>Tryz.call146 _ _) fun g w vargs sim hr=>?_
 obtain⟨v1,v2,v3,rfl,h1,h2,h3⟩:=Tc hr
 rw[Dp h1,Dp h2,Dp h3]
 obtain⟨_,m,hm⟩:=sim.glob w sim.below
 obtain⟨c1,c2⟩:=count2 c t.length t (Nat.le_refl _)
 have hcB:Lib.countB ⟨s.toArray⟩ ⟨#[c,c]⟩=Lib.count s [c,c]:=rfl
 have hts:t.length<=s.length:=by
  rw[hs]
  clear hs hl h1 c1 c2 hk hcB
  induction t with
  | nil=>simp
  | cons b t ih=>rw[DX];split<;>simp<;>omega
 refine Calls.mono (Tryz.strings_ReplaceAll ⟨s.toArray⟩ ⟨#[c,c]⟩ ⟨#[c]⟩ m w ?_ hm ?_ ?_) ?_
 ·show s.toArray.size<_
  simp;omega
 ·show 1<=(#[c,c]:Array UInt8).size
  simp
 ·rw[hcB]
  show s.toArray.size+_*(#[c]:Array UInt8).size<=_
  rw[hs]at hl hts⊢
  simp;omega
 ·rintro e w' ⟨rfl,hb⟩
  obtain⟨s',e'⟩:=sim.grown hb
  have hv:Lib.replaceAll s [c,c] [c]=t:=by
   unfold Lib.replaceAll Lib.replace
   rw[if_neg (by simp),hs]
   exact c2
  refine⟨_,rfl,.str t,st,g,hk,s',?_,e'⟩
  show Rel g w' _ (.string ⟨(Lib.replaceAll s [c,c] [c]).toArray⟩)
  rw[hv]
  exact Rel.str _
def J1 (q:Int) (cl:B8):Prop:=cl=[]∨by_ cl 0≠q∨∃c t,(c.toNat:Int)=q/\cl=c::(dbl c t++[c])
theorem Nq {q:Int} {c:UInt8} {t:B8} (hc:(c.toNat:Int)=q):txt q (c::(dbl c t++[c]))=t:=by
 unfold txt
 rw[if_neg (by simp[by_,hc])]
 have:((c::(dbl c t++[c])).take ((c::(dbl c t++[c])).length-1)).drop 1=dbl c t:=by
  simp
 rw[this,Q8 hc]
def G3 (x:Cx) (num:Bool) (wid:Int) (hd:Bool) (i:Nat) (v:Int) (ns:List B8):Except (Nat×Int) (Nat×Int×List B8×Nd×Int):=do
 let v1<-if hd then .ok v else EQ x.dep x.nod 2 i v
 let (e,v2,ns2,ks)<-Cd x num wid hd (x.s.length+1) [] i v1 ns
 let n<-BZ x.s e
 let wid':=if num then wid else(ks.length:Int)
 if (ks.length:Int)<wid' then .error (e,10)else .ok (e+n,v2,ns2,.mk 8 [] [] ks (slc x.s e (e+n)),wid')
def Em (x:Cx) (hdr:Bool):Nat->List Nd->Nat->Int->List B8->Int->Except (Nat×Int) (List Nd)
 | 0,_,_,_,_,_=> .error (0,0)
 | n+1,acc,i,v,ns,wid=>
  if x.s.length<=i then .ok acc else do
   let (i',v',ns',r,wid')<-G3 x (!acc.isEmpty) wid (hdr&&acc.isEmpty) i v ns
   Em x hdr n (acc++[r]) i' v' ns' wid'
theorem US {s:B8} {I:Int} {i:Nat} (hI:I=(i:Int)) (hi:i<=s.length) (hl:s.length<=2000000) {st:St} {K:Int->St->Prop}
  (hk:K (match BZ s i with | .ok n=>(n:Int) | .error (_,e)=>if e=4 then-2 else-1) st):Ad PR AM [.str s,.int .i64 I] [.one (.int .i64)] st K:=by
 subst hI
 unfold BZ by_ at hk
 have hw:i64.wrap ((i:Int)+1)=((i+1:Nat):Int):=by rw[Al _ (by omega) (by omega)];omega
 refine IB s (i:Int) st K ?_
 rw[hw,show Int.toNat (i:Int)=i from rfl,show Int.toNat ((i+1:Nat):Int)=i+1 from rfl]
 refine Aa (fun g=>?_) fun g=>⟨⟨by omega,by omega⟩,Aa (fun g2=>?_) fun g2=>⟨⟨by omega,by omega⟩,Aa (fun g3=>?_) fun g3=>Aa (fun g4=>?_) fun g4=>⟨⟨by omega,by omega⟩,Aa (fun g5=>?_) fun g5=>?_⟩⟩⟩
 ·rw[if_pos (by omega)]at hk;exact hk
 ·rw[if_neg (by omega),if_pos g2]at hk;exact hk
 ·rw[if_neg (by omega),if_neg g2,if_pos g3]at hk;exact hk
 ·rw[if_neg (by omega),if_neg g2,if_neg g3,if_pos (by omega)]at hk;exact hk
 ·rw[if_neg (by omega),if_neg g2,if_neg g3,if_neg (by omega),if_pos g5]at hk;exact hk
 ·rw[if_neg (by omega),if_neg g2,if_neg g3,if_neg (by omega),if_neg g5]at hk;exact hk
def rst (s:B8) (a q:Int) (hd ty:Bool) (l0 l1 l2 l3 l4 i v off err:Int):TV:=
 .agg [.str s,.int .u8 a,.int .u8 q,.bool hd,.bool ty,.int .i64 l0,.int .i64 l1,.int .i64 l2,.int .i64 l3,.int .i64 l4,.int .i64 i,.int .i64 v,.int .i64 off,.int .i64 err]
abbrev rsh:RTy:= .agg [.str,.int .u8,.int .u8,.bool,.bool,.int .i64,.int .i64,.int .i64,.int .i64,.int .i64,.int .i64,.int .i64,.int .i64,.int .i64]
theorem Ee {s:B8} {a q:Int} {hd ty:Bool} {l0 l1 l2 l3 l4 i v off err o e:Int} {st:St} {K:B8->Int->Int->Bool->Bool->Int->Int->Int->Int->Int->Int->Int->Int->Int->St->Prop}
  (h0:err=0->K s a q hd ty l0 l1 l2 l3 l4 i v o e st) (h1:err≠0->K s a q hd ty l0 l1 l2 l3 l4 i v off err st):
  Ad PR Aj [rst s a q hd ty l0 l1 l2 l3 l4 i v off err,.int .i64 o,.int .i64 e] [rsh] st K:=
 FW s a q hd ty l0 l1 l2 l3 l4 i v off err o e st K (Aa h0 h1)
theorem LN {s:B8} {a q:Int} {hd ty:Bool} {l0 l1 l2 l3 l4 i off d:Int} {v:Int} {k:Nat} (hi:i=(k:Int)) (hv:v<1000000000) (hv0:0<=v) {st:St} {K:B8->Int->Int->Bool->Bool->Int->Int->Int->Int->Int->Int->Int->Int->Int->St->Prop}
  (h0:∀v',EQ l0 l1 d k v= .ok v'->K s a q hd ty l0 l1 l2 l3 l4 i v' off 0 st) (h1:∀o e,EQ l0 l1 d k v= .error (o,e)->K s a q hd ty l0 l1 l2 l3 l4 i v (o:Int) e st):
  Ad PR A0 [rst s a q hd ty l0 l1 l2 l3 l4 i v off 0,.int .i64 d] [rsh] st K:=by
 unfold EQ at h0 h1
 subst hi
 refine Ft s a q hd ty l0 l1 l2 l3 l4 (k:Int) v off 0 d st K (Aa (fun g=>?_) fun g=>Aa (fun g2=>?_) fun g2=>?_)
 ·rw[if_pos g]at h1
  exact Ee (fun _=>h1 _ _ rfl) fun h=>absurd rfl h
 ·rw[if_neg g,if_pos g2]at h1
  exact Ee (fun _=>h1 _ _ rfl) fun h=>absurd rfl h
 ·rw[if_neg g,if_neg g2]at h0
  rw[Al _ (by omega) (by omega)]
  exact h0 _ rfl
theorem MG {q:Int} {s:B8}:∀(n i e:Nat),s.length-i<=n->QE q s i=some e->i<e/\e<=s.length:=by
 intro n
 induction n with
 | zero=>intro i e h he;rw[OF (by omega)]at he;cases he
 | succ n ih=>
  intro i e h he
  by_cases hi:i<s.length
  ·by_cases hb:by_ s i=q
   ·by_cases h2:i+1<s.length/\by_ s (i+1)=q
    ·rw[Na h2.1 hb h2.2]at he
     have:=ih (i+2) e (by omega) he
     omega
    ·rw[Nb hi hb (fun h3 h4=>h2 ⟨h3,h4⟩)]at he
     cases he;omega
   ·rw[Lp hi hb]at he
    have:=ih (i+1) e (by omega) he
    omega
  ·rw[OF (by omega)]at he;cases he
theorem WE {s:B8} {a q:Int} {hd ty:Bool} {l0 l1 l2 l3 l4 I off err:Int} {v:Int} {i:Nat} (hI:I=(i:Int)) (hi:i<=s.length) (hl:s.length<=2000000) {st:St} {K:B8->Int->Int->Bool->Bool->Int->Int->Int->Int->Int->Int->Int->Int->Int->B8->St->Prop}
  (h0:∀e,Be a q s i= .ok e->i<=e->e<=s.length->K s a q hd ty l0 l1 l2 l3 l4 (e:Int) v off err (slc s i e) st)
  (h1:∀o c (k:Nat),Be a q s i= .error (o,c)->k<=s.length->K s a q hd ty l0 l1 l2 l3 l4 (k:Int) v (if err=0 then(o:Int)else off) (if err=0 then c else err) [] st):
  Ad PR Ck [rst s a q hd ty l0 l1 l2 l3 l4 I v off err] [rsh,.one .str] st K:=by
 subst hI
 have fin:∀o c (k:Nat),Be a q s i= .error (o,c)->k<=s.length->Ad PR Aj [rst s a q hd ty l0 l1 l2 l3 l4 (k:Int) v off err,.int .i64 (o:Int),.int .i64 c] [rsh] st
   (fun s2 n12 n13 b3 b4 n14 n15 n16 n17 n18 n19 n20 n21 n22 st2=>K s2 n12 n13 b3 b4 n14 n15 n16 n17 n18 n19 n20 n21 n22 [] st2):=fun o c k h hk=>
  Ee (fun h2=>by have:=h1 o c k h hk;rwa [if_pos h2,if_pos h2]at this) fun h2=>by have:=h1 o c k h hk;rwa [if_neg h2,if_neg h2]at this
 have w1:∀k:Nat,k<=s.length->i64.wrap ((k:Int)+1)=((k+1:Nat):Int):=fun k hk=>by rw[Al _ (by omega) (by omega)];omega
 have tn:∀k:Nat,Int.toNat (k:Int)=k:=fun k=>rfl
 refine IC s a q hd ty l0 l1 l2 l3 l4 (i:Int) v off err st K (Aa (fun g=>⟨⟨by omega,by omega⟩,Aa (fun g2=>?_) fun g2=>?_⟩) fun g=>?_)
 ·--quoted
  have hc:Be a q s i=match QE q s (i+1)with | some e=> .ok e | none=> .error (s.length,4):=by
   unfold Be;rw[if_pos ⟨by omega,g2⟩]<;>(cases QE q s (i+1)<;>rfl)
  rw[w1 i hi]
  refine⟨fun fr s1 n1 n2 b1 b2 n3 n4 n5 n6 n7 n8 n9 n10 n11 st1=>(i:Int)=fr/\s=s1/\a=n1/\q=n2/\hd=b1/\ty=b2/\l0=n3/\l1=n4/\l2=n5/\l3=n6/\l4=n7/\v=n9/\off=n10/\err=n11/\st=st1/\∃k:Nat,n8=(k:Int)/\i<k/\k<=s.length/\QE q s (i+1)=QE q s k,
   fun _ _ _ _ _ _ _ _ _ _ _ n8 _ _ _ _=>(s.length-n8).toNat,⟨rfl,rfl,rfl,rfl,rfl,rfl,rfl,rfl,rfl,rfl,rfl,rfl,rfl,rfl,rfl,i+1,rfl,by omega,by omega,rfl⟩,?_⟩
  rintro _ _ _ _ _ _ _ _ _ _ _ _ _ _ _ _ ⟨rfl,rfl,rfl,rfl,rfl,rfl,rfl,rfl,rfl,rfl,rfl,rfl,rfl,rfl,rfl,k,rfl,hk1,hk2,hq⟩
  rw[w1 k hk2,tn,tn]
  have stop:(k:Int)<s.length->by_ s k=q->(k+1<s.length->by_ s (k+1)≠q)->K s a q hd ty l0 l1 l2 l3 l4 ((k+1:Nat):Int) v off err (slc s i (k+1)) st:=fun h h2 h3=>by
   rw[Nb (by omega) h2 h3]at hq
   rw[hq]at hc
   exact h0 _ hc (by omega) (by omega)
  refine Aa (fun q1=>⟨⟨by omega,by omega⟩,Aa (fun q2=>⟨⟨by omega,by omega⟩,Aa (fun q3=>absurd q3 q2) fun _=>?_⟩) fun q2=>Aa (fun q3=>⟨⟨by omega,by omega⟩,Aa (fun q4=>⟨⟨by omega,by omega⟩,Aa (fun q5=>?_) fun q5=>absurd (Decidable.not_not.1 q2) q5⟩) fun q4=>Aa (fun q5=>?_) fun q5=>⟨⟨by omega,by omega,by omega⟩,?_⟩⟩) fun q3=>Aa (fun q5=>?_) fun q5=>⟨⟨by omega,by omega,by omega⟩,?_⟩⟩) fun q1=>Aa (fun q5=>?_) fun q5=>absurd (by omega) q5
  ·rw[Lp (by omega) q2]at hq
   exact⟨⟨rfl,rfl,rfl,rfl,rfl,rfl,rfl,rfl,rfl,rfl,rfl,rfl,rfl,rfl,rfl,k+1,rfl,by omega,by omega,hq⟩,by dsimp only;omega⟩
  ·rw[Na (by omega) (Decidable.not_not.1 q2) q4]at hq
   rw[w1 (k+1) (by omega)]
   exact⟨⟨rfl,rfl,rfl,rfl,rfl,rfl,rfl,rfl,rfl,rfl,rfl,rfl,rfl,rfl,rfl,k+2,rfl,by omega,by omega,hq⟩,by dsimp only;omega⟩
  ·omega
  ·exact stop q1 (Decidable.not_not.1 q2) fun _=>q4
  ·omega
  ·exact stop q1 (Decidable.not_not.1 q2) fun h=>absurd (by omega) q3
  ·refine fin s.length 4 k ?_ hk2
   rw[hc,hq,OF (by omega)]
 all_goals
  have hc:Be a q s i=match PE a q s i with | .ok e=> .ok e | .error o=> .error (o,3):=by
   unfold Be
   rw[if_neg (by first | (rintro⟨_,h⟩;exact g2 h) | (rintro⟨h,_⟩;omega))]<;>(cases PE a q s i<;>rfl)
  refine⟨fun fr s1 n1 n2 b1 b2 n3 n4 n5 n6 n7 n8 n9 n10 n11 st1=>(i:Int)=fr/\s=s1/\a=n1/\q=n2/\hd=b1/\ty=b2/\l0=n3/\l1=n4/\l2=n5/\l3=n6/\l4=n7/\v=n9/\off=n10/\err=n11/\st=st1/\∃k:Nat,n8=(k:Int)/\i<=k/\k<=s.length/\PE a q s i=PE a q s k,
   fun _ _ _ _ _ _ _ _ _ _ _ n8 _ _ _ _=>(s.length-n8).toNat,⟨rfl,rfl,rfl,rfl,rfl,rfl,rfl,rfl,rfl,rfl,rfl,rfl,rfl,rfl,rfl,i,rfl,by omega,by omega,rfl⟩,?_⟩
  rintro _ _ _ _ _ _ _ _ _ _ _ _ _ _ _ _ ⟨rfl,rfl,rfl,rfl,rfl,rfl,rfl,rfl,rfl,rfl,rfl,rfl,rfl,rfl,rfl,k,rfl,hk1,hk2,hq⟩
  rw[w1 k hk2,tn]
  have stop:PE a q s k= .ok k->K s a q hd ty l0 l1 l2 l3 l4 (k:Int) v off err (slc s i k) st:=fun h=>by
   rw[h]at hq
   rw[hq]at hc
   exact h0 _ hc hk1 hk2
  refine Aa (fun q1=>⟨⟨by omega,by omega⟩,Aa (fun q2=>⟨⟨by omega,by omega⟩,Aa (fun q3=>⟨⟨by omega,by omega⟩,Aa (fun q4=>⟨⟨by omega,by omega⟩,Aa (fun q5=>?_) fun q5=>?_⟩) fun q4=>?_⟩) fun q3=>?_⟩) fun q2=>?_⟩) fun q1=>?_
  ·refine fin k 3 k ?_ hk2
   rw[hc,hq,Lr (by omega) (by rintro(h | h | h);exact q2 h;exact q3 h;exact q4 h) q5]
  ·rw[Lq (by omega) (by rintro(h | h | h);exact q2 h;exact q3 h;exact q4 h) q5]at hq
   exact⟨⟨rfl,rfl,rfl,rfl,rfl,rfl,rfl,rfl,rfl,rfl,rfl,rfl,rfl,rfl,rfl,k+1,rfl,by omega,by omega,hq⟩,by dsimp only;omega⟩
  ·exact⟨⟨by omega,by omega,by omega⟩,stop (HS (by omega) (.inr (.inr (Decidable.not_not.1 q4))))⟩
  ·exact⟨⟨by omega,by omega,by omega⟩,stop (HS (by omega) (.inr (.inl (Decidable.not_not.1 q3))))⟩
  ·exact⟨⟨by omega,by omega,by omega⟩,stop (HS (by omega) (.inl (Decidable.not_not.1 q2)))⟩
  ·exact⟨⟨by omega,by omega,by omega⟩,stop (HT (by omega))⟩
theorem MZ {s:B8} {i e:Nat} (h:i<=e) (h2:e<=s.length):(slc s i e).length=e-i:=by
 unfold slc;rw[List.length_drop,List.length_take];omega
theorem FK {s:B8} {i e:Nat} (h:i<=e):s.drop i=slc s i e++s.drop e:=by
 unfold slc
 rw[ER]
 have:s.drop e=(s.drop i).drop (e-i):=by rw[List.drop_drop];congr 1;omega
 rw[this,List.take_append_drop]
theorem slc_get {s:B8} {i e:Nat} (h:i<e) (h2:e<=s.length):by_ (slc s i e) 0=by_ s i:=by
 unfold by_ slc
 rw[L7,List.getD_eq_getElem?_getD,List.getD_eq_getElem?_getD,List.getElem?_take,if_pos (by omega)]
 rfl
theorem UD {s:B8} {e:Nat} (h:e<s.length):slc s e (e+1)=[s.getD e 0]:=by
 unfold slc
 rw[ER,PB _ _ 0 h]
 simp
theorem XJ {a q:Int} {s:B8}:∀(n i e:Nat),s.length-i<=n->i<=s.length->PE a q s i= .ok e->i<=e/\e<=s.length/\(e<s.length->by_ s e=a∨by_ s e=10∨by_ s e=13)/\(i<e->by_ s i≠q):=by
 intro n
 induction n with
 | zero=>intro i e h hi he;rw[HT (by omega)]at he;cases he;exact⟨by omega,by omega,fun h=>absurd h (by omega),fun h=>absurd h (by omega)⟩
 | succ n ih=>
  intro i e h hi he
  by_cases hl:i<s.length
  ·by_cases hb:by_ s i=a∨by_ s i=10∨by_ s i=13
   ·rw[HS hl hb]at he;cases he;exact⟨by omega,by omega,fun _=>hb,fun h=>absurd h (by omega)⟩
   ·by_cases hq:by_ s i=q
    ·rw[Lr hl hb hq]at he;cases he
    ·rw[Lq hl hb hq]at he
     obtain⟨h1,h2,h3,_⟩:=ih (i+1) e (by omega) (by omega) he
     exact⟨by omega,h2,h3,fun _=>hq⟩
  ·rw[HT (by omega)]at he;cases he;exact⟨by omega,by omega,fun h=>absurd h (by omega),fun h=>absurd h (by omega)⟩
theorem DY {a q:Int} {s:B8} {i e:Nat} (hi:i<=s.length) (h:Be a q s i= .ok e):i<=e/\e<=s.length:=by
 unfold Be at h
 split at h
 ·split at h
  ·rename_i e' he;cases h;have:=MG _ _ _ (Nat.le_refl _) he;omega
  ·cases h
 ·split at h
  ·rename_i e' he;cases h;have:=XJ _ _ _ (Nat.le_refl _) hi he;omega
  ·cases h
theorem byte_of (q:Int) (s:B8) (i:Nat) (h:i<s.length) (hq:by_ s i=q):∃c:UInt8,(c.toNat:Int)=q/\s.getD i 0=c:=⟨s.getD i 0,hq,rfl⟩
theorem QK {a q:Int} {s:B8} {i e:Nat} (hi:i<=s.length) (h:Be a q s i= .ok e):J1 q (slc s i e):=by
 unfold Be at h
 split at h
 ·rename_i hc
  split at h
  ·rename_i e' he
   cases h
   obtain⟨c,hc1,hc2⟩:=byte_of q s i hc.1 hc.2
   obtain⟨t,rest,h1,h2⟩:=Vz hc1 _ _ _ _ (Nat.le_refl _) he
   right;right
   refine⟨c,t,hc1,?_⟩
   have hle:=MG _ _ _ (Nat.le_refl _) he
   unfold slc
   rw[ER,PB _ _ 0 hc.1,hc2,h1,show e-i=(dbl c t++[c]).length+1 by simp;omega,List.take_succ_cons]
   congr 1
   rw[show dbl c t++c::rest=(dbl c t++[c])++rest by simp,List.take_left]
  ·cases h
 ·rename_i hc
  split at h
  ·rename_i e' he
   cases h
   have hle:=XJ _ _ _ (Nat.le_refl _) hi he
   by_cases hlt:i<e
   ·right;left
    rw[slc_get hlt hle.2.1]
    exact hle.2.2.2 hlt
   ·left
    apply List.eq_nil_of_length_eq_zero
    rw[MZ hle.1 hle.2.1];omega
  ·cases h
theorem Wm (q:Int):∀(n:Nat) (l:B8),l.length<=n->(MP q l).length<=l.length:=by
 intro n
 induction n with
 | zero=>intro l h;have:l=[]:=List.eq_nil_of_length_eq_zero (by omega);subst this;simp[MP]
 | succ n ih=>
  intro l h
  match l,h with
  | [],_=>simp[MP]
  | [c],_=>simp[MP]
  | c::c2::l,h=>
   simp only[MP]
   split
   ·have:=ih l (by simp at h;omega);simp;omega
   ·have:=ih (c2::l) (by simp at h⊢;omega);simp at this⊢;omega
theorem Ux (q:Int) (c:B8):(txt q c).length<=c.length:=by
 unfold txt
 split
 ·omega
 ·have:=Wm q _ ((c.take (c.length-1)).drop 1) (Nat.le_refl _)
  simp at this⊢;omega
theorem F4 {s:B8} {e n:Nat} (he:e<=s.length) (h:BZ s e= .ok n):e+n<=s.length/\(n=0->e=s.length)/\(0<n->by_ s (e+n-1)=10)/\(e<s.length->by_ s e=10∨by_ s e=13):=by
 unfold BZ at h
 split at h
 ·cases h;exact⟨by omega,fun _=>by omega,fun h=>by omega,fun h=>by omega⟩
 split at h
 ·rename_i h1 h2;cases h;exact⟨by omega,fun h=>by omega,fun _=>by simpa using h2,fun _=> .inl h2⟩
 split at h
 ·cases h
 split at h
 ·cases h
 split at h
 ·rename_i h1 h2 h3 h4 h5;cases h;exact⟨by omega,fun h=>by omega,fun _=>by simpa using h5,fun _=> .inr (Decidable.not_not.1 h3)⟩
 ·cases h
inductive Mf (a q:Int) (s:B8):Nat->List Nd->Nat->Nat->Prop where
 | last {i e n:Nat}:Be a q s i= .ok e->¬(e<s.length/\by_ s e=a)->BZ s e= .ok n->Mf a q s i [Lf s i e []] e n
 | more {i e f n:Nat} {ks:List Nd}:Be a q s i= .ok e->e<s.length->by_ s e=a->Mf a q s (e+1) ks f n->Mf a q s i (Lf s i e [.mk 11 [] [s.getD e 0] [] []]::ks) f n
inductive Me (a q:Int) (s:B8):Nat->List Nd->Prop where
 | nil {i:Nat}:s.length<=i->Me a q s i []
 | cons {i e n:Nat} {ks rs:List Nd}:i<s.length->Mf a q s i ks e n->Me a q s (e+n) rs->Me a q s i (.mk 8 [] [] ks (slc s e (e+n))::rs)
theorem Mf.le {a q:Int} {s:B8} {i:Nat} {ks:List Nd} {e n:Nat} (h:Mf a q s i ks e n):i<=s.length->i<=e/\e+n<=s.length/\1<=ks.length/\ks.length<=e-i+1/\BZ s e= .ok n:=by
 induction h with
 | last h1 h2 h3=>intro hi;have:=DY hi h1;have:=F4 this.2 h3;exact⟨by omega,by omega,by simp,by simp,h3⟩
 | more h1 h2 h3 h4 ih=>intro hi;have:=DY hi h1;have ih:=ih (by omega);refine⟨by omega,by omega,by simp,?_,ih.2.2.2.2⟩;rw[List.length_cons];omega
theorem Mf.text {a q:Int} {s:B8} {i:Nat} {ks:List Nd} {e n:Nat} (h:Mf a q s i ks e n):i<=s.length->K8 ks=slc s i e:=by
 induction h with
 | last h1 h2 h3=>intro hi;simp[K8,IR,Lf]
 | @more i e e' n ks h1 h2 h3 h4 ih=>
  intro hi
  have hl:=DY hi h1
  have hl2:=h4.le (by omega)
  simp only[K8,IR,Lf,List.nil_append,List.append_nil]
  rw[ih (by omega),<-UD h2]
  have e1:=FK (s:=s) (i:=i) (e:=e') (by omega)
  have e2:=FK (s:=s) (i:=i) (e:=e) (by omega)
  have e3:=FK (s:=s) (i:=e) (e:=e+1) (by omega)
  have e4:=FK (s:=s) (i:=e+1) (e:=e') (by omega)
  rw[e2,e3,e4,<-List.append_assoc,<-List.append_assoc]at e1
  have:=List.append_inj_left' e1 rfl
  rw[<-this,List.append_assoc]
theorem Me.text {a q:Int} {s:B8} {i:Nat} {rs:List Nd} (h:Me a q s i rs):i<=s.length->K8 rs=s.drop i:=by
 induction h with
 | nil h=>intro hi;rw[List.drop_of_length_le h];rfl
 | @cons i e n ks rs h1 h2 h3 ih=>
  intro hi
  have hl:=h2.le (by omega)
  simp only[K8,IR,List.nil_append]
  rw[ih (by omega),h2.text (by omega),List.append_assoc,<-FK (by omega),<-FK (by omega)]
def XK (a q:Int) (n:Nd):Prop:=∃c mark,n= .mk 5 [] [] (.mk 2 [] c [] []::mark) []/\J1 q c/\(mark=[]∨∃b:UInt8,(b.toNat:Int)=a/\mark=[.mk 11 [] [b] [] []])
def RecF (a q:Int) (n:Nd):Prop:=∃ks t,n= .mk 8 [] [] ks t/\1<=ks.length/\∀k∈ks,XK a q k
theorem Mf.form {a q:Int} {s:B8} {i:Nat} {ks:List Nd} {e n:Nat} (h:Mf a q s i ks e n):i<=s.length->∀k∈ks,XK a q k:=by
 induction h with
 | last h1 h2 h3=>intro hi k hk;rw[List.mem_singleton]at hk;subst hk;exact⟨_,_,rfl,QK hi h1,.inl rfl⟩
 | @more i e e' n ks h1 h2 h3 h4 ih=>
  intro hi k hk
  have hl:=DY hi h1
  rcases List.mem_cons.1 hk with rfl | hk
  ·exact⟨_,_,rfl,QK hi h1,.inr ⟨s.getD e 0,h3,rfl⟩⟩
  ·exact ih (by omega) k hk
theorem Me.form {a q:Int} {s:B8} {i:Nat} {rs:List Nd} (h:Me a q s i rs):i<=s.length->∀r∈rs,RecF a q r:=by
 induction h with
 | nil h=>intro hi r hr;cases hr
 | @cons i e n ks rs h1 h2 h3 ih=>
  intro hi r hr
  have hl:=h2.le (by omega)
  rcases List.mem_cons.1 hr with rfl | hr
  ·exact⟨_,_,rfl,hl.2.2.1,h2.form (by omega)⟩
  ·exact ih (by omega) r hr
def AC:Nd->List Nd | .mk _ _ _ ks _=>ks
def A6 (n:Nd):B8:=match AC n with | .mk _ _ c _ _::_=>c | []=>[]
theorem Ha (s:B8) (i e:Nat) (m:List Nd):A6 (Lf s i e m)=slc s i e:=rfl
theorem Lg {x:Cx} {i:Nat} {v:Int} {ns:List B8} {e:Nat} {v1:Int} {ns1:List B8} (h:E0 x false i v ns= .ok (e,v1,ns1)):
  3<=x.dep/\v<x.nod/\v1=v+1/\ns1=ns/\Be x.a x.q x.s i= .ok e/\(txt x.q (slc x.s i e)).length<=65536:=by
 simp only[E0,EQ,Bool.false_eq_true,if_false,false_and]at h
 split at h
 ·cases h
 ·split at h
  ·cases h
  ·simp only[bind,Except.bind]at h
   split at h
   ·cases h
   ·rename_i e' he
    split at h
    ·cases h
    ·cases h
     exact⟨by omega,by omega,rfl,rfl,he,by omega⟩
theorem entE_of {x:Cx} {i:Nat} {v:Int} {ns:List B8} {e:Nat} (h1:3<=x.dep) (h2:v<x.nod) (h3:Be x.a x.q x.s i= .ok e) (h4:(txt x.q (slc x.s i e)).length<=65536):
  E0 x false i v ns= .ok (e,v+1,ns):=by
 simp only[E0,EQ,Bool.false_eq_true,if_false,false_and]
 rw[if_neg (by omega),if_neg (by omega)]
 simp only[bind,Except.bind,h3]
 rw[if_neg (by omega)]
theorem entE_9 {x:Cx} {i:Nat} {v:Int} {ns:List B8} (h:x.dep<3):E0 x false i v ns= .error (i,9):=by
 simp only[E0,EQ,Bool.false_eq_true,if_false]
 rw[if_pos h];rfl
theorem entE_10 {x:Cx} {i:Nat} {v:Int} {ns:List B8} (h:3<=x.dep) (h2:x.nod<=v):E0 x false i v ns= .error (i,10):=by
 simp only[E0,EQ,Bool.false_eq_true,if_false]
 rw[if_neg (by omega),if_pos h2];rfl
theorem L9 {x:Cx} {i:Nat} {v:Int} {ns:List B8} {e:Nat} {v1:Int} {ns1:List B8} (h:E0 x true i v ns= .ok (e,v1,ns1)):
  v1=v/\Be x.a x.q x.s i= .ok e/\(txt x.q (slc x.s i e)).length<=1024:=by
 simp only[E0,if_true,true_and]at h
 simp only[bind,Except.bind]at h
 split at h
 ·cases h
 ·rename_i e' he
  split at h
  ·cases h
  ·split at h
   ·cases h
   ·cases h
    exact⟨rfl,he,by omega⟩
abbrev Cx.lim (x:Cx) (d n:Int):Cx:={x with dep:=d,nod:=n}
theorem RI {x:Cx} {num hd:Bool} {wid:Int}:∀(n:Nat) {acc:List Nd} {i:Nat} {v:Int} {ns:List B8} {e:Nat} {v':Int} {ns':List B8} {out:List Nd},
  i<=x.s.length->Cd x num wid hd n acc i v ns= .ok (e,v',ns',out)->∃ks m,out=acc++ks/\Mf x.a x.q x.s i ks e m/\v'=v+(if hd then 0 else(ks.length:Int))/\
   (∀k∈ks,(txt x.q (A6 k)).length<=65536)/\(num=true->(out.length:Int)<=wid)/\(hd=false->3<=x.dep/\v'<=x.nod/\ns'=ns):=by
 intro n
 induction n with
 | zero=>intro acc i v ns e v' ns' out hi h;simp only[Cd]at h;cases h
 | succ n ih=>
  intro acc i v ns e v' ns' out hi h
  simp only[Cd]at h
  split at h
  ·cases h
  rename_i hw
  simp only[bind,Except.bind]at h
  split at h
  ·cases h
  rename_i p he
  obtain⟨e1,v1,ns1⟩:=p
  have hent:Be x.a x.q x.s i= .ok e1/\(txt x.q (slc x.s i e1)).length<=65536/\v1=v+(if hd then 0 else 1)/\(hd=false->3<=x.dep/\v1<=x.nod/\ns1=ns):=by
   cases hd with
   | false=>have:=Lg he;exact⟨this.2.2.2.2.1,this.2.2.2.2.2,by simpa using this.2.2.1,fun _=>⟨this.1,by omega,this.2.2.2.1⟩⟩
   | true=>have:=L9 he;exact⟨this.2.1,by omega,by simpa using this.1,fun h=>by cases h⟩
  obtain⟨c1,c2,c3,c4⟩:=hent
  have hle:=DY hi c1
  simp only at h
  split at h
  ·rename_i hm
   obtain⟨ks,m,k1,k2,k3,k4,k5,k6⟩:=ih (by omega) h
   refine⟨_::ks,m,by rw[k1,List.append_assoc];rfl,.more c1 hm.1 hm.2 k2,?_,?_,k5,fun hh=>?_⟩
   ·rw[k3,c3];cases hd<;>simp<;>omega
   ·intro k hk
    rcases List.mem_cons.1 hk with rfl | hk
    ·exact c2
    ·exact k4 k hk
   ·have:=k6 hh;have:=c4 hh;exact⟨by omega,by omega,by rw[(k6 hh).2.2,this.2.2]⟩
  ·rename_i hm
   split at h
   ·cases h
   rename_i m hm2
   cases h
   refine⟨_,_,rfl,.last c1 hm hm2,by rw[c3];cases hd<;>simp,?_,?_,fun hh=>⟨(c4 hh).1,(c4 hh).2.1,(c4 hh).2.2⟩⟩
   ·intro k hk
    rw[List.mem_singleton]at hk;subst hk;exact c2
   ·intro hn
    rw[List.length_append,List.length_singleton]
    have:¬wid<=(acc.length:Int):=fun h=>hw ⟨hn,h⟩
    omega
theorem Vu {x:Cx} {num:Bool} {wid:Int} (d' n':Int):∀(n:Nat) {acc:List Nd} {i:Nat} {v:Int} {ns:List B8},
  Cd (x.lim d' n') num wid true n acc i v ns=Cd x num wid true n acc i v ns:=by
 intro n
 induction n with
 | zero=>intros;rfl
 | succ n ih=>
  intro acc i v ns
  simp only[Cd]
  have:E0 (x.lim d' n') true i v ns=E0 x true i v ns:=rfl
  rw[this]
  simp only[ih]
theorem WC {x:Cx} {num:Bool} {wid:Int} {d' n':Int}:∀(n:Nat) {acc:List Nd} {i:Nat} {v:Int} {ns:List B8} {e:Nat} {v':Int} {ns':List B8} {out:List Nd},
  Cd x num wid false n acc i v ns= .ok (e,v',ns',out)->v<v'/\(3<=d'->v'<=n'->Cd (x.lim d' n') num wid false n acc i v ns= .ok (e,v',ns',out))/\
   (3<=d'->n'<v'->∃o,Cd (x.lim d' n') num wid false n acc i v ns= .error (o,10))/\(d'<3->∃o,Cd (x.lim d' n') num wid false n acc i v ns= .error (o,9)):=by
 intro n
 induction n with
 | zero=>intro acc i v ns e v' ns' out h;simp only[Cd]at h;cases h
 | succ n ih=>
  intro acc i v ns e v' ns' out h
  simp only[Cd]at h⊢
  split at h
  ·cases h
  rename_i hw
  rw[if_neg hw]
  simp only[bind,Except.bind]at h⊢
  split at h
  ·cases h
  rename_i p he
  obtain⟨e1,v1,ns1⟩:=p
  obtain⟨c1,c2,rfl,rfl,c3,c4⟩:=Lg he
  simp only at h
  have e9:d'<3->E0 (x.lim d' n') false i v ns1= .error (i,9):=fun h=>entE_9 h
  have e10:3<=d'->n'<=v->E0 (x.lim d' n') false i v ns1= .error (i,10):=fun h h2=>entE_10 h h2
  have eok:3<=d'->v<n'->E0 (x.lim d' n') false i v ns1= .ok (e1,v+1,ns1):=fun h h2=>entE_of h h2 c3 c4
  split at h
  ·rename_i hm
   obtain⟨k0,k1,k2,k3⟩:=ih h
   refine⟨by omega,fun h1 h2=>?_,fun h1 h2=>?_,fun h1=>?_⟩
   ·rw[eok h1 (by omega)]
    simp only
    rw[if_pos hm];exact k1 h1 h2
   ·by_cases hv:n'<=v
    ·rw[e10 h1 hv];exact⟨_,rfl⟩
    ·rw[eok h1 (by omega)]
     simp only
     rw[if_pos hm];exact k2 h1 h2
   ·rw[e9 h1];exact⟨_,rfl⟩
  ·rename_i hm
   split at h
   ·cases h
   rename_i m hm2
   cases h
   refine⟨by omega,fun h1 h2=>?_,fun h1 h2=>?_,fun h1=>?_⟩
   ·rw[eok h1 (by omega)]
    simp only
    rw[if_neg hm,hm2]
   ·rw[e10 h1 (by omega)];exact⟨_,rfl⟩
   ·rw[e9 h1];exact⟨_,rfl⟩
def Hz (s:B8) (num:Bool) (wid:Int) (R:Except (Nat×Int) (Nat×Int×List B8×List Nd)):Except (Nat×Int) (Nat×Int×List B8×Nd×Int):=
 match R with
 | .error e=> .error e
 | .ok (e,v2,ns2,ks)=>match BZ s e with
  | .error e=> .error e
  | .ok n=>if (ks.length:Int)<(if num then wid else(ks.length:Int))then .error (e,10)else .ok (e+n,v2,ns2,.mk 8 [] [] ks (slc s e (e+n)),if num then wid else(ks.length:Int))
theorem HA (x:Cx) (num:Bool) (wid:Int) (hd:Bool) (i:Nat) (v:Int) (ns:List B8):G3 x num wid hd i v ns=
  if hd=true then Hz x.s num wid (Cd x num wid hd (x.s.length+1) [] i v ns)else match EQ x.dep x.nod 2 i v with
   | .error e=> .error e
   | .ok v1=>Hz x.s num wid (Cd x num wid hd (x.s.length+1) [] i v1 ns):=by
 unfold G3 Hz
 cases hd with
 | true=>
  simp only[if_true,bind,Except.bind]
  rcases Cd x num wid true (x.s.length+1) [] i v ns with e | ⟨e,v2,ns2,ks⟩
  ·rfl
  ·cases h:BZ x.s e<;>simp[h]
 | false=>
  simp only[Bool.false_eq_true,if_false,bind,Except.bind]
  cases EQ x.dep x.nod 2 i v with
  | error e=>rfl
  | ok v1=>
   simp only
   rcases Cd x num wid false (x.s.length+1) [] i v1 ns with e | ⟨e,v2,ns2,ks⟩
   ·rfl
   ·cases h:BZ x.s e<;>simp[h]
theorem QQ {dep nod d:Int} {i:Nat} {v v1:Int} (h:EQ dep nod d i v= .ok v1):v1=v+1:=by
 unfold EQ at h
 split at h
 ·cases h
 split at h
 ·cases h
 ·cases h;rfl
theorem F2 {x:Cx} {num hd:Bool} {wid:Int} {i:Nat} {v:Int} {ns:List B8} {p:Nat×Int×List B8×Nd×Int} (h:G3 x num wid hd i v ns= .ok p):
  ∃v1,v1=v+(if hd then 0 else 1)/\Hz x.s num wid (Cd x num wid hd (x.s.length+1) [] i v1 ns)= .ok p:=by
 rw[HA]at h
 cases hd with
 | true=>exact⟨v,by simp,by simpa using h⟩
 | false=>
  simp only[Bool.false_eq_true,if_false]at h
  split at h
  ·cases h
  ·rename_i v1 h1
   exact⟨v1,by simpa using QQ h1,h⟩
theorem KY {s:B8} {num:Bool} {wid:Int} {R:Except (Nat×Int) (Nat×Int×List B8×List Nd)} {p:Nat×Int×List B8×Nd×Int} (h:Hz s num wid R= .ok p):
  ∃e v2 ns2 ks m,R= .ok (e,v2,ns2,ks)/\BZ s e= .ok m/\¬(ks.length:Int)<(if num then wid else(ks.length:Int))/\p=(e+m,v2,ns2,.mk 8 [] [] ks (slc s e (e+m)),if num then wid else(ks.length:Int)):=by
 unfold Hz at h
 split at h
 ·cases h
 rename_i e v2 ns2 ks
 split at h
 ·cases h
 rename_i m hm
 by_cases hw:(ks.length:Int)<(if num then wid else(ks.length:Int))
 ·rw[if_pos hw]at h;cases h
 ·rw[if_neg hw]at h
  exact⟨e,v2,ns2,ks,m,rfl,hm,hw,(Except.ok.inj h).symm⟩
section
theorem Vf (st:St) {a:Int} (c:UInt8) (hc:(c.toNat:Int)=a):(toBytes st (.list 1 .full 1 [.int .u8 a])).map TV.str=some (.str [c]):=by
 have:UInt8.ofNat a.toNat=c:=by rw[<-hc];simp
 rw[<-this];rfl
def FD (x:Cx) (i e:Nat):Nd:=Lf x.s i e (if e<x.s.length/\by_ x.s e=x.a then [.mk 11 [] [x.s.getD e 0] [] []]else [])
def sclC (c:B8):List TV:=[.int .i64 2,.str [],.str c,.nilSlice,.str []]
def mrkC (c:UInt8):List TV:=[.int .i64 11,.str [],.str [c],.nilSlice,.str []]
theorem NdC.leaf (k:Int) (t:B8):NdC (.mk k [] t [] []) [.int .i64 k,.str [],.str t,.nilSlice,.str []]:=by
 unfold NdC;exact⟨_,[],rfl,.inl ⟨rfl,rfl,rfl⟩,BA.nil⟩
theorem NdC.ent1 {s:B8} {i e:Nat} {v:TV} (h:Rd 5 v 1 (sclC (slc s i e))):NdC (Lf s i e []) [.int .i64 5,.str [],.str [],v,.str []]:=by
 unfold Lf NdC
 exact⟨v,_,rfl,h,BA.one (NdC.leaf 2 _)⟩
theorem NdC.ent2 {s:B8} {i e:Nat} {c:UInt8} {v:TV} (h:Rd 5 v 2 (sclC (slc s i e)++mrkC c)):NdC (Lf s i e [.mk 11 [] [c] [] []]) [.int .i64 5,.str [],.str [],v,.str []]:=by
 unfold Lf NdC
 exact⟨v,_,rfl,h,BA.append (BA.one (NdC.leaf 2 _)) (BA.one (NdC.leaf 11 _))⟩
theorem RO {v:TV} (h:Aq v=true):List.all [v] Aq=true:=by simp[h]
def MU (x:Cx) (hd:Bool) (i:Nat) (v1:Int) (ns:List B8):Except (Nat×Int) (Nat×Int×List B8):=
 match Be x.a x.q x.s i with
 | .error e=> .error e
 | .ok e=>if (if hd then 1024 else 65536)<(txt x.q (slc x.s i e)).length then .error (i,10)else if hd/\txt x.q (slc x.s i e)∈ns then .error (i,8)
  else .ok (e,v1,if hd then txt x.q (slc x.s i e)::ns else ns)
theorem QA (x:Cx) (hd:Bool) (i:Nat) (v:Int) (ns:List B8):E0 x hd i v ns=if hd=true then MU x hd i v ns else match EQ x.dep x.nod 3 i v with
  | .error e=> .error e
  | .ok v1=>MU x hd i v1 ns:=by
 unfold E0 MU
 cases hd with
 | true=>simp only[if_true,bind,Except.bind];cases Be x.a x.q x.s i<;>rfl
 | false=>
  simp only[Bool.false_eq_true,if_false,bind,Except.bind]
  cases EQ x.dep x.nod 3 i v with
  | error e=>rfl
  | ok v1=>simp only;cases Be x.a x.q x.s i<;>rfl
section
variable {p m:Nat} {x:Cx} {hd ty:Bool} {l2 l3 l4:Int} {ns:List B8} {I v w o e:Int} {st:St}
end
end
section
theorem LM (x:Cx) (num:Bool) (wid:Int) (hd:Bool) (n:Nat) (acc:List Nd) (i:Nat) (v:Int) (ns:List B8):Cd x num wid hd (n+1) acc i v ns=
  if num=true/\wid<=(acc.length:Int)then .error (i,10)else match E0 x hd i v ns with
   | .error e=> .error e
   | .ok (e,v1,ns1)=>if e<x.s.length/\by_ x.s e=x.a then Cd x num wid hd n (acc++[FD x i e]) (e+1) v1 ns1 else match BZ x.s e with
    | .error e=> .error e
    | .ok _=> .ok (e,v1,ns1,acc++[FD x i e]):=by
 simp only[Cd]
 by_cases hw:num=true/\wid<=(acc.length:Int)
 ·rw[if_pos hw,if_pos hw]
 rw[if_neg hw,if_neg hw]
 simp only[bind,Except.bind]
 rcases E0 x hd i v ns with e | ⟨e,v1,ns1⟩
 ·rfl
 simp only
 by_cases hm:e<x.s.length/\by_ x.s e=x.a
 ·rw[if_pos hm,if_pos hm]
  unfold FD;rw[if_pos hm]
 ·rw[if_neg hm,if_neg hm]
  unfold FD;rw[if_neg hm]
  cases BZ x.s e<;>rfl
theorem entE_le {x:Cx} {hd:Bool} {i:Nat} {v:Int} {ns:List B8} {e:Nat} {v1:Int} {ns1:List B8} (hi:i<=x.s.length) (h:E0 x hd i v ns= .ok (e,v1,ns1)):i<=e/\e<=x.s.length/\v<=v1/\v1<=v+1:=by
 cases hd with
 | true=>have:=L9 h;have h2:=DY hi this.2.1;omega
 | false=>have:=Lg h;have h2:=DY hi this.2.2.2.2.1;omega
theorem SM {p H:Prop} [Decidable p] {A X:Prop} (t:H->X) (h1:p->(H->X)->A) (h2:¬p->H):BIf (decide p) A X:=Aa (fun q=>h1 q t) fun q=>t (h2 q)
section
variable {p m:Nat} {x:Cx} {hd ty:Bool} {l2 l3 l4:Int} {ns:List B8} {I v w o e:Int} {st:St}
end
end
theorem NF {x:Cx} {num hd:Bool} {wid:Int} {i:Nat} {v:Int} {ns:List B8} {i':Nat} {v':Int} {ns':List B8} {r:Nd} {wid':Int} (hi:i<=x.s.length)
  (h:G3 x num wid hd i v ns= .ok (i',v',ns',r,wid')):∃ks e m,r= .mk 8 [] [] ks (slc x.s e (e+m))/\i'=e+m/\Mf x.a x.q x.s i ks e m/\v'=v+(if hd then 0 else 1+(ks.length:Int))/\
   (∀k∈ks,(txt x.q (A6 k)).length<=65536)/\(ks.length:Int)=wid'/\(num=true->wid'=wid)/\(hd=false->3<=x.dep/\v'<=x.nod/\ns'=ns):=by
 obtain⟨v1,h1,h⟩:=F2 h
 obtain⟨e,v2,ns2,ks,m',h2,h3,hw,hp⟩:=KY h
 simp only[Prod.mk.injEq]at hp
 obtain⟨rfl,rfl,rfl,rfl,rfl⟩:=hp
 obtain⟨ks',m,k1,k2,k3,k4,k5,k6⟩:=RI _ hi h2
 rw[List.nil_append]at k1
 subst k1
 have hl:=k2.le hi
 rw[hl.2.2.2.2]at h3
 cases h3
 refine⟨_,e,_,rfl,rfl,k2,?_,k4,?_,?_,k6⟩
 ·rw[k3,h1];cases hd<;>simp;omega
 ·cases num with
  | true=>simp only[if_true]at hw⊢;have:=k5 rfl;omega
  | false=>rfl
 ·intro hn;rw[hn];rfl
theorem Vw {x:Cx} {num:Bool} {wid:Int} (d' n':Int) {i:Nat} {v:Int} {ns:List B8}:G3 (x.lim d' n') num wid true i v ns=G3 x num wid true i v ns:=by
 rw[HA,HA,if_pos rfl,if_pos rfl]
 have:=Vu (x:=x) (num:=num) (wid:=wid) d' n' (x.s.length+1) (acc:=[]) (i:=i) (v:=v) (ns:=ns)
 show Hz x.s num wid (Cd (x.lim d' n') num wid true (x.s.length+1) [] i v ns)=_
 rw[this]
theorem WD {x:Cx} {num:Bool} {wid:Int} {d' n':Int} {i:Nat} {v:Int} {ns:List B8} {i':Nat} {v':Int} {ns':List B8} {r:Nd} {wid':Int}
  (h:G3 x num wid false i v ns= .ok (i',v',ns',r,wid')):v+1<v'/\(3<=d'->v'<=n'->G3 (x.lim d' n') num wid false i v ns= .ok (i',v',ns',r,wid'))/\
   (3<=d'->n'<v'->∃o,G3 (x.lim d' n') num wid false i v ns= .error (o,10))/\(d'=2->v<n'->∃o,G3 (x.lim d' n') num wid false i v ns= .error (o,9)):=by
 obtain⟨v1,h1,h⟩:=F2 h
 have h1:v1=v+1:=by simpa using h1
 subst h1
 obtain⟨e,v2,ns2,ks,m,h2,h3,hw,hp⟩:=KY h
 simp only[Prod.mk.injEq]at hp
 obtain⟨rfl,rfl,rfl,rfl,rfl⟩:=hp
 obtain⟨k0,k1,k2,k3⟩:=WC (d':=d') (n':=n') _ h2
 have b1:2<=d'->v<n'->EQ d' n' 2 i v= .ok (v+1):=fun g1 g2=>by unfold EQ;rw[if_neg (by omega),if_neg (by omega)]
 have b2:2<=d'->n'<=v->EQ d' n' 2 i v= .error (i,10):=fun g1 g2=>by unfold EQ;rw[if_neg (by omega),if_pos g2]
 rw[HA]
 simp only[Bool.false_eq_true,if_false]
 refine⟨by omega,fun g1 g2=>?_,fun g1 g2=>?_,fun g1 g2=>?_⟩
 ·rw[b1 (by omega) (by omega)]
  show Hz x.s num wid (Cd (x.lim d' n') num wid false (x.s.length+1) [] i (v+1) ns)=_
  rw[k1 g1 g2]
  simp only[Hz,h3]
  rw[if_neg hw]
 ·by_cases hv:n'<=v
  ·rw[b2 (by omega) hv];exact⟨_,rfl⟩
  ·rw[b1 (by omega) (by omega)]
   obtain⟨o,ho⟩:=k2 g1 g2
   exact⟨o,by show Hz x.s num wid (Cd (x.lim d' n') num wid false (x.s.length+1) [] i (v+1) ns)=_;rw[ho];rfl⟩
 ·rw[b1 (by omega) (by omega)]
  obtain⟨o,ho⟩:=k3 (by omega)
  exact⟨o,by show Hz x.s num wid (Cd (x.lim d' n') num wid false (x.s.length+1) [] i (v+1) ns)=_;rw[ho];rfl⟩
def PJ (r:Nd):Int:=1+((AC r).length:Int)
def Lj:List Nd->Int
 | []=>0
 | r::rs=>PJ r+Lj rs
theorem HN:∀rs,0<=Lj rs
 | []=>by simp[Lj]
 | r::rs=>by have:=HN rs;simp only[Lj,PJ];omega
def Gd (hd:Bool) (rs:List Nd):Int:=if hd then Lj rs.tail else Lj rs
theorem O8 {x:Cx} {num hd:Bool} {wid:Int}:∀(n:Nat) {acc:List Nd} {i:Nat} {v:Int} {ns:List B8} {e:Nat} {v':Int} {ns':List B8} {out:List Nd},
  Cd x num wid hd n acc i v ns= .ok (e,v',ns',out)->v'=v+(if hd then 0 else(out.length:Int)-acc.length):=by
 intro n
 induction n with
 | zero=>intro acc i v ns e v' ns' out h;simp only[Cd]at h;cases h
 | succ n ih=>
  intro acc i v ns e v' ns' out h
  simp only[Cd]at h
  split at h
  ·cases h
  simp only[bind,Except.bind]at h
  split at h
  ·cases h
  rename_i p he
  obtain⟨e1,v1,ns1⟩:=p
  have c3:v1=v+(if hd then 0 else 1):=by
   cases hd with
   | false=>simpa using (Lg he).2.2.1
   | true=>simpa using (L9 he).1
  simp only at h
  split at h
  ·have:=ih h
   rw[this,c3]
   cases hd<;>simp
   omega
  ·split at h
   ·cases h
   cases h
   rw[c3]
   cases hd<;>simp
   omega
theorem recE_v1 {x:Cx} {num:Bool} {wid:Int} (n:Nat) {acc:List Nd} {i:Nat} {v:Int} {ns:List B8} {e:Nat} {v':Int} {ns':List B8} {out:List Nd}
  (h:Cd x num wid true n acc i v ns= .ok (e,v',ns',out)):v'=v:=by simpa using O8 n h
theorem Vx {x:Cx} {num:Bool} {wid:Int} {i:Nat} {v:Int} {ns:List B8} {i':Nat} {v':Int} {ns':List B8} {r:Nd} {wid':Int}
  (h:G3 x num wid false i v ns= .ok (i',v',ns',r,wid')):v'=v+PJ r:=by
 obtain⟨v1,h1,h⟩:=F2 h
 have h1:v1=v+1:=by simpa using h1
 subst h1
 obtain⟨e,v2,ns2,ks,m,h2,h3,hw,hp⟩:=KY h
 simp only[Prod.mk.injEq]at hp
 obtain⟨rfl,rfl,rfl,rfl,rfl⟩:=hp
 have:=O8 _ h2
 simp only[Bool.false_eq_true,if_false,List.length_nil]at this
 simp only[PJ,AC];omega
theorem Oh {x:Cx} {hdr:Bool}:∀(n:Nat) {acc:List Nd} {i:Nat} {v:Int} {ns:List B8} {wid:Int} {out:List Nd},i<=x.s.length->Em x hdr n acc i v ns wid= .ok out->
  ∃rs,out=acc++rs/\Me x.a x.q x.s i rs/\(∀r∈rs,∀k∈AC r,(txt x.q (A6 k)).length<=65536)/\(∃W:Int,(acc≠ []->W=wid)/\∀r∈rs,((AC r).length:Int)=W)/\
   (Gd (hdr&&acc.isEmpty) rs=0∨3<=x.dep/\v+Gd (hdr&&acc.isEmpty) rs<=x.nod):=by
 intro n
 induction n with
 | zero=>intro acc i v ns wid out hi h;simp only[Em]at h;cases h
 | succ n ih=>
  intro acc i v ns wid out hi h
  simp only[Em]at h
  split at h
  ·rename_i hl
   cases h
   exact⟨[],by simp,.nil hl,fun r hr=>(by cases hr),⟨wid,fun _=>rfl,fun r hr=>(by cases hr)⟩,.inl (by unfold Gd;cases (hdr&&acc.isEmpty)<;>rfl)⟩
  rename_i hl
  simp only[bind,Except.bind]at h
  split at h
  ·cases h
  rename_i p h1
  obtain⟨i',v',ns',r,wid'⟩:=p
  obtain⟨ks,e,m,rfl,rfl,k2,k3,k4,k5,k6,k7⟩:=NF hi h1
  have hle:=k2.le hi
  obtain⟨rs,j1,j2,j3,⟨W,j4,j5⟩,j6⟩:=ih (by omega) h
  have hW:W=wid':=j4 (by simp)
  refine⟨_::rs,by rw[j1,List.append_assoc];rfl,.cons (by omega) k2 j2,?_,⟨W,fun hne=>?_,?_⟩,?_⟩
  ·intro r hr
   rcases List.mem_cons.1 hr with rfl | hr
   ·exact k4
   ·exact j3 r hr
  ·rw[hW];exact k6 (by cases acc;exact absurd rfl hne;rfl)
  ·intro r hr
   rcases List.mem_cons.1 hr with rfl | hr
   ·rw[hW];exact k5
   ·exact j5 r hr
  ·have hnil:(hdr&&(acc++[Nd.mk 8 [] [] ks (slc x.s e (e+m))]).isEmpty)=false:=by cases acc<;>simp
   rw[hnil]at j6
   have hcn:=HN rs
   cases hh:(hdr&&acc.isEmpty)with
   | true=>
    rw[hh]at k3 k7
    simp only[Gd,if_true,List.tail_cons,Bool.false_eq_true,if_false]at j6 k3⊢
    rcases j6 with j6 | j6
    ·exact .inl j6
    ·right;omega
   | false=>
    rw[hh]at k3 k7
    have k7:=k7 rfl
    simp only[Gd,Bool.false_eq_true,if_false,Lj,PJ,AC]at j6 k3⊢
    right
    rcases j6 with j6 | j6
    ·exact⟨k7.1,by omega⟩
    ·exact⟨k7.1,by omega⟩
theorem Xo {x:Cx} {hdr:Bool} {d' n':Int}:∀(n:Nat) {acc:List Nd} {i:Nat} {v:Int} {ns:List B8} {wid:Int} {out:List Nd},Em x hdr n acc i v ns wid= .ok out->
  ∃rs,out=acc++rs/\((Gd (hdr&&acc.isEmpty) rs=0∨3<=d')->v+Gd (hdr&&acc.isEmpty) rs<=n'->Em (x.lim d' n') hdr n acc i v ns wid= .ok out)/\
   (0<Gd (hdr&&acc.isEmpty) rs->3<=d'->n'<v+Gd (hdr&&acc.isEmpty) rs->∃o,Em (x.lim d' n') hdr n acc i v ns wid= .error (o,10))/\
   (0<Gd (hdr&&acc.isEmpty) rs->d'=2->v+Gd (hdr&&acc.isEmpty) rs<=n'->∃o,Em (x.lim d' n') hdr n acc i v ns wid= .error (o,9)):=by
 intro n
 induction n with
 | zero=>intro acc i v ns wid out h;simp only[Em]at h;cases h
 | succ n ih=>
  intro acc i v ns wid out h
  simp only[Em]at h⊢
  split at h
  ·rename_i hl
   cases h
   have h0:Gd (hdr&&acc.isEmpty) []=0:=by unfold Gd;cases (hdr&&acc.isEmpty)<;>rfl
   refine⟨[],by simp,?_⟩
   rw[h0]
   exact⟨fun _ _=>by rw[if_pos hl],fun h=>absurd h (by decide),fun h=>absurd h (by decide)⟩
  rename_i hl
  rw[if_neg hl]
  simp only[bind,Except.bind]at h⊢
  split at h
  ·cases h
  rename_i p h1
  obtain⟨i',v',ns',r,wid'⟩:=p
  obtain⟨rs,j1,j2,j3,j4⟩:=ih h
  have hnil:(hdr&&(acc++[r]).isEmpty)=false:=by cases acc<;>simp
  rw[hnil]at j2 j3 j4
  have hcn:=HN rs
  refine⟨r::rs,by rw[j1,List.append_assoc];rfl,?_⟩
  cases hh:(hdr&&acc.isEmpty)with
  | true=>
   rw[hh]at h1
   rw[Vw,h1]
   have hv:v'=v:=by
    obtain⟨v1,h3,h4⟩:=F2 h1
    have h3:v1=v:=by simpa using h3
    subst h3
    obtain⟨e,v2,ns2,ks,m,h2,h5,hw,hp⟩:=KY h4
    simp only[Prod.mk.injEq]at hp
    obtain⟨rfl,rfl,rfl,rfl,rfl⟩:=hp
    exact recE_v1 _ h2
   subst hv
   simp only[Gd,if_true,List.tail_cons,Bool.false_eq_true,if_false]at j2 j3 j4⊢
   exact⟨j2,j3,j4⟩
  | false=>
   rw[hh]at h1
   have hc:v'=v+PJ r:=Vx h1
   obtain⟨k0,k1,k2,k3⟩:=WD (d':=d') (n':=n') h1
   simp only[Gd,Bool.false_eq_true,if_false,Lj]at j2 j3 j4⊢
   refine⟨fun g1 g2=>?_,fun g0 g1 g2=>?_,fun g0 g1 g2=>?_⟩
   ·have:3<=d':=by rcases g1 with g1 | g1;omega;exact g1
    rw[k1 this (by omega)]
    exact j2 (.inr this) (by omega)
   ·by_cases hv:n'<v'
    ·obtain⟨o,ho⟩:=k2 g1 hv
     rw[ho];exact⟨_,rfl⟩
    ·rw[k1 g1 (by omega)]
     by_cases h0:0<Lj rs
     ·exact j3 h0 g1 (by omega)
     ·omega
   ·obtain⟨o,ho⟩:=k3 g1 (by omega)
    rw[ho];exact⟨_,rfl⟩
def CA (x:Cx) (hd:Bool) (l2 l3 l4:Int):Except (Nat×Int) Nd:=
 if dOk x.a x.q=false then .error (0,1)else if lOk x.dep x.nod l2 l3 l4=false then .error (0,1)else if l2<x.s.length then .error (0,10)else if A5 x.s≠x.s.length then .error (A5 x.s,5)
 else match Em x hd (x.s.length+1) [] 0 1 [] 0 with
  | .error e=> .error e
  | .ok rs=> .ok (.mk 1 [] [] rs [])
def pN:Except (Nat×Int) Nd->Nd | .ok n=>n | .error _=> .mk 0 [] [] [] []
def pO:Except (Nat×Int) Nd->Int | .ok _=>0 | .error e=>e.1
def pE:Except (Nat×Int) Nd->Int | .ok _=>0 | .error e=>e.2
theorem PD (x:Cx) (hdr:Bool) (n:Nat) (acc:List Nd) (i:Nat) (v:Int) (ns:List B8) (wid:Int):Em x hdr (n+1) acc i v ns wid=
  if x.s.length<=i then .ok acc else match G3 x (!acc.isEmpty) wid (hdr&&acc.isEmpty) i v ns with
   | .error e=> .error e
   | .ok (i',v',ns',r,wid')=>Em x hdr n (acc++[r]) i' v' ns' wid':=by
 simp only[Em,bind,Except.bind]
 by_cases h:x.s.length<=i
 ·rw[if_pos h,if_pos h]
 ·rw[if_neg h,if_neg h]
  rcases G3 x (!acc.isEmpty) wid (hdr&&acc.isEmpty) i v ns with e | ⟨i',v',ns',r,wid'⟩<;>rfl
theorem UH {x:Cx} {num hd:Bool} {wid:Int} {i:Nat} {v:Int} {ns:List B8} {i':Nat} {v':Int} {ns':List B8} {r:Nd} {wid':Int} (hi:i<x.s.length)
  (h:G3 x num wid hd i v ns= .ok (i',v',ns',r,wid')):i<i'/\i'<=x.s.length/\v<=v'/\v'<=v+3*(i'-i:Nat)/\1<=wid':=by
 obtain⟨ks,e,m,rfl,rfl,k2,k3,k4,k5,k6,k7⟩:=NF (by omega) h
 have hle:=k2.le (by omega)
 have hpos:1<=e+m-i:=by
  have:=(F4 (by omega) hle.2.2.2.2).2.1
  rcases Nat.eq_zero_or_pos m with h0 | h0
  ·have:=this h0;omega
  ·omega
 cases hd<;>simp at k3<;>omega
def VR (a:Int) (s:B8) (i:Nat):Except (Nat×Int) Unit:=if i<s.length/\by_ s i≠a then(match BZ s i with | .ok _=> .ok () | .error e=> .error e)else .ok ()
theorem Jo {s:B8} {i o:Nat} {c:Int} (h:BZ s i= .error (o,c)):(o=i/\c=3)∨(o=s.length/\c=4):=by
 unfold BZ at h
 repeat' split at h
 all_goals first | cases h | skip
 all_goals simp
theorem Qg {s:B8} {a q:Int} {hd ty:Bool} {l0 l1 l2 l3 l4 I off err:Int} {v:Int} {i:Nat} (hI:I=(i:Int)) (hi:i<=s.length) (hl:s.length<=2000000) {st:St} {K:B8->Int->Int->Bool->Bool->Int->Int->Int->Int->Int->Int->Int->Int->Int->St->Prop}
  (h0:VR a s i= .ok ()->K s a q hd ty l0 l1 l2 l3 l4 (i:Int) v off err st)
  (h1:∀o c,VR a s i= .error (o,c)->K s a q hd ty l0 l1 l2 l3 l4 (i:Int) v (if err=0 then(o:Int)else off) (if err=0 then c else err) st):
  Ad PR A4 [rst s a q hd ty l0 l1 l2 l3 l4 I v off err] [rsh] st K:=by
 subst hI
 unfold VR at h0 h1
 have fin:∀(o:Nat) (c:Int),(K s a q hd ty l0 l1 l2 l3 l4 (i:Int) v (if err=0 then(o:Int)else off) (if err=0 then c else err) st)->Ad PR Aj [rst s a q hd ty l0 l1 l2 l3 l4 (i:Int) v off err,.int .i64 (o:Int),.int .i64 c] [rsh] st K:=fun o c h=>
  Ee (fun h2=>by rwa [if_pos h2,if_pos h2]at h) fun h2=>by rwa [if_neg h2,if_neg h2]at h
 refine GG s a q hd ty l0 l1 l2 l3 l4 (i:Int) v off err st K (Aa (fun g=>⟨⟨by omega,by omega⟩,Aa (fun g2=>US rfl hi hl ?_) fun g2=>?_⟩) fun g=>?_)
 ·have hc:i<s.length/\by_ s i≠a:=⟨by omega,g2⟩
  rw[if_pos hc]at h0 h1
  cases hle:BZ s i with
  | ok n=>
   rw[hle]at h0
   exact Aa (fun h=>by simp at h) fun _=>Aa (fun h=>by simp at h) fun _=>h0 rfl
  | error p=>
   obtain⟨o,c⟩:=p
   rw[hle]at h1
   rcases Jo hle with⟨rfl,rfl⟩ | ⟨rfl,rfl⟩
   ·exact Aa (fun _=>fin _ _ (h1 _ _ rfl)) fun h=>absurd rfl h
   ·exact Aa (fun h=>by simp at h) fun _=>Aa (fun _=>fin _ _ (h1 _ _ rfl)) fun h=>absurd rfl h
 ·rw[if_neg (by rintro⟨_,h⟩;exact g2 h)]at h0;exact h0 rfl
 ·rw[if_neg (by rintro⟨h,_⟩;omega)]at h0;exact h0 rfl
theorem O7 {s:B8} {a q:Int} {x y:Bool} (hw:J1 q s) (hl:s.length<=2000000) {st:St} {K:B8->St->Prop} (hk:K (txt q s) st):
  Ad PR By [.str s,.agg [.int .u8 a,.int .u8 q,.bool x,.bool y]] [.one (.str)] st K:=by
 refine H9 s a q x y st K (Aa (fun g=>?_) fun g=>⟨⟨by omega,?_⟩,Aa (fun g2=>?_) fun g2=>?_⟩)
 ·subst g;simpa [txt]using hk
 ·cases s with
  | nil=>exact absurd rfl g
  | cons b l=>simp
 ·have g2':by_ s 0≠q:=g2
  unfold txt at hk
  rw[if_pos (.inr g2')]at hk;exact hk
 ·have g2':¬by_ s 0≠q:=g2
  rcases hw with h | h | ⟨c,t,hc,h⟩
  ·exact absurd h g
  ·exact absurd h g2'
  rw[h,Nq hc]at hk
  have hlen:s.length=(dbl c t).length+2:=by rw[h];simp
  refine⟨fun out i s1 n1 n2 b1 b2 st1=>s=s1/\q=n2/\st=st1/\∃t1 t2,t=t1++t2/\out=t1/\i=((1+(dbl c t1).length:Nat):Int),fun _ i _ _ _ _ _ _=>(s.length-i).toNat,⟨rfl,rfl,rfl,[],t,rfl,rfl,rfl⟩,?_⟩
  rintro t1 _ _ _ _ _ _ _ ⟨rfl,rfl,rfl,_,t2,rfl,rfl,rfl⟩
  have hd:dbl c (t1++t2)=dbl c t1++dbl c t2:=M8 c t1 t2
  rw[hd,List.length_append]at hlen
  generalize hi:1+(dbl c t1).length=i at*
  have hdrop:s.drop i=dbl c t2++[c]:=by
   rw[h,<-hi,hd,Nat.add_comm,List.drop_succ_cons,List.append_assoc,List.drop_left]
  have ht1:t1.length<=(dbl c t1).length:=by
   clear hdrop hi hlen hd h hk
   induction t1 with
   | nil=>simp
   | cons b t ih=>rw[DX];split<;>simp<;>omega
  rw[Al ((i:Int)+1) (by omega) (by omega),show Int.toNat (i:Int)=i from rfl]
  cases t2 with
  | nil=>
   refine Aa (fun q1=>?_) fun q1=>?_
   ·exfalso
    have h0:(dbl c []).length=0:=rfl
    omega
   ·simpa using hk
  | cons b t2=>
   have hb:s.drop i=b::s.drop (i+1):=by
    have:i<s.length:=by omega
    rw[List.drop_eq_getElem_cons this]
    congr 1
    have h2:s.getD i 0=(s.drop i).getD 0 0:=by rw[L7];rfl
    have h3:s.getD i 0=s[i]:=by rw[List.getD_eq_getElem?_getD,List.getElem?_eq_getElem this];rfl
    rw[<-h3,h2,hdrop,DX]
    split
    ·rename_i hbc;simp[hbc]
    ·simp
   have hget:(s.getD i 0)=b:=by
    have:(s.drop i).getD 0 0=b:=by rw[hb];rfl
    simpa [List.getD_eq_getElem?_getD]using this
   have hsl:List.drop i (List.take (Int.toNat ((i:Int)+1)) s)=[b]:=by
    rw[show Int.toNat ((i:Int)+1)=i+1 by omega,List.drop_take,hb]
    simp
   have hlc:=congrArg List.length (DX c b t2)
   refine Aa (fun q1=>⟨⟨by omega,by omega,by omega⟩,?_,⟨by omega,by omega⟩,Aa (fun q2=>?_) fun q2=>?_⟩) fun q1=>?_
   ·rw[hsl];simp only[List.length_cons,List.length_nil];omega
   ·rw[hget]at q2
    have hbc:b=c:=UInt8.toNat_inj.1 (by omega)
    rw[hsl,Al ((i:Int)+1+1) (by omega) (by omega)]
    rw[if_pos hbc]at hlc
    refine⟨⟨rfl,rfl,rfl,t1++[b],t2,by simp,rfl,?_⟩,by dsimp only;omega⟩
    have h0:(dbl c [b]).length=2:=by rw[hbc];simp[dbl,SX]
    rw[M8,List.length_append];omega
   ·rw[hget]at q2
    have hbc:b≠c:=fun hh=>q2 (by rw[hh];exact hc)
    rw[hsl]
    refine⟨⟨rfl,rfl,rfl,t1++[b],t2,by simp,rfl,?_⟩,by dsimp only;omega⟩
    have h0:(dbl c [b]).length=1:=by simp[dbl,SX,hbc]
    rw[M8,List.length_append];omega
   ·rw[hlc]at hlen
    split at hlen<;>simp at hlen<;>omega
section
def RSD (x:Cx) (hd ty:Bool) (l2 l3 l4:Int) (s:B8) (a q:Int) (h t:Bool) (m0 m1 m2 m3 m4:Int):Prop:=x.s=s/\x.a=a/\x.q=q/\hd=h/\ty=t/\x.dep=m0/\x.nod=m1/\l2=m2/\l3=m3/\l4=m4
theorem RSD.refl (x:Cx) (hd ty:Bool) (l2 l3 l4:Int):RSD x hd ty l2 l3 l4 x.s x.a x.q hd ty x.dep x.nod l2 l3 l4:=⟨rfl,rfl,rfl,rfl,rfl,rfl,rfl,rfl,rfl,rfl⟩
def QW {α:Type} (E:Except (Nat×Int) α) (off err:Int):Prop:=err≠0/\∃o:Nat,off=(o:Int)/\E= .error (o,err)
theorem Lm {dep nod d:Int} {i:Nat} {v:Int} {o:Nat} {c:Int} (h:EQ dep nod d i v= .error (o,c)):c≠0:=by
 unfold EQ at h
 split at h
 ·cases h;decide
 split at h
 ·cases h;decide
 ·cases h
theorem PO {a q:Int} {s:B8} {i o:Nat} {c:Int} (h:Be a q s i= .error (o,c)):c≠0:=by
 unfold Be at h
 split at h<;>split at h<;>cases h<;>decide
theorem strs_ld {v:TV} {L:List B8} (h:Rd 1 v L.length (L.map TV.str)) (st:St) {i:Nat} {t:B8} (ht:L[i]? =some t):Ac st [] (.t (ixT 1 v i)) 0=some (.str t):=
 h.ldx st i 0 (by rw[Nat.mul_one,Nat.add_zero,List.getElem?_map,ht];rfl)
theorem Wc {b:Bool} {H A X:Prop} (t:H->X) (h1:b=true->(H->X)->A) (h2:b=false->H):BIf b A X:=Ar (fun q=>h1 q t) fun q=>t (h2 q)
theorem Xf {a:Int} {s:B8} {i o:Nat} {c:Int} (h:VR a s i= .error (o,c)):c≠0/\by_ s i≠a/\BZ s i= .error (o,c):=by
 unfold VR at h
 split at h
 ·rename_i hc
  split at h
  ·cases h
  ·rename_i e he
   cases h
   refine⟨?_,hc.2,he⟩
   rcases Jo he with h | h<;>rw[h.2]<;>decide
 ·cases h
def Uz:TV->Option Nat
 | .list _ (.own id) _ _=>some id
 | _=>none
def Jh (u v:TV):Prop:=∀id,Uz u=some id->Uz v≠some id
theorem Jh.symm {u v:TV} (h:Jh u v):Jh v u:=fun id h1 h2=>h id h2 h1
theorem Own.tip_lt {b sz:Nat} {st:St} {v:TV} {n:Nat} {xs:List TV} (h:Own b sz st v n xs) {id:Nat} (hi:Uz v=some id):id<st.nt:=by
 rcases h with⟨rfl,_⟩ | ⟨tip,rfl,rfl | ⟨id',rfl,h1,h2,h3⟩⟩
 ·cases hi
 ·cases hi
 ·cases hi;exact h2
theorem Own.keep {b sz:Nat} {st st':St} {v:TV} {n:Nat} {xs:List TV} (h:Own b sz st v n xs) (hn:st.nt<=st'.nt) (hl:∀id,Uz v=some id->st'.live id=st.live id):Own b sz st' v n xs:=by
 rcases h with h | ⟨tip,rfl,rfl | ⟨id,rfl,h1,h2,h3⟩⟩
 ·exact .inl h
 ·exact .inr ⟨_,rfl,.inl rfl⟩
 ·exact .inr ⟨_,rfl,.inr ⟨id,rfl,h1,by omega,by rw[hl id rfl];exact h3⟩⟩
theorem Lo {T sz sz2 bytes:Nat} {st0 st:St} {v u:TV} {n k n2:Nat} {xs ys ys2:List TV} {K:TV->St->Prop} (e:AN st0 st) (h:Own st0.nt sz st v n xs) (hu:Own st0.nt sz2 st u n2 ys2) (ha:Jh v u) (hby:(n+k)*bytes<=140737488355328) (hys:k=0->ys=[])
  (hK:∀v' st',AN st0 st'->st'.box=st.box->Own st0.nt sz st' v' (n+k) (xs++ys)->Own st0.nt sz2 st' u n2 ys2->Jh v' u->K v' st'):AG T sz bytes v k ys st K:=by
 have fr:∀T,Own st0.nt sz2 (st.fresh T) u n2 ys2:=fun T=>hu.ext ((AN.refl st).fresh T)
 have ap:∀m l,Jh (.list sz (.own st.nt) m l) u:=fun m l id h1 h2=>by cases h1;have:=hu.tip_lt h2;omega
 rcases h with⟨rfl,rfl,rfl⟩ | ⟨tip,rfl,ht⟩
 ·simp only[AG]
  cases k with
  | zero=>rw[hys rfl]at hK;exact hK _ _ e rfl (.nil _ _ _) hu ha
  | succ m=>
   simp only[As]
   refine⟨by simpa using hby,hK _ _ (e.fresh _) rfl ?_ (fr _) (ap _ _)⟩
   simp only[List.nil_append,Nat.zero_add]
   exact Own.fresh _ _ e.nt
 ·simp only[AG,Nat.beq_refl]
  refine⟨hby,?_⟩
  rcases ht with rfl | ⟨id,rfl,h1,h2,h3⟩
  ·cases k with
   | zero=>rw[hys rfl]at hK;simp only[List.append_nil]at hK;exact hK _ _ e rfl (Own.full _ _ _ _ _) hu ha
   | succ m=>exact hK _ _ (e.fresh _) rfl (Own.fresh _ _ e.nt) (fr _) (ap _ _)
  ·refine⟨h3,hK _ _ ((e.retire h1).fresh _) rfl (Own.fresh (st:=st.retire id) _ _ e.nt) (hu.keep (Nat.le_succ _) fun id' h'=>?_) (ap _ _)⟩
   have hne:id'≠id:=fun h=>ha id rfl (by rw[<-h];exact h')
   have hlt:=hu.tip_lt h'
   simp only[St.fresh,St.retire]
   rw[if_neg hne]
   exact if_neg (by omega)
section
variable {x:Cx} {hd ty:Bool} {l2 l3 l4:Int} {st:St}
theorem S9 {header num:Bool} {I off v many wid:Int} {i:Nat} {ns:List B8} (hI:I=(i:Int)) (hi:i<=x.s.length) (hl:x.s.length<=2000000) (hv0:0<=v) (hv:v<=100000000)
  (hm:many=if num then wid else 0) (hw:num=true->1<=wid) (hns:header=true->ns=[])
  {K:B8->Int->Int->Bool->Bool->Int->Int->Int->Int->Int->Int->Int->Int->Int->Int->B8->B8->TV->B8->Int->St->Prop}
  (h0:∀(k:Nat) v1 ns1 r w1 off1 kv tl st',G3 x num wid header i v ns= .ok (k,v1,ns1,r,w1)->AN st st'->NdC r [.int .i64 8,.str [],.str [],kv,.str tl]->K x.s x.a x.q hd ty x.dep x.nod l2 l3 l4 k v1 off1 0 8 [] [] kv tl w1 st')
  (h1:∀(o:Nat) e (k v1:Int) r kv tl st',G3 x num wid header i v ns= .error (o,e)->e≠0->AN st st'->NdC r [.int .i64 8,.str [],.str [],kv,.str tl]->K x.s x.a x.q hd ty x.dep x.nod l2 l3 l4 k v1 o e 8 [] [] kv tl 0 st'):
  Ad PR BQ [rst x.s x.a x.q hd ty x.dep x.nod l2 l3 l4 I v off 0,.int .i64 many,.bool header] [rsh,.agg [.int .i64,.str,.str,.tv,.str],.one (.int .i64)] st K:=by
 subst hI
 have tn:∀k:Nat,Int.toNat (k:Int)=k:=fun k=>rfl
 have w1:∀k:Nat,k<=x.s.length+2->i64.wrap ((k:Int)+1)=((k+1:Nat):Int):=fun k hk=>by rw[Al _ (by omega) (by omega)];omega
 generalize hD:G3 x num wid header i v ns=D0 at h0 h1
 rw[HA]at hD
 refine Hk x.s x.a x.q hd ty x.dep x.nod l2 l3 l4 i v off 0 many header st K ⟨fun mn hh nm s a q b1 b2 m0 m1 m2 m3 m4 at_ v' off' err kd le tx kv tl st'=>RSD x hd ty l2 l3 l4 s a q b1 b2 m0 m1 m2 m3 m4/\many=mn/\header=hh/\TV.nilSlice=nm/\8=kd/\[]=le/\[]=tx/\TV.nilSlice=kv/\[]=tl/\st=st'/\(i:Int)=at_/\
   ((err=0/\v<=v'/\v'<=v+1/\Hz x.s num wid (Cd x num wid header (x.s.length+1) [] i v' ns)=D0)∨QW D0 off' err),Ar (fun hh=>?_) (fun hh=>?_),?_⟩
 ·have hh:header=false:=by simpa using hh
  rw[if_neg (by rw[hh];decide)]at hD
  refine LN rfl (by omega) hv0 (fun v' hb=>?_) fun o e hb=>?_
  ·rw[hb]at hD
   have:=QQ hb
   exact⟨RSD.refl ..,rfl,rfl,rfl,rfl,rfl,rfl,rfl,rfl,rfl,rfl,.inl ⟨rfl,by omega,by omega,hD⟩⟩
  ·rw[hb]at hD
   exact⟨RSD.refl ..,rfl,rfl,rfl,rfl,rfl,rfl,rfl,rfl,rfl,rfl,.inr ⟨Lm hb,o,rfl,hD.symm⟩⟩
 ·have hh:header=true:=by simpa using hh
  rw[if_pos hh]at hD
  exact⟨RSD.refl ..,rfl,rfl,rfl,rfl,rfl,rfl,rfl,rfl,rfl,rfl,.inl ⟨rfl,by omega,by omega,hD⟩⟩
 clear hD
 rintro _ _ _ _ _ _ _ _ _ _ _ _ _ _ v1 off1 err1 _ _ _ _ _ _ ⟨⟨rfl,rfl,rfl,rfl,rfl,rfl,rfl,rfl,rfl,rfl⟩,rfl,rfl,rfl,rfl,rfl,rfl,rfl,rfl,rfl,rfl,hS⟩
 refine⟨fun nm k mn hh s a q b1 b2 m0 m1 m2 m3 m4 at_ v' off' err kd le tx kv tl st'=>RSD x hd ty l2 l3 l4 s a q b1 b2 m0 m1 m2 m3 m4/\many=mn/\header=hh/\8=kd/\[]=le/\[]=tx/\[]=tl/\AN st st'/\
   ∃(j n:Nat) (acc:List Nd) (L nsL:List B8) (xs:List TV),at_=(j:Int)/\j<=x.s.length/\k=(acc.length:Int)/\L.length=acc.length/\acc.length<=j/\(num=true->(acc.length:Int)<=wid)/\Own st.nt 1 st' nm L.length (L.map TV.str)/\Own st.nt 5 st' kv acc.length xs/\Jh nm kv/\BA acc xs/\
    ((err=0/\x.s.length<j+n/\0<=v'/\v'<=v+1+j/\(header=true->nsL=L.reverse)/\Hz x.s num wid (Cd x num wid header n acc j v' nsL)=D0)∨QW D0 off' err),
  fun _ _ _ _ _ _ _ _ _ _ _ _ _ _ at_ _ _ _ _ _ _ _ _ _=>(x.s.length-at_).toNat,?_,?_⟩
 ·refine⟨RSD.refl ..,rfl,rfl,rfl,rfl,rfl,rfl,AN.refl _,i,x.s.length+1,[],[],ns,[],rfl,hi,rfl,rfl,by simp,fun hn=>(by have:=hw hn;simp;omega),Own.nil _ _ _,Own.nil _ _ _,(fun _ h=>by cases h),BA.nil,?_⟩
  rcases hS with⟨h,h2,h3,h4⟩ | h
  ·exact .inl ⟨h,by omega,by omega,by omega,fun hh=>by rw[hns hh];rfl,h4⟩
  ·exact .inr h
 rintro nm _ _ _ _ _ _ _ _ _ _ _ _ _ _ v2 off2 err2 _ _ _ kv _ st3 ⟨⟨rfl,rfl,rfl,rfl,rfl,rfl,rfl,rfl,rfl,rfl⟩,rfl,rfl,rfl,rfl,rfl,rfl,e3,j,n,acc,L,nsL,xs,rfl,hj,rfl,hL,hac,hac2,oN,oK,hap,hx,hS2⟩
 have ndc:∀kv st' acc xs,Own st.nt 5 st' kv acc.length xs->BA acc xs->NdC (.mk 8 [] [] acc []) [.int .i64 8,.str [],.str [],kv,.str []]:=fun kv st' acc xs o h=>by unfold NdC;exact⟨kv,xs,rfl,o.rd,h⟩
 refine Aa (fun q0=>?_) fun q0=>?_
 case' refine_2=>
  rcases hS2 with⟨h,_⟩ | ⟨h,o,rfl,hE⟩
  ·exact absurd h q0
  ·exact Ab (Kg oK.rd.one) (h1 _ _ _ _ _ _ _ _ hE h e3 (ndc _ _ _ _ oK hx))
 subst q0
 obtain⟨hjn,hv2,hv3,hnL,hE⟩:x.s.length<j+n/\0<=v2/\v2<=v+1+j/\(header=true->nsL=L.reverse)/\Hz x.s num wid (Cd x num wid header n acc j v2 nsL)=D0:=by
  rcases hS2 with⟨_,h⟩ | ⟨h,_⟩
  ·exact h
  ·exact absurd rfl h
 clear hS2 hS
 cases n with
 | zero=>omega
 | succ n=>
 rw[LM]at hE
 refine SM (H:=¬(num=true/\wid<=(acc.length:Int))) (fun hnw=>?_) (fun q t=>Aa (fun q2=>?_) fun q2=>t ?_) (fun q=>?_)
 ·rw[if_neg hnw]at hE
  generalize hEe:E0 x header j v2 nsL=E at hE
  rw[QA]at hEe
  refine⟨fun mn hh nm' k fr s a q b1 b2 m0 m1 m2 m3 m4 at_ v' off' err kd le tx kv' tl st'=>RSD x hd ty l2 l3 l4 s a q b1 b2 m0 m1 m2 m3 m4/\many=mn/\header=hh/\nm=nm'/\(acc.length:Int)=k/\(j:Int)=fr/\8=kd/\[]=le/\[]=tx/\kv=kv'/\[]=tl/\st3=st'/\(j:Int)=at_/\
    ((err=0/\v2<=v'/\v'<=v2+1/\MU x header j v' nsL=E)∨QW E off' err),Ar (fun hh=>?_) (fun hh=>?_),?_⟩
  ·have hh:header=false:=by simpa using hh
   rw[if_neg (by rw[hh];decide)]at hEe
   refine LN rfl (by omega) hv2 (fun v' hb=>?_) fun o e hb=>?_
   ·rw[hb]at hEe
    have:=QQ hb
    exact⟨RSD.refl ..,rfl,rfl,rfl,rfl,rfl,rfl,rfl,rfl,rfl,rfl,rfl,rfl,.inl ⟨rfl,by omega,by omega,hEe⟩⟩
   ·rw[hb]at hEe
    exact⟨RSD.refl ..,rfl,rfl,rfl,rfl,rfl,rfl,rfl,rfl,rfl,rfl,rfl,rfl,.inr ⟨Lm hb,o,rfl,hEe.symm⟩⟩
  ·have hh:header=true:=by simpa using hh
   rw[if_pos hh]at hEe
   exact⟨RSD.refl ..,rfl,rfl,rfl,rfl,rfl,rfl,rfl,rfl,rfl,rfl,rfl,rfl,.inl ⟨rfl,by omega,by omega,hEe⟩⟩
  clear hEe
  rintro _ _ _ _ _ _ _ _ _ _ _ _ _ _ _ _ v3 off3 err3 _ _ _ _ _ _ ⟨⟨rfl,rfl,rfl,rfl,rfl,rfl,rfl,rfl,rfl,rfl⟩,rfl,rfl,rfl,rfl,rfl,rfl,rfl,rfl,rfl,rfl,rfl,rfl,hS3⟩
  --A7 the cell
  refine WE rfl hj hl (fun kk hc hk1 hk2=>?_) fun o cc kk hc hkk=>?_
  case' refine_1=>
   have hW:=QK hj hc
   have hcl:(slc x.s j kk).length<=x.s.length:=by rw[MZ hk1 hk2];omega
   have hkk:kk<=x.s.length:=hk2
   have hS4:(err3=0/\v2<=v3/\v3<=v2+1/\j<=kk/\slc x.s j kk=slc x.s j kk/\(if (if header then 1024 else 65536)<(txt x.q (slc x.s j kk)).length then .error (j,10)else if header=true/\txt x.q (slc x.s j kk)∈nsL then .error (j,8)else .ok (kk,v3,if header then txt x.q (slc x.s j kk)::nsL else nsL))=E)∨QW E off3 err3:=by
    rcases hS3 with⟨h,h2,h3,h4⟩ | h
    ·refine .inl ⟨h,h2,h3,hk1,rfl,?_⟩
     unfold MU at h4
     rw[hc]at h4
     exact h4
    ·exact .inr h
   generalize off3=off4 at hS4⊢
   generalize err3=err4 at hS4⊢
  case' refine_2=>
   have hW:J1 x.q []:= .inl rfl
   have hcl:([]:B8).length<=x.s.length:=by simp
   have hS4:((if err3=0 then cc else err3)=0/\v2<=v3/\v3<=v2+1/\j<=kk/\slc x.s j kk=[]/\(if (if header then 1024 else 65536)<(txt x.q []).length then .error (j,10)else if header=true/\txt x.q []∈nsL then .error (j,8)else .ok (kk,v3,if header then txt x.q []::nsL else nsL))=E)∨QW E (if err3=0 then(o:Int)else off3) (if err3=0 then cc else err3):=by
    right
    rcases hS3 with⟨h,h2,h3,h4⟩ | ⟨h,o',h2,h3⟩
    ·rw[if_pos h,if_pos h]
     unfold MU at h4
     rw[hc]at h4
     exact⟨PO hc,o,rfl,h4.symm⟩
    ·rw[if_neg h,if_neg h];exact⟨h,o',h2,h3⟩
   generalize (if err3=0 then(o:Int)else off3)=off4 at hS4⊢
   generalize (if err3=0 then cc else err3)=err4 at hS4⊢
  all_goals
   clear hS3
   refine O7 hW (by omega) ?_
   refine⟨fun mn hh nm' k fr c' t' s a q b1 b2 m0 m1 m2 m3 m4 at_ v' off' err kd le tx kv' tl st'=>RSD x hd ty l2 l3 l4 s a q b1 b2 m0 m1 m2 m3 m4/\many=mn/\header=hh/\nm=nm'/\(acc.length:Int)=k/\(j:Int)=fr/\8=kd/\[]=le/\[]=tx/\kv=kv'/\[]=tl/\st3=st'/\
     ∃kk:Nat,at_=(kk:Int)/\kk<=x.s.length/\((err=0/\v2<=v'/\v'<=v2+1/\j<=kk/\slc x.s j kk=c'/\(if header=true/\t'∈nsL then .error (j,8)else .ok (kk,v',if header then t'::nsL else nsL))=E)∨QW E off' err),?_,?_⟩
   ·refine Ar (fun hh=>Aa (fun g=>?_) fun g=>Aa (fun g2=>absurd g2 (by omega)) fun g2=>?_) (fun hh=>Aa (fun g=>?_) fun g=>?_)
    all_goals first
     | (refine Ee (fun h=>⟨RSD.refl ..,rfl,rfl,rfl,rfl,rfl,rfl,rfl,rfl,rfl,rfl,rfl,kk,rfl,hkk,.inr ?_⟩) (fun h=>⟨RSD.refl ..,rfl,rfl,rfl,rfl,rfl,rfl,rfl,rfl,rfl,rfl,rfl,kk,rfl,hkk,.inr ?_⟩)
        ·rcases hS4 with⟨_,_,_,_,_,h6⟩ | h6
         ·rw[if_pos (by rw[hh];simp;omega)]at h6
          exact⟨by decide,j,rfl,h6.symm⟩
         ·exact absurd h h6.1
        ·rcases hS4 with⟨h6,_⟩ | h6
         ·exact absurd h6 h
         ·exact h6)
     | (refine⟨RSD.refl ..,rfl,rfl,rfl,rfl,rfl,rfl,rfl,rfl,rfl,rfl,rfl,kk,rfl,hkk,?_⟩
        rcases hS4 with⟨h6,h7,h8,h9,h10,h11⟩ | h6
        ·rw[if_neg (by rw[hh];simp;omega)]at h11
         exact .inl ⟨h6,h7,h8,h9,h10,h11⟩
        ·exact .inr h6)
   clear hS4 hkk hW hcl
   rintro _ _ _ _ _ cs ts _ _ _ _ _ _ _ _ _ _ _ v4 off5 err5 _ _ _ _ _ _ ⟨⟨rfl,rfl,rfl,rfl,rfl,rfl,rfl,rfl,rfl,rfl⟩,rfl,rfl,rfl,rfl,rfl,rfl,rfl,rfl,rfl,rfl,rfl,k5,rfl,hk5,hS5⟩
   refine⟨fun mm mn hh nm' k fr c' t' s a q b1 b2 m0 m1 m2 m3 m4 at_ v' off' err kd le tx kv' tl st'=>RSD x hd ty l2 l3 l4 s a q b1 b2 m0 m1 m2 m3 m4/\many=mn/\header=hh/\nm=nm'/\(acc.length:Int)=k/\(j:Int)=fr/\8=kd/\[]=le/\[]=tx/\kv=kv'/\[]=tl/\st3=st'/\(k5:Int)=at_/\cs=c'/\ts=t'/\v4=v'/\
     ∃mi:Nat,mm=(mi:Int)/\mi<=L.length/\((err=0/\v2<=v'/\v'<=v2+1/\j<=k5/\slc x.s j k5=c'/\(header=true->ts∉L.take mi)/\(if header=true/\t'∈nsL then .error (j,8)else .ok (k5,v',if header then t'::nsL else nsL))=E)∨QW E off' err),
    fun mm _ _ _ _ _ _ _ _ _ _ _ _ _ _ _ _ _ _ _ _ _ _ _ _ _ _ _=>(L.length-mm).toNat,⟨RSD.refl ..,rfl,rfl,rfl,rfl,rfl,rfl,rfl,rfl,rfl,rfl,rfl,rfl,rfl,rfl,rfl,0,rfl,by omega,?_⟩,?_⟩
   ·rcases hS5 with⟨h6,h7,h8,h9,h10,h11⟩ | h6
    ·exact .inl ⟨h6,h7,h8,h9,h10,by simp,h11⟩
    ·exact .inr h6
   clear hS5
   rintro _ _ _ _ _ _ _ _ _ _ _ _ _ _ _ _ _ _ _ _ off6 err6 _ _ _ _ _ _ ⟨⟨rfl,rfl,rfl,rfl,rfl,rfl,rfl,rfl,rfl,rfl⟩,rfl,rfl,rfl,rfl,rfl,rfl,rfl,rfl,rfl,rfl,rfl,rfl,rfl,rfl,rfl,mi,rfl,hmi,hS6⟩
   refine Wc (H:=(err6=0/\v2<=v4/\v4<=v2+1/\j<=k5/\slc x.s j k5=cs/\.ok (k5,v4,if header then ts::nsL else nsL)=E)∨QW E off6 err6) (fun hS7=>?_) (fun hh t=>?_) (fun hh=>?_)
   ·clear hS6
    refine Lo e3 oN oK hap (by omega) (fun h=>by cases h) fun v6 st15 e15 hbx o15 oK15 hap15=>?_
    have hLl:(L++[ts]).length=acc.length+1:=by simp[hL]
    refine Qg rfl hk5 hl (fun hf=>?_) fun o cc hf=>?_
    ·refine Aa (fun q=>?_) fun q=>?_
     ·rcases hS7 with⟨h,_⟩ | ⟨h,o,rfl,hE7⟩
      ·exact absurd h q
      ·rw[hE7]at hE
       exact Ab (Kg oK.rd.one) (h1 _ _ _ _ _ _ _ _ hE.symm h e15 (ndc _ _ _ _ oK hx))
     rcases hS7 with⟨h6,h7,h8,h9,h10,h11⟩ | h7
     case' inr=>exact absurd h7.1 q
     subst h6
     rw[<-h11]at hE
     simp only at hE
     have hlen:(acc++[FD x j k5]).length=acc.length+1:=by simp
     refine SM (H:=¬(k5<x.s.length/\by_ x.s k5=x.a)) (fun hmk=>?_) (fun q1 t=>⟨⟨by omega,by omega⟩,Aa (fun q2=>?_) fun q2=>t fun h=>q2 h.2⟩) (fun q h=>q (by omega))
     ·rw[if_neg hmk]at hE
      obtain⟨n7,hn7⟩:∃n7,BZ x.s k5= .ok n7:=by
       unfold VR at hf
       by_cases hc:k5<x.s.length/\by_ x.s k5≠x.a
       ·rw[if_pos hc]at hf
        cases hle:BZ x.s k5 with
        | ok n7=>exact⟨n7,rfl⟩
        | error e=>rw[hle]at hf;cases hf
       ·refine⟨0,?_⟩
        unfold BZ
        rw[if_pos]
        apply Decidable.byContradiction
        intro hlt
        exact hmk ⟨by omega,Decidable.byContradiction fun hb=>hc ⟨by omega,hb⟩⟩
      rw[hn7]at hE
      simp only[Hz,hn7]at hE
      rw[hlen]at hE
      have hle:=F4 hk5 hn7
      have hent:FD x j k5=Lf x.s j k5 []:=by unfold FD;rw[if_neg hmk]
      have hcE:NdC (FD x j k5) [.int .i64 5,.str [],.str [],.list 5 .full 1 [.int .i64 2,.str [],.str cs,.nilSlice,.str []],.str []]:=by
       rw[hent];exact NdC.ent1 (by rw[h10];exact .inr ⟨_,rfl⟩)
      refine CV e15 rfl oK15 (by omega) (fun h=>by cases h) fun v9 st19 e19 hbx9 o19=>Ab (RO o19.rd.one) ?_
      have hx9:=hx.append (BA.one hcE)
      have hnd:∀tl,NdC (.mk 8 [] [] (acc++[FD x j k5]) tl) [.int .i64 8,.str [],.str [],v9,.str tl]:=fun tl=>by unfold NdC;exact⟨v9,_,rfl,by rw[hlen];exact o19.rd,hx9⟩
      rw[w1 acc.length (by omega)]
      refine Aa (fun q8=>?_) fun q8=>?_
      ·have hn:num=true:=by cases hb:num with | true=>rfl | false=>rw[hb]at hm;simp at hm;omega
       rw[hn,if_pos rfl]at hm
       rw[hn,if_pos rfl,if_pos (by omega)]at hE
       exact Ee (fun _=>Ab (Kg o19.rd.one) (h1 _ _ _ _ _ _ _ _ hE.symm (by decide) e19 (hnd _))) fun h=>absurd rfl h
      ·have hE2: .ok (k5+n7,v4,if header=true then ts::nsL else nsL,Nd.mk 8 [] [] (acc++[FD x j k5]) (slc x.s k5 (k5+n7)),((acc.length+1:Nat):Int))=D0:=by
        cases hb:num with
        | true=>
         rw[hb,if_pos rfl]at hm
         rw[hb,if_pos rfl,if_neg (by omega)]at hE
         rw[<-hE]
         have hnw':¬wid<=(acc.length:Int):=fun h=>hnw ⟨hb,h⟩
         have:wid=((acc.length+1:Nat):Int):=by omega
         rw[this]
        | false=>
         rw[hb,if_neg (by simp)]at hE
         rw[<-hE]
         rfl
       refine US rfl hk5 hl ?_
       rw[hn7]
       have w2:i64.wrap ((k5:Int)+((n7:Nat):Int))=((k5+n7:Nat):Int):=by rw[Al _ (by omega) (by omega)];omega
       simp only[w2]
       exact⟨⟨by omega,by omega,by omega⟩,Ab (Kg o19.rd.one) (h0 _ _ _ _ _ _ _ _ _ hE2.symm e19 (hnd _))⟩
     ·rw[if_pos ⟨by omega,q2⟩]at hE
      rw[w1 k5 (by omega),w1 acc.length (by omega)]
      have hent:FD x j k5=Lf x.s j k5 [.mk 11 [] [x.s.getD k5 0] [] []]:=by unfold FD;rw[if_pos ⟨by omega,q2⟩]
      refine⟨⟨by omega,by omega,by omega⟩,?_⟩
      rw[tn,tn,show List.drop k5 (List.take (k5+1) x.s)=[x.s.getD k5 0]from UD (by omega)]
      refine CV (AN.refl st15) rfl (Own.full _ _ _ _ _) (by omega) (fun h=>by cases h) fun v7 st17 e17 hbx7 o17=>Ab (RO o17.rd.one) (Ab (Kg o17.rd.one) ?_)
      have hcE:NdC (FD x j k5) [.int .i64 5,.str [],.str [],v7,.str []]:=by
       rw[hent];exact NdC.ent2 (by rw[h10];exact o17.rd)
      refine Lo (e15.trans e17) (oK15.ext e17) (o15.ext e17) hap15.symm (by omega) (fun h=>by cases h) fun v8 st18 e18 hbx8 o18 oN18 hap18=>Ab (RO o18.rd.one) ?_
      refine⟨⟨RSD.refl ..,rfl,rfl,rfl,rfl,rfl,rfl,e18,k5+1,n,acc++[FD x j k5],L++[ts],if header then ts::nsL else nsL,_,rfl,by omega,by rw[hlen],by rw[hlen,hLl],by rw[hlen];omega,fun hn=>?_,by rw[hLl,List.map_append,<-hL];exact oN18,by rw[hlen];exact o18,hap18.symm,hx.append (BA.one hcE),.inl ⟨rfl,by omega,by omega,by omega,fun hh=>?_,hE⟩⟩,by dsimp only;omega⟩
      ·have:¬wid<=(acc.length:Int):=fun h=>hnw ⟨hn,h⟩
       rw[hlen];omega
      ·rw[hh,if_pos rfl,hnL hh];simp
    ·have hce:=Xf hf
     refine Aa (fun q=>?_) fun q=>?_
     ·by_cases h0':err6=0
      ·rw[if_pos h0',if_pos h0']
       rcases hS7 with⟨h6,h7,h8,h9,h10,h11⟩ | h7
       case' inr=>exact absurd h0' h7.1
       rw[<-h11]at hE
       simp only at hE
       rw[if_neg (fun h=>hce.2.1 h.2),hce.2.2]at hE
       exact Ab (Kg oK.rd.one) (h1 _ _ _ _ _ _ _ _ hE.symm hce.1 e15 (ndc _ _ _ _ oK hx))
      ·rw[if_neg h0',if_neg h0']
       rcases hS7 with⟨h,_⟩ | ⟨h,o,rfl,hE7⟩
       ·exact absurd h h0'
       ·rw[hE7]at hE
        exact Ab (Kg oK.rd.one) (h1 _ _ _ _ _ _ _ _ hE.symm h e15 (ndc _ _ _ _ oK hx))
     ·exfalso
      apply q
      by_cases h0':err6=0
      ·rw[if_pos h0'];exact hce.1
      ·rw[if_neg h0'];exact h0'
   ·refine Ab oN.rd.isSl ?_
    rw[oN.rd.lenS,oN.rd.lenZ,tn]
    refine Aa (fun q=>?_) fun q=>t ?_
    ·have hlt:mi<L.length:=by omega
     have hget:=List.getElem?_eq_getElem hlt
     generalize L[mi]=tm at hget
     refine⟨⟨by omega,by omega⟩,Ae (strs_ld oN.rd st3 hget) (AB ?_)⟩
     rw[w1 mi (by omega)]
     refine Aa (fun q2=>?_) fun q2=>?_
     ·subst q2
      refine Ee (fun h=>⟨⟨RSD.refl ..,rfl,rfl,rfl,rfl,rfl,rfl,rfl,rfl,rfl,rfl,rfl,rfl,rfl,rfl,rfl,mi+1,rfl,by omega,.inr ?_⟩,by dsimp only;omega⟩) (fun h=>⟨⟨RSD.refl ..,rfl,rfl,rfl,rfl,rfl,rfl,rfl,rfl,rfl,rfl,rfl,rfl,rfl,rfl,rfl,mi+1,rfl,by omega,.inr ?_⟩,by dsimp only;omega⟩)
      ·rcases hS6 with⟨_,_,_,_,_,_,h6⟩ | h6
       ·rw[if_pos ⟨hh,by rw[hnL hh];simpa using List.mem_of_getElem? hget⟩]at h6
        exact⟨by decide,j,rfl,h6.symm⟩
       ·exact absurd h h6.1
      ·rcases hS6 with⟨h6,_⟩ | h6
       ·exact absurd h6 h
       ·exact h6
     ·refine⟨⟨RSD.refl ..,rfl,rfl,rfl,rfl,rfl,rfl,rfl,rfl,rfl,rfl,rfl,rfl,rfl,rfl,rfl,mi+1,rfl,by omega,?_⟩,by dsimp only;omega⟩
      rcases hS6 with⟨h6,h7,h8,h9,h10,h11,h12⟩ | h6
      ·refine .inl ⟨h6,h7,h8,h9,h10,fun hh=>?_,h12⟩
       rw[List.take_add_one,hget]
       simp only[Option.toList_some,List.mem_append,List.mem_singleton,not_or]
       exact⟨h11 hh,fun h=>q2 h.symm⟩
      ·exact .inr h6
    ·rcases hS6 with⟨h6,h7,h8,h9,h10,h11,h12⟩ | h6
     ·refine .inl ⟨h6,h7,h8,h9,h10,?_⟩
      have:=h11 hh
      rw[List.take_of_length_le (by omega)]at this
      rwa [if_neg (by rintro⟨_,h⟩;rw[hnL hh]at h;simp at h;exact this h)]at h12
     ·exact .inr h6
   ·rcases hS6 with⟨h6,h7,h8,h9,h10,h11,h12⟩ | h6
    ·exact .inl ⟨h6,h7,h8,h9,h10,by rwa [if_neg (by rintro⟨h,_⟩;rw[hh]at h;cases h)]at h12⟩
    ·exact .inr h6
 ·have hn:num=true:=by cases hb:num with | true=>rfl | false=>rw[hb]at hm;simp at hm;omega
  rw[hn,if_pos rfl]at hm
  rw[if_pos ⟨hn,by omega⟩]at hE
  exact Ee (fun _=>Ab (Kg oK.rd.one) (h1 _ _ _ _ _ _ _ _ hE.symm (by decide) e3 (ndc _ _ _ _ oK hx))) fun h=>absurd rfl h
 ·rintro⟨hn,h⟩
  have:=hac2 hn
  rw[hn,if_pos rfl]at hm
  omega
 ·rintro⟨hn,_⟩
  rw[hn,if_pos rfl]at hm
  have:=hw hn;omega
end
end
section
section
variable {x:Cx} {hd ty:Bool} {l2 l3 l4:Int} {st:St}
theorem Vt {K:Int->B8->B8->TV->B8->Int->Int->St->Prop} (hl:x.s.length<=2000000)
  (hk:∀k kv st',AN st st'->NdC (pN (CA x hd l2 l3 l4)) [.int .i64 k,.str [],.str [],kv,.str []]->K k [] [] kv [] (pO (CA x hd l2 l3 l4)) (pE (CA x hd l2 l3 l4)) st'):
  Ad PR Dc [.str x.s,.agg [.int .u8 x.a,.int .u8 x.q,.bool hd,.bool ty],.agg [.int .i64 x.dep,.int .i64 x.nod,.int .i64 l2,.int .i64 l3,.int .i64 l4]] [.agg [.int .i64,.str,.str,.tv,.str],.one (.int .i64),.one (.int .i64)] st K:=by
 generalize hP:CA x hd l2 l3 l4=P at hk
 unfold CA at hP
 have hnil:NdC (.mk 0 [] [] [] []) [.int .i64 0,.str [],.str [],.nilSlice,.str []]:=by unfold NdC;exact⟨_,[],rfl,.inl ⟨rfl,rfl,rfl⟩,BA.nil⟩
 have bad:∀(o:Nat) (e:Int) st',P= .error (o,e)->AN st st'->K 0 [] [] .nilSlice [] o e st':=fun o e st' h he=>by
  have:=hk 0 .nilSlice st' he (by rw[h];exact hnil)
  rwa [h]at this
 refine Ia x.s x.a x.q hd ty x.dep x.nod l2 l3 l4 st K (NG (Ar (fun g=>?_) fun g=>?_))
 ·have g:dOk x.a x.q=false:=by simpa using g
  rw[if_pos g]at hP
  exact bad _ _ st hP.symm (AN.refl _)
 have g:dOk x.a x.q=true:=by simpa using g
 rw[if_neg (by rw[g];decide)]at hP
 refine Hl x.s x.dep x.nod l2 l3 l4 st _ (ND (Ar (fun g=>?_) fun g=>?_))
 ·have g:lOk x.dep x.nod l2 l3 l4=false:=by simpa using g
  rw[if_pos g]at hP
  exact Aa (fun _=>bad 0 _ st hP.symm (AN.refl _)) fun h=>absurd (by decide) h
 have glim:lOk x.dep x.nod l2 l3 l4=true:=by simpa using g
 rw[if_neg (by rw[glim];decide)]at hP
 refine Aa (fun g=>?_) fun g=>?_
 ·rw[if_pos g]at hP
  exact Aa (fun _=>bad 0 _ st hP.symm (AN.refl _)) fun h=>absurd (by decide) h
 rw[if_neg g]at hP
 have hv:=Ng x.s
 refine UJ hl fun st1 e1=>Aa (fun g=>?_) fun g=>?_
 ·rw[if_pos (by omega)]at hP
  exact Aa (fun _=>bad _ _ st1 hP.symm e1) fun h=>absurd (by decide) h
 rw[if_neg (by omega)]at hP
 refine Aa (fun h=>absurd rfl h) fun _=>?_
 have hbeg:EQ x.dep x.nod 1 0 0= .ok 1:=by
  unfold lOk at glim
  have:=of_decide_eq_true glim
  unfold EQ
  rw[if_neg (by omega),if_neg (by omega)];rfl
 refine LN (k:=0) rfl (by decide) (by decide) (fun v' hb=>?_) fun o e hb=>by rw[hbeg]at hb;cases hb
 rw[hbeg]at hb
 cases hb
 refine⟨fun mn s' a' q' h' t' s a q b1 b2 m0 m1 m2 m3 m4 at_ v' off' err kd le tx kv tl st'=>x.s=s'/\x.a=a'/\x.q=q'/\hd=h'/\ty=t'/\RSD x hd ty l2 l3 l4 s a q b1 b2 m0 m1 m2 m3 m4/\1=kd/\[]=le/\[]=tx/\[]=tl/\AN st st'/\
   ∃(acc:List Nd) (xs:List TV),Own st.nt 5 st' kv acc.length xs/\BA acc xs/\acc.length<=x.s.length+1/\
    ((err=0/\∃(j n:Nat) (w:Int) (ns:List B8),at_=(j:Int)/\j<=x.s.length/\x.s.length<j+n/\acc.length<=j/\0<=v'/\v'<=1+3*j/\mn=(if !acc.isEmpty then w else 0)/\((!acc.isEmpty)=true->1<=w)/\(acc=[]->ns=[])/\(match Em x hd n acc j v' ns w with | .error e=> .error e | .ok rs=> .ok (.mk 1 [] [] rs []))=P)∨QW P off' err),
  fun _ _ _ _ _ _ _ _ _ _ _ _ _ _ _ _ at_ _ _ err _ _ _ _ _ _=>if err=0 then(x.s.length-at_).toNat+1 else 0,?_,?_⟩
 ·refine⟨rfl,rfl,rfl,rfl,rfl,RSD.refl ..,rfl,rfl,rfl,rfl,e1,[],[],Own.nil _ _ _,BA.nil,by simp,.inl ⟨rfl,0,x.s.length+1,0,[],rfl,by omega,by omega,by simp,by omega,by omega,rfl,fun h=>(by cases h),fun _=>rfl,hP⟩⟩
 rintro mn _ _ _ _ _ _ _ _ _ _ _ _ _ _ _ at3 v3 off3 err3 _ _ _ kv _ st3 ⟨rfl,rfl,rfl,rfl,rfl,⟨rfl,rfl,rfl,rfl,rfl,rfl,rfl,rfl,rfl,rfl⟩,rfl,rfl,rfl,rfl,e3,acc,xs,o3,hx,hlen,hS⟩
 refine Aa (fun q0=>?_) fun q0=>?_
 case' refine_2=>
  rcases hS with⟨h,_⟩ | ⟨h,o,rfl,hE⟩
  ·exact absurd h q0
  ·exact Aa (fun _=>bad _ _ st3 hE e3) fun h=>absurd q0 h
 subst q0
 rcases hS with⟨_,j,n,w,ns,rfl,hj,hjn,hac,hv0,hv1,hmn,hw,hns,hE⟩ | ⟨h,_⟩
 case' inr=>exact absurd rfl h
 cases n with
 | zero=>omega
 | succ n=>
 rw[PD]at hE
 refine Aa (fun q=>?_) fun q=>?_
 case' refine_2=>
  rw[if_pos (by omega)]at hE
  simp only at hE
  subst hE
  exact Aa (fun h=>absurd rfl h) fun _=>Ab (Kg o3.rd.one) (hk 1 kv st3 e3 (by unfold pN NdC;exact⟨kv,xs,rfl,o3.rd,hx⟩))
 rw[if_neg (by omega)]at hE
 have hN2:(hd=true->decide (((acc.length:Nat):Int)=0)=(hd&&acc.isEmpty)):=fun h=>by
  rw[h]
  cases acc with
  | nil=>rfl
  | cons a l=>exact decide_eq_false (by simp only[List.length_cons];omega)
 refine Ar (fun hh=>Ab o3.rd.isSl ?_) fun hh=>?_
 case' refine_1=>rw[o3.rd.lenS,hN2 hh]
 case' refine_2=>
  have hN3:false=(hd&&acc.isEmpty):=by rw[hh];rfl
  rw[hN3]
 all_goals
  have hnsx:(hd&&acc.isEmpty)=true->ns=[]:=fun h=>hns (by simp only[Bool.and_eq_true]at h;simpa using h.2)
  refine S9 rfl hj hl hv0 (by omega) hmn hw hnsx (fun k v1 ns1 r w1 off1 kv1 tl st4 hr e4 hc4=>?_) fun o e k v1 r kv1 tl st4 hr he e4 hc4=>?_
  ·rw[hr]at hE
   simp only at hE
   have hle:=UH (by omega) hr
   have hone:Aq kv1=true:=by
    obtain⟨a,b,c,d,f⟩:=r
    unfold NdC at hc4
    obtain⟨u,ys,hu,hu2,_⟩:=hc4
    cases hu
    exact hu2.one
   refine Ab (Kg hone) (Ab (Kg hone) ?_)
   refine CV (e3.trans e4) rfl (o3.ext e4) (by omega) (fun h=>by cases h) fun v5 st5 e5 hbx o5=>Ab (RO o5.rd.one) ?_
   have hl1:(acc++[r]).length=acc.length+1:=by simp
   have hne:(!(acc++[r]).isEmpty)=true:=by cases acc<;>rfl
   refine⟨⟨rfl,rfl,rfl,rfl,rfl,RSD.refl ..,rfl,rfl,rfl,rfl,e5,acc++[r],_,by rw[hl1];exact o5,hx.append (BA.one hc4),by omega,.inl ⟨rfl,k,n,w1,ns1,rfl,by omega,by omega,by omega,by omega,by omega,by rw[hne];rfl,fun _=>hle.2.2.2.2,fun h=>(by simp at h),hE⟩⟩,?_⟩
   simp only[if_true]
   omega
  ·rw[hr]at hE
   simp only at hE
   have hone:Aq kv1=true:=by
    obtain⟨a,b,c,d,f⟩:=r
    unfold NdC at hc4
    obtain⟨u,ys,hu,hu2,_⟩:=hc4
    cases hu
    exact hu2.one
   refine Ab (Kg hone) (Ab (Kg hone) ?_)
   refine CV (e3.trans e4) rfl (o3.ext e4) (by omega) (fun h=>by cases h) fun v5 st5 e5 hbx o5=>Ab (RO o5.rd.one) ?_
   have hl1:(acc++[r]).length=acc.length+1:=by simp
   refine⟨⟨rfl,rfl,rfl,rfl,rfl,RSD.refl ..,rfl,rfl,rfl,rfl,e5,acc++[r],_,by rw[hl1];exact o5,hx.append (BA.one hc4),by omega,.inr ⟨he,o,rfl,hE.symm⟩⟩,?_⟩
   simp only[if_true]
   rw[if_neg he];omega
end
end
end Go.TVF
