/- What the laws below rest on: a framework for Go programs, and contracts of the functions that they reach. -/
import Derived.Test.YtpfhcnpnngjpnaaGreatDoorHcC
import Derived.WideShapes
import Derived.Shelf.Strings.Builder2
import Derived.Shelf.Strings.Replace
import Derived.Test.YtpfhcnpnngjpnaaGreatDoorProg
set_option maxRecDepth 20000
set_option linter.unusedVariables false
set_option linter.unusedSimpArgs false
namespace Go.TVF
open Go.IntKind(i64 u8)
open Go Go.Proofs
theorem F1 {α:Type} {K:α->St->Prop} {a b:α} {st:St} (h:a=b) (hk:K b st):K a st:=h▸hk
def rD (l:B8):Nat×Nat:=if ul l=0 then(0,0)else(ur l,ul l)
theorem Rd.ldx {sz:Nat} {v:TV} {n:Nat} {xs:List TV} (h:Rd sz v n xs) (st:St) (i j:Nat) {x:TV} (hx:xs[i*sz+j]? =some x):Ab st [] (.t (ixT sz v i)) j=some x:=by
 obtain⟨hlt,hx⟩:=List.getElem?_eq_some_iff.1 hx
 rw[h.ld st i j hlt,hx]
def hdS (b:Nat):Nat:=if b<128 then 1 else if 192<=b/\b<224 then 2 else if 224<=b/\b<240 then 3 else if 240<=b/\b<248 then 4 else 0
def hdB (b:Nat):Nat:=if b<128 then b else if 192<=b/\b<224 then b%32 else if 224<=b/\b<240 then b%16 else if 240<=b/\b<248 then b%8 else 0
def wid (r:Nat):Nat:=if r<128 then 1 else if r<2048 then 2 else if r<65536 then 3 else 4
theorem GX (a m:Nat) (ha:a<256) (hm:m<=8):B0 .and .u8 (a:Int) ((2^m-1:Nat):Int)=((a%2^m:Nat):Int):=by
 have:2^m<=2^8:=Nat.pow_le_pow_right (by decide) hm
 rw[Ti _ _ ha (by omega),Nat.and_two_pow_sub_one_eq_mod]
theorem head_ok {B:Int} {b:Nat} {st:St} {K:Int->Int->St->Prop} (hB:B=(b:Int)) (hb:b<256) (hk:K (hdS b:Nat) (hdB b:Nat) st):Ae PR GE [.int .u8 B] [.one (.int .i64),.one (.int .i64)] st K:=by
 have m31:B0 .and .u8 B (31:Int)=((b%32:Nat):Int):=by rw[hB];exact GX b 5 hb (by decide)
 have m15:B0 .and .u8 B (15:Int)=((b%16:Nat):Int):=by rw[hB];exact GX b 4 hb (by decide)
 have m7:B0 .and .u8 B (7:Int)=((b%8:Nat):Int):=by rw[hB];exact GX b 3 hb (by decide)
 unfold hdS hdB at hk
 have kk:∀(x y x' y':Int),x=x'->y=y'->K x' y' st->K x y st:=fun x y x' y' h1 h2 hk=>by rw[h1,h2];exact hk
 refine ND B st K ?_
 rw[m31,m15,m7,Ar B (by omega) (by omega),Ar ((b%32:Nat):Int) (by omega) (by omega),Ar ((b%16:Nat):Int) (by omega) (by omega),Ar ((b%8:Nat):Int) (by omega) (by omega)]
 by_cases g1:b<128
 ·rw[if_pos g1,if_pos g1]at hk
  exact Ad (fun _=>kk _ _ _ _ rfl hB hk) fun h=>by omega
 rw[if_neg g1,if_neg g1]at hk
 refine Ad (fun h=>by omega) fun _=>?_
 by_cases g2:192<=b/\b<224
 ·rw[if_pos g2,if_pos g2]at hk
  exact Ad (fun _=>Ad (fun _=>hk) fun h=>by omega) fun h=>by omega
 rw[if_neg g2,if_neg g2]at hk
 by_cases g3:224<=b/\b<240
 ·rw[if_pos g3,if_pos g3]at hk
  refine Ad (fun _=>Ad (fun h=>by omega) fun _=>?_) fun h=>by omega
  exact Ad (fun _=>Ad (fun _=>hk) fun h=>by omega) fun h=>by omega
 rw[if_neg g3,if_neg g3]at hk
 by_cases g4:240<=b/\b<248
 ·rw[if_pos g4,if_pos g4]at hk
  refine Ad (fun _=>Ad (fun h=>by omega) fun _=>?_) fun h=>by omega
  refine Ad (fun _=>Ad (fun h=>by omega) fun _=>?_) fun h=>by omega
  exact Ad (fun _=>Ad (fun _=>hk) fun h=>by omega) fun h=>by omega
 rw[if_neg g4,if_neg g4]at hk
 repeat' first
  | exact hk
  | omega
  | refine Ad (fun _=>?_) fun _=>?_
theorem Q3 {R:Int} {r:Nat} {st:St} {K:Bool->St->Prop} (hR:R=(r:Int)) (hk:K (decide (BN r)) st):Ae PR E6 [.int .i64 R] [.one (.bool)] st K:=by
 unfold BN at hk
 refine Ls R st K (Ad (fun _=>Ad (fun h2=>Ad (fun h3=>?_) fun h3=>?_) fun h2=>?_) fun h1=>by omega)
 ·exact F1 (decide_eq_true (by omega)).symm hk
 ·exact F1 (decide_eq_decide.2 (by omega)) hk
 ·exact F1 (decide_eq_false (by omega)).symm hk
theorem RR {R:Int} {r:Nat} {st:St} {K:Int->St->Prop} (hR:R=(r:Int)) (hk:K (wid r:Nat) st):Ae PR FQ [.int .i64 R] [.one (.int .i64)] st K:=by
 unfold wid at hk
 refine MA R st K (Ad (fun h1=>?_) fun h1=>Ad (fun h2=>?_) fun h2=>Ad (fun h3=>?_) fun h3=>?_)
 ·rw[if_pos (by omega)]at hk;exact hk
 ·rw[if_neg (by omega),if_pos (by omega)]at hk;exact hk
 ·rw[if_neg (by omega),if_neg (by omega),if_pos (by omega)]at hk;exact hk
 ·rw[if_neg (by omega),if_neg (by omega),if_neg (by omega)]at hk;exact hk
def MS (l:B8):Prop:=hdS (bt l 0)≠0/\hdS (bt l 0)<=l.length/\(∀j,1<=j->j<hdS (bt l 0)->bt l j/64=2)/\BN (Cd l (hdB (bt l 0)) (hdS (bt l 0)-1))/\wid (Cd l (hdB (bt l 0)) (hdS (bt l 0)-1))=hdS (bt l 0)
theorem pd_val (l:B8) (h:l≠ []) (hp:MS l):ul l=hdS (bt l 0)/\ur l=Cd l (hdB (bt l 0)) (hdS (bt l 0)-1):=by
 obtain⟨p1,p2,p3,p4,p5⟩:=hp
 have e:=FJ l h
 have h0:=Dk l 0
 have e0:(l.getD 0 0).toNat=bt l 0:=rfl
 have e1:(l.getD 1 0).toNat=bt l 1:=rfl
 have e2:(l.getD 2 0).toNat=bt l 2:=rfl
 have e3:(l.getD 3 0).toNat=bt l 3:=rfl
 have fin:∀n r,rsz (bt l 0)=n->rb0 (bt l 0)=r->n=hdS (bt l 0)->r=hdB (bt l 0)->Fb (Cd l r (n-1))=l.take n->ul l=hdS (bt l 0)/\ur l=Cd l (hdB (bt l 0)) (hdS (bt l 0)-1):=by
  intro n r hn hr hn2 hr2 henc
  unfold MR at e
  simp only[hn,hr]at e
  rw[if_neg (by omega),if_pos ⟨by rw[hr2,hn2];exact p4,henc⟩]at e
  by_cases hz:ul l=0
  ·rw[if_pos hz]at e;simp only[Prod.mk.injEq]at e;omega
  ·rw[if_neg hz]at e;simp only[Prod.mk.injEq]at e
   exact⟨by omega,by rw[<-hr2,<-hn2];exact e.1.symm⟩
 have h1:=Dk l 1
 have h2:=Dk l 2
 have h3:=Dk l 3
 by_cases g1:bt l 0<128
 ·have hs:hdS (bt l 0)=1:=by unfold hdS;rw[if_pos g1]
  have hb:hdB (bt l 0)=bt l 0:=by unfold hdB;rw[if_pos g1]
  refine fin 1 (bt l 0) (by unfold rsz;rw[if_neg (by omega),if_neg (by omega),if_neg (by omega)]) (by unfold rb0;rw[if_neg (by omega),if_neg (by omega),if_neg (by omega)]) hs.symm hb.symm ?_
  rw[HV l (by omega)]
  simp only[Nat.sub_self,Cd]
  unfold Fb
  rw[if_pos g1]
  simp only[Cm,Cf,e0,and_true]
  omega
 by_cases g2:192<=bt l 0/\bt l 0<224
 ·have hs:hdS (bt l 0)=2:=by unfold hdS;rw[if_neg g1,if_pos g2]
  have hb:hdB (bt l 0)=bt l 0%32:=by unfold hdB;rw[if_neg g1,if_pos g2]
  rw[hs]at p3 p5
  rw[hb]at p5
  have q1:=p3 1 (by omega) (by omega)
  refine fin 2 (bt l 0%32) (by unfold rsz;rw[if_neg (by omega),if_neg (by omega),if_pos (by omega)]) (by unfold rb0;rw[if_neg (by omega),if_neg (by omega),if_pos (by omega)]) hs.symm hb.symm ?_
  rw[HU l (by omega)]
  simp only[Nat.reduceSub,Cd,Nat.zero_add]at p5⊢
  generalize bt l 0=b0 at*
  generalize bt l 1=b1 at*
  unfold wid at p5
  unfold Fb
  by_cases k1:b0%32*64+b1%64<128
  ·rw[if_pos k1]at p5;omega
  rw[if_neg k1]at p5⊢
  by_cases k2:b0%32*64+b1%64<2048
  ·rw[if_pos k2]
   simp only[Cm,Cf,e0,e1,and_true]
   omega
  ·rw[if_neg k2]at p5;split at p5<;>omega
 by_cases g3:224<=bt l 0/\bt l 0<240
 ·have hs:hdS (bt l 0)=3:=by unfold hdS;rw[if_neg g1,if_neg g2,if_pos g3]
  have hb:hdB (bt l 0)=bt l 0%16:=by unfold hdB;rw[if_neg g1,if_neg g2,if_pos g3]
  rw[hs]at p3 p5
  rw[hb]at p5
  have q1:=p3 1 (by omega) (by omega)
  have q2:=p3 2 (by omega) (by omega)
  refine fin 3 (bt l 0%16) (by unfold rsz;rw[if_neg (by omega),if_pos (by omega)]) (by unfold rb0;rw[if_neg (by omega),if_pos (by omega)]) hs.symm hb.symm ?_
  rw[FE l (by omega)]
  simp only[Nat.reduceSub,Cd,Nat.zero_add,Nat.reduceAdd]at p5⊢
  generalize bt l 0=b0 at*
  generalize bt l 1=b1 at*
  generalize bt l 2=b2 at*
  generalize hr:(b0%16*64+b1%64)*64+b2%64=r at*
  unfold wid at p5
  unfold Fb
  by_cases k1:r<128
  ·rw[if_pos k1]at p5;omega
  rw[if_neg k1]at p5⊢
  by_cases k2:r<2048
  ·rw[if_pos k2]at p5;omega
  rw[if_neg k2]at p5⊢
  by_cases k3:r<65536
  ·rw[if_pos k3]
   simp only[Cm,Cf,e0,e1,e2,and_true]
   omega
  ·rw[if_neg k3]at p5;omega
 by_cases g4:240<=bt l 0/\bt l 0<248
 ·have hs:hdS (bt l 0)=4:=by unfold hdS;rw[if_neg g1,if_neg g2,if_neg g3,if_pos g4]
  have hb:hdB (bt l 0)=bt l 0%8:=by unfold hdB;rw[if_neg g1,if_neg g2,if_neg g3,if_pos g4]
  rw[hs]at p3 p4 p5
  rw[hb]at p4 p5
  have q1:=p3 1 (by omega) (by omega)
  have q2:=p3 2 (by omega) (by omega)
  have q3:=p3 3 (by omega) (by omega)
  refine fin 4 (bt l 0%8) (by unfold rsz;rw[if_pos (by omega)]) (by unfold rb0;rw[if_pos (by omega)]) hs.symm hb.symm ?_
  rw[ID l (by omega)]
  simp only[Nat.reduceSub,Cd,Nat.zero_add,Nat.reduceAdd]at p4 p5⊢
  generalize bt l 0=b0 at*
  generalize bt l 1=b1 at*
  generalize bt l 2=b2 at*
  generalize bt l 3=b3 at*
  generalize hr:((b0%8*64+b1%64)*64+b2%64)*64+b3%64=r at*
  unfold wid at p5
  unfold Fb
  by_cases k1:r<128
  ·rw[if_pos k1]at p5;omega
  rw[if_neg k1]at p5⊢
  by_cases k2:r<2048
  ·rw[if_pos k2]at p5;omega
  rw[if_neg k2]at p5⊢
  by_cases k3:r<65536
  ·rw[if_pos k3]at p5;omega
  rw[if_neg k3]
  have:=p4.1
  simp only[Cm,Cf,e0,e1,e2,e3,and_true]
  omega
 ·exfalso
  unfold hdS at p1
  rw[if_neg g1,if_neg g2,if_neg g3,if_neg g4]at p1
  exact p1 rfl
theorem pd_iff (l:B8) (h:l≠ []):ul l≠0->MS l:=by
 intro hu
 have e:=FJ l h
 rw[if_neg hu]at e
 have h0:=Dk l 0
 have e0:(l.getD 0 0).toNat=bt l 0:=rfl
 have e1:(l.getD 1 0).toNat=bt l 1:=rfl
 have e2:(l.getD 2 0).toNat=bt l 2:=rfl
 have e3:(l.getD 3 0).toNat=bt l 3:=rfl
 have h1:=Dk l 1
 have h2:=Dk l 2
 have h3:=Dk l 3
 have hc:¬l.length<rsz (bt l 0)/\BN (Cd l (rb0 (bt l 0)) (rsz (bt l 0)-1))/\Fb (Cd l (rb0 (bt l 0)) (rsz (bt l 0)-1))=l.take (rsz (bt l 0)):=by
  unfold MR at e
  simp only at e
  split at e
  ·simp only[Prod.mk.injEq]at e;omega
  ·split at e
   ·rename_i a b;exact⟨a,b⟩
   ·simp only[Prod.mk.injEq]at e;omega
 obtain⟨hl,hch,henc⟩:=hc
 by_cases g4:240<=bt l 0
 ·have r4:rsz (bt l 0)=4:=by unfold rsz;rw[if_pos g4]
  have rb:rb0 (bt l 0)=bt l 0%8:=by unfold rb0;rw[if_pos g4]
  rw[r4,rb]at henc hch
  rw[r4]at hl
  rw[ID l (by omega)]at henc
  unfold MS hdS hdB
  simp only[Nat.reduceSub,Cd,Nat.zero_add,Nat.reduceAdd]at henc hch
  generalize hb0:bt l 0=b0 at*
  generalize hb1:bt l 1=b1 at*
  generalize hb2:bt l 2=b2 at*
  generalize hb3:bt l 3=b3 at*
  have hr0:∃r,r=((b0%8*64+b1%64)*64+b2%64)*64+b3%64:=⟨_,rfl⟩
  obtain⟨r,hr⟩:=hr0
  rw[<-hr]at henc hch
  have hmax:=hch.1
  unfold Fb at henc
  have hw:wid r=4/\b0=240+r/262144/\b1/64=2/\b2/64=2/\b3/64=2:=by
   unfold wid
   split at henc
   ·simp at henc
   ·split at henc
    ·simp at henc
    ·split at henc
     ·simp at henc
     ·simp only[Cm,Cf,e0,e1,e2,e3,and_true]at henc
      refine⟨by rw[if_neg ‹_›,if_neg ‹_›,if_neg ‹_›],by omega,by omega,by omega,by omega⟩
  rw[if_neg (show ¬b0<128 by omega),if_neg (show ¬(192<=b0/\b0<224) by omega),if_neg (show ¬(224<=b0/\b0<240) by omega),if_pos (show 240<=b0/\b0<248 by omega),if_neg (show ¬b0<128 by omega),if_neg (show ¬(192<=b0/\b0<224) by omega),if_neg (show ¬(224<=b0/\b0<240) by omega),if_pos (show 240<=b0/\b0<248 by omega)]
  simp only[Nat.reduceSub,Cd,Nat.zero_add,Nat.reduceAdd,hb1,hb2,hb3]
  rw[<-hr]
  refine⟨by omega,by omega,fun j j1 j2=>?_,hch,hw.1⟩
  have:j=1∨j=2∨j=3:=by omega
  rcases this with rfl | rfl | rfl<;>omega
 by_cases g3:224<=bt l 0
 ·have r4:rsz (bt l 0)=3:=by unfold rsz;rw[if_neg g4,if_pos g3]
  have rb:rb0 (bt l 0)=bt l 0%16:=by unfold rb0;rw[if_neg g4,if_pos g3]
  rw[r4,rb]at henc hch
  rw[r4]at hl
  rw[FE l (by omega)]at henc
  unfold MS hdS hdB
  simp only[Nat.reduceSub,Cd,Nat.zero_add,Nat.reduceAdd]at henc hch
  generalize hb0:bt l 0=b0 at*
  generalize hb1:bt l 1=b1 at*
  generalize hb2:bt l 2=b2 at*
  have hr0:∃r,r=(b0%16*64+b1%64)*64+b2%64:=⟨_,rfl⟩
  obtain⟨r,hr⟩:=hr0
  rw[<-hr]at henc hch
  unfold Fb at henc
  have hw:wid r=3/\b1/64=2/\b2/64=2:=by
   unfold wid
   split at henc
   ·simp at henc
   ·split at henc
    ·simp at henc
    ·split at henc
     ·simp only[Cm,Cf,e0,e1,e2,and_true]at henc
      refine⟨by rw[if_neg ‹_›,if_neg ‹_›,if_pos ‹_›],by omega,by omega⟩
     ·simp at henc
  rw[if_neg (show ¬b0<128 by omega),if_neg (show ¬(192<=b0/\b0<224) by omega),if_pos (show 224<=b0/\b0<240 by omega),if_neg (show ¬b0<128 by omega),if_neg (show ¬(192<=b0/\b0<224) by omega),if_pos (show 224<=b0/\b0<240 by omega)]
  simp only[Nat.reduceSub,Cd,Nat.zero_add,Nat.reduceAdd,hb1,hb2]
  rw[<-hr]
  refine⟨by omega,by omega,fun j j1 j2=>?_,hch,hw.1⟩
  have:j=1∨j=2:=by omega
  rcases this with rfl | rfl<;>omega
 by_cases g2:192<=bt l 0
 ·have r4:rsz (bt l 0)=2:=by unfold rsz;rw[if_neg g4,if_neg g3,if_pos g2]
  have rb:rb0 (bt l 0)=bt l 0%32:=by unfold rb0;rw[if_neg g4,if_neg g3,if_pos g2]
  rw[r4,rb]at henc hch
  rw[r4]at hl
  rw[HU l (by omega)]at henc
  unfold MS hdS hdB
  simp only[Nat.reduceSub,Cd,Nat.zero_add,Nat.reduceAdd]at henc hch
  generalize hb0:bt l 0=b0 at*
  generalize hb1:bt l 1=b1 at*
  have hr0:∃r,r=b0%32*64+b1%64:=⟨_,rfl⟩
  obtain⟨r,hr⟩:=hr0
  rw[<-hr]at henc hch
  unfold Fb at henc
  have hw:wid r=2/\b1/64=2:=by
   unfold wid
   split at henc
   ·simp at henc
   ·split at henc
    ·simp only[Cm,Cf,e0,e1,and_true]at henc
     refine⟨by rw[if_neg ‹_›,if_pos ‹_›],by omega⟩
    ·split at henc<;>simp at henc
  rw[if_neg (show ¬b0<128 by omega),if_pos (show 192<=b0/\b0<224 by omega),if_neg (show ¬b0<128 by omega),if_pos (show 192<=b0/\b0<224 by omega)]
  simp only[Nat.reduceSub,Cd,Nat.zero_add,hb1]
  rw[<-hr]
  refine⟨by omega,by omega,fun j j1 j2=>?_,hch,hw.1⟩
  have:j=1:=by omega
  subst this;omega
 ·have r4:rsz (bt l 0)=1:=by unfold rsz;rw[if_neg g4,if_neg g3,if_neg g2]
  have rb:rb0 (bt l 0)=bt l 0:=by unfold rb0;rw[if_neg g4,if_neg g3,if_neg g2]
  rw[r4,rb]at henc hch
  rw[r4]at hl
  rw[HV l (by omega)]at henc
  unfold MS hdS hdB
  simp only[Nat.sub_self,Cd]at henc hch
  generalize hb0:bt l 0=b0 at*
  have hlt:b0<128:=by
   unfold Fb at henc
   split at henc
   ·assumption
   ·split at henc
    ·simp at henc
    ·split at henc<;>simp at henc
  rw[if_pos hlt,if_pos hlt]
  simp only[Nat.sub_self,Cd]
  refine⟨by omega,by omega,fun j j1 j2=>by omega,hch,by unfold wid;rw[if_pos hlt]⟩
theorem Pc {s:B8} {I:Int} {i:Nat} {st:St} {K:Int->Int->St->Prop} (hI:I=(i:Int)) (hl:s.length<=2000000) (hi:i<=s.length) (hk:K ((rD (s.drop i)).1:Nat) ((rD (s.drop i)).2:Nat) st):
  Ae PR E7 [.str s,.int .i64 I] [.one (.int .i64),.one (.int .i64)] st K:=by
 have no:¬MS (s.drop i)->s.drop i≠ []->K 0 0 st:=fun h hne=>by
  have:ul (s.drop i)=0:=Decidable.byContradiction fun h0=>h (pd_iff _ hne h0)
  unfold rD at hk
  rw[if_pos this]at hk;exact hk
 have yes:MS (s.drop i)->s.drop i≠ []->K (Cd (s.drop i) (hdB (bt (s.drop i) 0)) (hdS (bt (s.drop i) 0)-1):Nat) (hdS (bt (s.drop i) 0):Nat) st:=fun h hne=>by
  have hv:=pd_val _ hne h
  unfold rD at hk
  rw[if_neg (by rw[hv.1];exact h.1),hv.1,hv.2]at hk
  exact hk
 have hlen:(s.drop i).length=s.length-i:=by simp
 have hb:∀j,bt (s.drop i) j=(s.getD (i+j) 0).toNat:=bt_drop s i
 refine Lt s I st K (Ad (fun h=>by omega) fun _=>Ad (fun h=>?_) fun h=>⟨⟨by omega,by omega⟩,?_⟩)
 ·have:s.drop i=[]:=List.drop_of_length_le (by omega)
  have h0:rD (s.drop i)=(0,0):=by rw[this];simp[rD,ul]
  rw[h0]at hk;exact hk
 have hne:s.drop i≠ []:=by
  intro h0
  have:=congrArg List.length h0
  rw[hlen]at this;simp only[List.length_nil]at this;omega
 have hb0:(List.getD s (Int.toNat I) 0).toNat=bt (s.drop i) 0:=by rw[hb,hI];rfl
 have hlt:=Dk (s.drop i) 0
 rw[hb0]
 refine head_ok rfl hlt ?_
 have hsz:hdS (bt (s.drop i) 0)<=4:=by unfold hdS;(repeat' split)<;>omega
 have hbz:hdB (bt (s.drop i) 0)<256:=by unfold hdB;(repeat' split)<;>omega
 unfold MS at no yes
 generalize hdS (bt (s.drop i) 0)=n at*
 generalize hdB (bt (s.drop i) 0)=r0 at*
 rw[Ar _ (by omega) (by omega)]
 refine Ad (fun g=>no (fun hh=>hh.1 (by omega)) hne) fun g1=>Ad (fun g=>no (fun hh=>by omega) hne) fun g2=>?_
 have hra:=Qu (s.drop i) r0 hbz
 refine⟨fun r j s' at' sz st2=>s=s'/\I=at'/\st=st2/\((n:Nat):Int)=sz/\∃k:Nat,j=((k+1:Nat):Int)/\k+1<=n/\r=((Cd (s.drop i) r0 k:Nat):Int)/\∀m,1<=m->m<=k->bt (s.drop i) m/64=2,fun _ j _ _ sz _=>(sz-j).toNat,⟨rfl,rfl,rfl,rfl,0,rfl,by omega,rfl,fun m h1 h2=>by omega⟩,?_⟩
 rintro _ _ _ _ _ _ ⟨rfl,rfl,rfl,rfl,k,rfl,hk1,rfl,hall⟩
 have hrk:=hra k
 have h64:64^k<=64^3:=Nat.pow_le_pow_right (by decide) (by omega)
 refine Ad (fun h2=>?_) fun h2=>?_
 ·rw[Ar (I+((k+1:Nat):Int)) (by omega) (by omega)]
  have hbk:(List.getD s (Int.toNat (I+((k+1:Nat):Int))) 0).toNat=bt (s.drop i) (k+1):=by
   rw[hb,show Int.toNat (I+((k+1:Nat):Int))=i+(k+1) by omega]
  have hbl:=Dk (s.drop i) (k+1)
  have h192:B0 .and .u8 ((bt (s.drop i) (k+1):Nat):Int) (192:Int)=((bt (s.drop i) (k+1)&&&192:Nat):Int):=Ti _ 192 hbl (by decide)
  have hand:i64.wrap (B0 .and .u8 ((bt (s.drop i) (k+1):Nat):Int) (63:Int))=((bt (s.drop i) (k+1)%64:Nat):Int):=by
   rw[show(63:Int)=((2^6-1:Nat):Int) by decide,GX _ 6 hbl (by decide),Ar _ (by omega) (by omega)]
  have hmul:i64.wrap (((Cd (s.drop i) r0 k:Nat):Int)*2^(min (Int.toNat (6:Int)) (IntKind.bits .i64)))=((Cd (s.drop i) r0 k*2^6:Nat):Int):=by
   rw[show(2:Int)^(min (Int.toNat (6:Int)) (IntKind.bits .i64))=64 by decide,Ar _ (by omega) (by omega)];omega
  have hc:(bt (s.drop i) (k+1)&&&192)=128↔bt (s.drop i) (k+1)/64=2:=by
   have:∀x,x<256->((x&&&192)=128↔x/64=2):=by decide+kernel
   exact this _ hbl
  refine⟨⟨by omega,by omega⟩,?_⟩
  rw[hbk,h192,hand,hmul,or_add _ _ 6 (by omega) (by omega),Ar _ (by omega) (by omega)]
  refine Ad (fun h3=>no (fun hh=>h3 ?_) hne) fun h3=>?_
  ·have:=hh.2.2.1 (k+1) (by omega) (by omega)
   rw[hc.2 this];rfl
  ·have h4:bt (s.drop i) (k+1)/64=2:=hc.1 (by omega)
   refine⟨⟨rfl,rfl,rfl,rfl,k+1,by omega,by omega,by simp only[Cd],fun m m1 m2=>?_⟩,by dsimp only;omega⟩
   by_cases hm:m=k+1
   ·rw[hm];exact h4
   ·exact hall m m1 (by omega)
 ·have hks:k=n-1:=by omega
  subst hks
  refine Q3 rfl (AI (fun h3=>no (fun hh=>?_) hne) fun h3=>RR rfl (Ad (fun h4=>no (fun hh=>?_) hne) fun h4=>?_))
  ·simp only[Bool.not_eq_true',decide_eq_false_iff_not]at h3
   exact h3 hh.2.2.2.1
  ·rw[hh.2.2.2.2]at h4;exact h4 rfl
  ·simp only[Bool.not_eq_false',decide_eq_true_eq]at h3
   exact yes ⟨by omega,by omega,fun m m1 m2=>hall m m1 (by omega),h3,by omega⟩ hne
theorem ME {l:B8} {c:UInt8} (hc:c.toNat<128) (hl:l.length<=9223372036854775807) {st:St} {K:B8->St->Prop} (hk:K (Lib.trimRightB l c) st):Ae PR Dy [.str l,.str [c]] [.one .str] st K:=by
 refine DX (fun _ _=>by kernel_rfl) fun g w vargs s hr=>?_
 obtain⟨v,u,rfl,hv,hu⟩:=N5 hr
 rw[Ce hv,Ce hu]
 refine Calls.mono (Tryz.strings_TrimRight_one ⟨l.toArray⟩ c hc w (by simpa [ByteArray.size]using hl)) ?_
 rintro e w' ⟨rfl,rfl⟩
 exact⟨_,rfl,.str _,st,g,hk,s,Rel.str _,Ext.refl _ _⟩
theorem Kh (l:B8):(Lib.trimRightB l 48).length+CI l=l.length:=by
 unfold Lib.trimRightB CI
 have:=congrArg List.length (List.takeWhile_append_dropWhile (p:=fun x:UInt8=>x==48) (l:=l.reverse))
 rw[List.length_append,List.length_reverse]at this
 rw[List.length_reverse];omega
theorem Ig {l:B8} {n:Nat} (h:n<l.length):List.getD l n 0∈l:=by
 rw[List.getD_eq_getElem?_getD,List.getElem?_eq_getElem h,Option.getD_some]
 exact List.getElem_mem h
theorem Tj {P:UInt8->Prop} {l:B8} {n:Nat} (h:n<l.length) (h1:∀c,c∈l.take n->P c) (h2:P (List.getD l n 0)):∀c,c∈l.take (n+1)->P c:=by
 intro c hc
 rw[CR _ _ 0 h]at hc
 rcases List.mem_append.1 hc with hc | hc
 ·exact h1 c hc
 ·rw[List.mem_singleton.1 hc];exact h2
theorem all_ok {l:B8} (hl:l.length<=2000000) {st:St} {K:Bool->St->Prop} (hk:K (decide (∀c,c∈l->BB c)) st):Ae PR E8 [.str l] [.one .bool] st K:=by
 refine Lu l st K ⟨fun i s m st'=>l=s/\(l.length:Int)=m/\st=st'/\∃n:Nat,i=n/\n<=l.length/\∀c,c∈l.take n->BB c,fun i _ _ _=>(l.length-i).toNat,⟨rfl,rfl,rfl,0,rfl,Nat.zero_le _,fun c hc=>by simp at hc⟩,?_⟩
 rintro _ _ _ _ ⟨rfl,rfl,rfl,n,rfl,hn,hall⟩
 refine Ad (fun g=>?_) fun g=>?_
 ·have hm:=Ig (l:=l) (n:=n) (by omega)
  have bad:¬BB (List.getD l n 0)->K false st:=fun hb=>by
   rw[decide_eq_false fun h=>hb (h _ hm)]at hk;exact hk
  rw[Int.toNat_natCast]
  refine⟨⟨by omega,by omega⟩,Ad (fun g2=>bad (by unfold BB;omega)) fun g2=>⟨⟨by omega,by omega⟩,Ad (fun g3=>bad (by unfold BB;omega)) fun g3=>?_⟩⟩
  rw[Ar _ (by omega) (by omega)]
  exact⟨⟨rfl,rfl,rfl,n+1,by omega,by omega,Tj (by omega) hall (by unfold BB;omega)⟩,by dsimp only;omega⟩
 ·have:n=l.length:=by omega
  subst this
  rw[List.take_length]at hall
  rw[decide_eq_true hall]at hk;exact hk
def O5 (l:B8):Prop:=l.length<=600/\(∀c,c∈l->BB c)/\(l≠ []->l.getD 0 0≠48)
instance (l:B8):Decidable (O5 l):=inferInstanceAs (Decidable (_/\_/\(_->_)))
theorem ne48 (c:UInt8):decide ((c.toNat:Int)≠48)=decide (c≠48):=by
 have:((c.toNat:Int)≠48)↔c≠48:=by rw[ne_eq,ne_eq,<-UInt8.toNat_inj];exact not_congr ⟨fun h=>Int.ofNat.inj h,fun h=>by rw[h];rfl⟩
 exact decide_eq_decide.2 this
theorem RE {l:B8} (hl:l.length<=2000000) {st:St} {K:Bool->St->Prop} (hk:K (decide (O5 l)) st):Ae PR DH [.str l] [.one .bool] st K:=by
 have no:¬O5 l->K false st:=fun h=>by rw[decide_eq_false h]at hk;exact hk
 refine JN l st K (Ad (fun g=>all_ok hl (Ad (fun g2=>Ad (fun g3=>?_) fun g3=>⟨⟨by omega,by have:=List.length_pos_iff.2 g3;omega⟩,?_⟩) fun g2=>no fun h=>g2 h.2.1)) fun g=>no fun h=>g (by have:=h.1;omega))
 ·rw[decide_eq_true (show O5 l from⟨by omega,g2,fun h=>absurd g3 h⟩)]at hk;exact hk
 ·rw[ne48]
  refine F1 (decide_eq_decide.2 ?_) hk
  exact⟨fun h=>⟨by omega,g2,fun _=>h⟩,fun h=>h.2.2 g3⟩
theorem KI (k k':B8) (v:TV):∀es:List (B8×TV),Cv k (FG k' v es)=if k=k' then some v else Cv k es
 | []=>by
  simp only[FG,Cv]
  by_cases h:k=k'<;>simp[h]
 | (k1,v1)::es=>by
  simp only[FG]
  by_cases h1:k'=k1
  ·simp only[h1,decide_true,Cv]
   by_cases h:k=k1<;>simp[h]
  ·simp only[h1,decide_false,Cv,KI k k' v es]
   by_cases h:k=k1
   ·simp[h,Ne.symm h1]
   ·simp[h]
theorem szs (s:Sc) (l:List Vl) (f:List Fd):(Vl.mk s l f).sz=1+s.bytes.length+s.text.length+s.dg.length+Da l+Fv f:=by unfold Vl.sz;rfl
theorem szd (k:B8) (v:Vl):(Fd.mk k v).sz=k.length+v.sz:=by unfold Fd.sz;rfl
def AR (s:B8):B8:=s.takeWhile fun c=>decide (BB c)
def EI (n:Nat) (l:B8):Nat:=l.foldl (fun n c=>10*n+(c.toNat-48)) n
def Cc (l:B8):Nat:=EI 0 l
def BG (l:B8):B8:=l.dropWhile (·==48)
def dcN (neg:Bool) (s:B8) (ex:Int):Bool×B8×Int×Int:=
 if s=[]then(false,[],0,0)else if 400<ex+CI s∨ex+CI s< -400∨120<s.length-CI s then(false,[],0,2)else(neg,s.take (s.length-CI s),ex+CI s,0)
def JE:Bool×B8×Int×Int:=(false,[],0,3)
def dcX (neg:Bool) (all:B8) (ex:Int) (less:Bool) (r:B8):Bool×B8×Int×Int:=
 if r=[]∨(AR r).length≠r.length then JE else dcN neg (BG all) (if less then ex-Cc r else ex+Cc r)
def dcE (neg:Bool) (all:B8) (ex:Int) (r:B8):Bool×B8×Int×Int:=
 if r=[]then dcN neg (BG all) ex else if r.getD 0 0=101∨r.getD 0 0=69 then
  (if (r.drop 1).getD 0 0=45 then dcX neg all ex true (r.drop 2)else if (r.drop 1).getD 0 0=43 then dcX neg all ex false (r.drop 2)else dcX neg all ex false (r.drop 1))
 else JE
def dcF (neg:Bool) (a:B8) (r:B8):Bool×B8×Int×Int:=
 if r.getD 0 0=46 then(if AR (r.drop 1)=[]then JE else dcE neg (a++AR (r.drop 1)) (-(AR (r.drop 1)).length) (r.drop (1+(AR (r.drop 1)).length)))
 else dcE neg a 0 r
def dcQ (neg:Bool) (s:B8):Bool×B8×Int×Int:=
 if AR s=[]∨(1<(AR s).length/\s.getD 0 0=48)then JE else dcF neg (AR s) (s.drop (AR s).length)
def dcP (s:B8):Bool×B8×Int×Int:=if s.getD 0 0=45 then dcQ true (s.drop 1)else dcQ false s
theorem K2 (s:B8):∀c,c∈AR s->BB c:=by
 induction s with
 | nil=>intro c h;cases h
 | cons a s ih=>
  intro c h
  unfold AR at h ih
  rw[List.takeWhile_cons]at h
  split at h
  ·rename_i hd
   rcases List.mem_cons.1 h with rfl | h
   ·exact of_decide_eq_true hd
   ·exact ih c h
  ·cases h
theorem GV (s:B8):(AR s).length<=s.length:=(List.takeWhile_sublist _).length_le
theorem Me (s:B8):s=AR s++s.drop (AR s).length:=by
 induction s with
 | nil=>rfl
 | cons a s ih=>
  unfold AR at ih⊢
  rw[List.takeWhile_cons]
  split
  ·rw[List.length_cons,List.drop_succ_cons,List.cons_append,<-ih]
  ·rfl
theorem HB (s:B8):s.take (AR s).length=AR s:=by
 have h:=Me s
 have:s.take (AR s).length=(AR s++s.drop (AR s).length).take (AR s).length:=by rw[<-h]
 rw[this,List.take_left]
theorem O7 (l:B8):CI l<=l.length:=by
 unfold CI
 have:=(List.takeWhile_sublist (l:=l.reverse) (fun x:UInt8=>x==48)).length_le
 rwa [List.length_reverse]at this
theorem Jl {c:UInt8} {l:B8} (h:c≠48):BG (c::l)=c::l:=by
 unfold BG;rw[List.dropWhile_cons,if_neg (by simpa using h)]
theorem Kj (k:Nat) (l:B8):BG (List.replicate k 48++l)=BG l:=by
 induction k with
 | zero=>rfl
 | succ k ih=>rw[List.replicate_succ,List.cons_append];unfold BG at ih⊢;rw[List.dropWhile_cons,if_pos (by simp),ih]
theorem NF (n:Nat) (a b:B8):EI n (a++b)=EI (EI n a) b:=by
 unfold EI;rw[List.foldl_append]
def b0 (s:B8) (k:Nat):UInt8:=s.getD k 0
def dv (s:B8) (k:Nat):Nat:=(b0 s k).toNat-48
def d2 (s:B8) (k:Nat):Nat:=dv s k*10+dv s (k+1)
def dd (s:B8) (k:Nat):Prop:=BB (b0 s k)/\BB (b0 s (k+1))
instance (s:B8) (k:Nat):Decidable (dd s k):=inferInstanceAs (Decidable (_/\_))
def Jz (s:B8):Prop:=dd s 0/\b0 s 2=58/\dd s 3/\b0 s 5=58/\dd s 6
instance (s:B8):Decidable (Jz s):=inferInstanceAs (Decidable (_/\_/\_/\_/\_))
def De (s:B8):Prop:=dd s 0/\dd s 2/\b0 s 4=45/\dd s 5/\b0 s 7=45/\dd s 8
instance (s:B8):Decidable (De s):=inferInstanceAs (Decidable (_/\_/\_/\_/\_/\_))
def SL (f:B8):Nat:=Cc (f++List.replicate (9-f.length) 48)
def Ip (s:B8):Option (Nat×Nat×Nat×Nat×B8):=
 if Jz s then
  (if b0 s 8=46 then(if AR (s.drop 9)=[]∨9<(AR (s.drop 9)).length then none else some (d2 s 0,d2 s 3,d2 s 6,SL (AR (s.drop 9)),s.drop (9+(AR (s.drop 9)).length)))
  else some (d2 s 0,d2 s 3,d2 s 6,0,s.drop 8))
 else none
def MU (s:B8):Option (Bool×Nat×Nat):=
 if s=[90]∨s=[122]then some (false,0,0)else if s.length=6/\(b0 s 0=43∨b0 s 0=45)/\dd s 1/\b0 s 3=58/\dd s 4 then some (decide (b0 s 0=45),d2 s 1,d2 s 4)else none
def okD (y m d:Nat):Prop:=1<=y/\y<=9999/\1<=m/\m<=12/\1<=d/\d<=Ol y m
instance (y m d:Nat):Decidable (okD y m d):=inferInstanceAs (Decidable (_/\_/\_/\_/\_/\_))
def JX (y m d:Nat):Nat:=yrS y+Ok y m+(d-1)
abbrev TmR:=Int×Int×Int×Int×Int
def F3:TmR:=(0,0,0,0,3)
def F2:TmR:=(0,0,0,0,2)
def okC (h m s:Nat):Prop:=h<=23/\m<=59/\s<=59
instance (h m s:Nat):Decidable (okC h m s):=inferInstanceAs (Decidable (_/\_/\_))
def Ft (h m s f:Nat):Nat:=((h*60+m)*60+s)*1000000000+f
def tmO (y mo d h m s f:Nat) (r:B8):TmR:=
 if r=[]then(if okD y mo d/\okC h m s then(3,(JX y mo d:Nat),(Ft h m s f:Nat),0,0)else F2)
 else match MU r with
  | none=>F3
  | some (ls,oh,om)=>if okD y mo d/\okC h m s/\oh<=23/\om<=59 then(4,(JX y mo d:Nat),(Ft h m s f:Nat),if ls then-((oh*60+om:Nat):Int)else((oh*60+om:Nat):Int),0)else F2
def tmD (y mo d:Nat) (r:B8):TmR:=
 if r=[]then(if okD y mo d then(1,(JX y mo d:Nat),0,0,0)else F2)
 else if b0 r 0=84∨b0 r 0=116∨b0 r 0=32 then
  match Ip (r.drop 1)with
  | none=>F3
  | some (h,m,s,f,r')=>tmO y mo d h m s f r'
 else F3
def tmP (s:B8):TmR:=
 if De s then tmD (d2 s 0*100+d2 s 2) (d2 s 5) (d2 s 8) (s.drop 10)
 else match Ip s with
  | none=>F3
  | some (h,m,sc,f,r)=>if r=[]then(if okC h m sc then(2,0,(Ft h m sc f:Nat),0,0)else F2)else F3
theorem HS:∀(l:B8) (a:Nat),EI a l=a*10^l.length+EI 0 l
 | [],a=>by simp[EI]
 | c::l,a=>by
  have h1:=HS l (10*a+(c.toNat-48))
  have h2:=HS l (10*0+(c.toNat-48))
  show EI (10*a+(c.toNat-48)) l=_+EI (10*0+(c.toNat-48)) l
  rw[h1,h2,List.length_cons,Nat.pow_succ,Nat.add_mul,Nat.add_mul]
  have:10*a*10^l.length=a*(10^l.length*10):=by rw[Nat.mul_comm 10 a,Nat.mul_assoc,Nat.mul_comm 10]
  omega
theorem Qy (y m:Nat):Ol y m<=31:=by
 have ite:∀{p:Prop} [Decidable p] {a b:Nat},a<=31->b<=31->(if p then a else b)<=31:=fun h1 h2=>by split<;>assumption
 unfold Ol
 exact ite (ite (by omega) (by omega)) (ite (by omega) (by omega))
theorem HR:∀(l:B8),(∀c,c∈l->BB c)->Cc l<10^l.length
 | [],_=>by decide
 | c::l,h=>by
  have ih:=HR l fun x hx=>h x (.tail _ hx)
  have hc:=(h c (.head _)).2
  unfold Cc at ih⊢
  rw[show EI 0 (c::l)=EI (c.toNat-48) l by simp[EI],HS,List.length_cons,Nat.pow_succ]
  have:(c.toNat-48)*10^l.length<=9*10^l.length:=Nat.mul_le_mul_right _ (by omega)
  omega
theorem valN_ge {c:UInt8} {l:B8} (hc:BB c) (h0:c≠48):10^l.length<=Cc (c::l):=by
 unfold Cc
 rw[show EI 0 (c::l)=EI (c.toNat-48) l by simp[EI],HS]
 have h1:=hc.1
 have h2:c.toNat≠48:=fun e=>h0 (UInt8.toNat_inj.1 (by simpa using e))
 have:1*10^l.length<=(c.toNat-48)*10^l.length:=Nat.mul_le_mul_right _ (by omega)
 omega
theorem FD:∀l:B8,Cc (BG l)=Cc l
 | []=>rfl
 | c::l=>by
  by_cases h:c=48
  ·subst h
   have:=Kj 1 l
   rw[show List.replicate 1 (48:UInt8)++l=48::l from rfl]at this
   rw[this,FD l]
   unfold Cc
   rw[show EI 0 (48::l)=EI 0 l by simp[EI]]
  ·rw[Jl h]
theorem Hp (l:B8):∀c,c∈BG l->c∈l:=fun c h=>(List.dropWhile_sublist (l:=l) (fun x:UInt8=>x==48)).subset h
theorem FF (l:B8):(BG l).length<=l.length:=(List.dropWhile_sublist (l:=l) (fun x:UInt8=>x==48)).length_le
theorem Jk (l:B8):(BG l).getD 0 0≠48:=by
 induction l with
 | nil=>decide
 | cons c l ih=>
  by_cases h:c=48
  ·subst h
   have:=Kj 1 l
   rw[show List.replicate 1 (48:UInt8)++l=48::l from rfl]at this
   rw[this];exact ih
  ·rw[Jl h];exact h
theorem RU {l:B8} {k:Nat} (h:∀c,c∈l->BB c) (hk:k<(BG l).length):10^k<=Cc l:=by
 rw[<-FD l]
 have h0:=Jk l
 have hs:=Hp l
 generalize BG l=m at*
 cases m with
 | nil=>exact absurd hk (Nat.not_lt_zero _)
 | cons c m=>
  have:=valN_ge (l:=m) (h c (hs c (.head _))) h0
  rw[List.length_cons]at hk
  exact Nat.le_trans (Nat.pow_le_pow_right (by decide) (by omega)) this
theorem QW {l:B8} {k:Nat} (h:∀c,c∈l->BB c) (hk:(BG l).length<=k):Cc l<10^k:=by
 rw[<-FD l]
 exact Nat.lt_of_lt_of_le (HR _ fun c hc=>h c (Hp l c hc)) (Nat.pow_le_pow_right (by decide) hk)
theorem dcN_far {neg:Bool} {s:B8} {ex n m:Int} (hl:s.length<=100000000) (h1: -100000000<=ex) (h2:ex<=100000000) (hn:1000000000<=n) (hm:1000000000<=m) (less:Bool):
  dcN neg s (if less then ex-n else ex+n)=dcN neg s (if less then ex-m else ex+m):=by
 unfold dcN
 have hz:=O7 s
 by_cases h:s=[]
 ·rw[if_pos h,if_pos h]
 ·rw[if_neg h,if_neg h]
  cases less with
  | true=>
   simp only[if_true]
   rw[if_pos (by omega),if_pos (by omega)]
  | false=>
   simp only[Bool.false_eq_true,if_false]
   rw[if_pos (by omega),if_pos (by omega)]
theorem QM (neg:Bool) (s:B8) (ex:Int):(dcN neg s ex).2.1.length<=s.length:=by
 unfold dcN
 split
 ·simp
 split
 ·simp
 ·show(s.take _).length<=_
  rw[List.length_take];omega
theorem Ni (neg:Bool) (all:B8) (ex:Int) (less:Bool) (r:B8):(dcX neg all ex less r).2.1.length<=all.length:=by
 unfold dcX
 split
 ·simp[JE]
 ·exact Nat.le_trans (QM _ _ _) (FF all)
theorem QN (neg:Bool) (all:B8) (ex:Int) (r:B8):(dcE neg all ex r).2.1.length<=all.length:=by
 unfold dcE
 split
 ·exact Nat.le_trans (QM _ _ _) (FF all)
 split
 ·split
  ·exact Ni _ _ _ _ _
  split
  ·exact Ni _ _ _ _ _
  ·exact Ni _ _ _ _ _
 ·simp[JE]
theorem dcF_len (neg:Bool) (a r:B8):(dcF neg a r).2.1.length<=a.length+r.length:=by
 unfold dcF
 split
 ·split
  ·simp[JE]
  ·refine Nat.le_trans (QN _ _ _ _) ?_
   rw[List.length_append]
   have:=GV (r.drop 1)
   rw[List.length_drop]at this
   omega
 ·exact Nat.le_trans (QN _ _ _ _) (Nat.le_add_right _ _)
theorem QL (neg:Bool) (s:B8):(dcQ neg s).2.1.length<=s.length:=by
 unfold dcQ
 split
 ·simp[JE]
 ·refine Nat.le_trans (dcF_len _ _ _) ?_
  have:=GV s
  rw[List.length_drop];omega
theorem dcP_len (s:B8):(dcP s).2.1.length<=s.length:=by
 unfold dcP
 split
 ·refine Nat.le_trans (QL _ _) ?_
  rw[List.length_drop];omega
 ·exact QL _ _
theorem Ji {l:B8} {c:UInt8} (hc:c.toNat<128) {st:St} {K:B8->St->Prop} (hk:K (l.dropWhile (·==c)) st):Ae PR Cw [.str l,.str [c]] [.one .str] st K:=by
 refine DX (fun _ _=>by kernel_rfl) fun g w vargs s hr=>?_
 obtain⟨v,u,rfl,hv,hu⟩:=N5 hr
 rw[Ce hv,Ce hu]
 refine Calls.mono (Tryz.strings_TrimLeft_one ⟨l.toArray⟩ c hc w) ?_
 rintro e w' ⟨rfl,rfl⟩
 exact⟨_,rfl,.str _,st,g,hk,s,Rel.str _,Ext.refl _ _⟩
theorem M7 {s p:B8} {st:St} {K:Bool->St->Prop} (hk:K (decide (s.take p.length=p)) st):Ae PR AW [.str s,.str p] [.one (.bool)] st K:=by
 refine Gl s p st K (EW s p st _ (Ad (fun h=>⟨⟨by omega,h⟩,?_⟩) fun h=>?_))
 ·exact hk
 ·have:¬s.take p.length=p:=fun h0=>by
   have:=congrArg List.length h0
   rw[List.length_take]at this
   omega
  rw[decide_eq_false this]at hk
  exact hk
theorem u8i {c k:UInt8}:((c.toNat:Int)=(k.toNat:Int))↔c=k:=⟨fun h=>UInt8.toNat_inj.1 (by omega),fun h=>by rw[h]⟩
theorem take1 {s:B8} {c:UInt8} (hc:c≠0):s.take [c].length=[c]↔s.getD 0 0=c:=by
 cases s with
 | nil=>exact⟨fun h=>absurd h (by simp),fun h=>absurd (show(0:UInt8)=c from h).symm hc⟩
 | cons a s=>show [a]=[c]↔a=c;simp
theorem GS {s:B8} {c:UInt8} (hc:c≠0) {st:St} {K:Bool->St->Prop} (hk:K (decide (s.getD 0 0=c)) st):Ae PR AW [.str s,.str [c]] [.one (.bool)] st K:=
 M7 (by rw[decide_eq_decide.2 (take1 hc)];exact hk)
theorem K3:∀(s:B8) (k:Nat),k<=s.length->(∀j,j<k->BB (s.getD j 0))->(k=s.length∨¬BB (s.getD k 0))->(AR s).length=k
 | [],k,h,_,_=>by
  have:k=0:=by simpa using h
  subst this;rfl
 | a::s,0,_,_,h=>by
  have h2:¬BB a:=by
   rcases h with h | h
   ·simp at h
   ·exact h
  unfold AR
  rw[List.takeWhile_cons_of_neg (by simpa using h2)];rfl
 | a::s,k+1,h1,h2,h3=>by
  have ha:BB a:=h2 0 (by omega)
  have ih:=K3 s k (by simpa using h1) (fun j hj=>h2 (j+1) (by omega)) (by
   rcases h3 with h3 | h3
   ·exact .inl (by simpa using h3)
   ·exact .inr h3)
  unfold AR at ih⊢
  rw[List.takeWhile_cons_of_pos (by simpa using ha),List.length_cons,ih]
theorem Pn {s:B8} (hl:s.length<=1000000000) {st:St} {K:Int->St->Prop} (hk:K ((AR s).length:Nat) st):Ae PR Ck [.str s] [.one (.int .i64)] st K:=by
 refine Kf s st K ⟨fun n s' st'=>s=s'/\st=st'/\∃k:Nat,n=k/\k<=s.length/\∀j,j<k->BB (s.getD j 0),fun n _ _=>(s.length-n).toNat,⟨rfl,rfl,0,rfl,Nat.zero_le _,fun j h=>absurd h (Nat.not_lt_zero _)⟩,?_⟩
 rintro _ _ _ ⟨rfl,rfl,k,rfl,hk1,hd⟩
 rw[Int.toNat_natCast]
 have fin:(k=s.length∨¬BB (s.getD k 0))->K ((k:Nat):Int) st:=fun h=>by rw[K3 s k hk1 hd h]at hk;exact hk
 refine Ad (fun g=>⟨⟨by omega,g⟩,Ad (fun g1=>⟨⟨by omega,g⟩,Ad (fun g2=>?_) fun g2=>fin (.inr fun h=>g2 (by have:=h.2;omega))⟩) fun g1=>fin (.inr fun h=>g1 (by have:=h.1;omega))⟩) fun g=>fin (.inl (by omega))
 rw[Ar _ (by omega) (by omega)]
 refine⟨⟨rfl,rfl,k+1,by omega,by omega,fun j hj=>?_⟩,by dsimp only;omega⟩
 by_cases hjk:j=k
 ·subst hjk;exact⟨by omega,by omega⟩
 ·exact hd j (by omega)
theorem Iz {l:B8} {k:Nat} (h:k<l.length):Cc (l.take (k+1))=10*Cc (l.take k)+((List.getD l k 0).toNat-48):=by
 rw[List.take_succ_eq_append_getElem h]
 unfold Cc
 rw[NF]
 have:l[k]=List.getD l k 0:=by simp[List.getD,h]
 rw[<-this];rfl
theorem MD {l:B8} (hd:∀c,c∈l->BB c) (h:l.length<=18) (k:Nat) (hk:k<l.length):Cc (l.take k)<100000000000000000:=by
 have h1:=HR (l.take k) fun c hc=>hd c (List.mem_of_mem_take hc)
 rw[List.length_take,Nat.min_eq_left (by omega)]at h1
 have:(10:Nat)^k<=10^17:=Nat.pow_le_pow_right (by decide) (by omega)
 omega
theorem RW {l:B8} (hl:l.length<=18) (hd:∀c,c∈l->BB c) (h0:l.getD 0 0≠48) {st:St} {K:Int->Int->St->Prop} (hk:K (Cc l:Nat) 0 st):Ae PR DI [.str l] [.one (.int .i64),.one (.int .i64)] st K:=by
 refine JO l st K (RE (by omega) ?_)
 have hno:decide (O5 l)=true:=decide_eq_true ⟨by omega,hd,fun _=>h0⟩
 rw[hno]
 refine AI (fun h=>by cases h) fun _=>?_
 refine⟨fun n i l' m st'=>l=l'/\st=st'/\(l.length:Int)=m/\∃k:Nat,i=k/\k<=l.length/\n=(Cc (l.take k):Nat),fun _ i _ _ _=>(l.length-i).toNat,⟨rfl,rfl,rfl,0,rfl,Nat.zero_le _,rfl⟩,?_⟩
 rintro _ _ _ _ _ ⟨rfl,rfl,rfl,k,rfl,hkl,rfl⟩
 rw[Int.toNat_natCast]
 refine Ad (fun g=>⟨⟨by omega,g⟩,?_⟩) fun g=>?_
 ·have hk':k<l.length:=by omega
  have hv:=MD hd hl k hk'
  have hs:=Iz hk'
  have hc:=hd _ (Ig hk')
  obtain⟨c1,c2⟩:=hc
  rw[My _ (by omega) (by omega),Ar (((List.getD l k 0).toNat:Int)-48) (by omega) (by omega),Ar (9223372036854775807-_) (by omega) (by omega),Int.tdiv_eq_ediv_of_nonneg (by omega),Ar _ (by omega) (by omega)]
  refine Ad (fun g2=>by omega) fun g2=>?_
  rw[Ar (((Cc (l.take k):Nat):Int)*10) (by omega) (by omega),Ar _ (by omega) (by omega),Ar _ (by omega) (by omega)]
  exact⟨⟨rfl,rfl,rfl,k+1,by omega,by omega,by rw[hs];omega⟩,by dsimp only;omega⟩
 ·have:k=l.length:=by omega
  subst this
  rw[List.take_length];exact hk
theorem Sq {ex:Int} {less:Bool} {l:B8} (h1: -100000000<=ex) (h2:ex<=100000000) (hd:∀c,c∈l->BB c) (h0:l.getD 0 0≠48) {st:St} {K:Int->St->Prop}
  (hk:K (if less then ex-((if l.length<=12 then Cc l else 1099511627776:Nat):Int)else ex+((if l.length<=12 then Cc l else 1099511627776:Nat):Int)) st):Ae PR Dr [.int .i64 ex,.bool less,.str l] [.one (.int .i64)] st K:=by
 refine Iw ex less l st K (Ad (fun g=>?_) fun g=>?_)
 ·have g':l.length<=12:=by omega
  rw[if_pos g']at hk
  have hv:=HR l hd
  have:(10:Nat)^l.length<=10^12:=Nat.pow_le_pow_right (by decide) g'
  refine RW (by omega) hd h0 (AI (fun e=>?_) fun e=>?_)
  ·rw[Ar _ (by omega) (by omega)];rw[if_pos e]at hk;exact hk
  ·rw[Ar _ (by omega) (by omega)];rw[e]at hk;exact hk
 ·rw[if_neg (show ¬l.length<=12 by omega)]at hk
  refine AI (fun e=>?_) fun e=>?_
  ·rw[Ar _ (by omega) (by omega)];rw[if_pos e]at hk;exact hk
  ·rw[Ar _ (by omega) (by omega)];rw[e]at hk;exact hk
abbrev KD (K:Bool->B8->Int->Int->St->Prop) (r:Bool×B8×Int×Int) (st:St):Prop:=K r.1 r.2.1 r.2.2.1 r.2.2.2 st
theorem norm_ok {neg:Bool} {s:B8} {ex:Int} (hl:s.length<=2000000) (h1: -3000000000000<=ex) (h2:ex<=3000000000000) {st:St} {K:Bool->B8->Int->Int->St->Prop} (hk:KD K (dcN neg s ex) st):
  Ae PR DK [.bool neg,.str s,.int .i64 ex] [.agg [.bool,.str,.int .i64],.one (.int .i64)] st K:=by
 unfold KD dcN at hk
 refine JQ neg s ex st K (Ad (fun g=>by rw[if_pos g]at hk;exact hk) fun g=>ME (by decide) (by omega) ?_)
 rw[if_neg g]at hk
 have ht:=Kh s
 have e1:i64.wrap ((s.length:Int)-((Lib.trimRightB s 48).length:Int))=(CI s:Nat):=by rw[Ar _ (by omega) (by omega)];omega
 rw[e1]
 have e2:i64.wrap ((s.length:Int)-(CI s:Nat))=((s.length-CI s:Nat):Int):=by rw[Ar _ (by omega) (by omega)];omega
 rw[e2,Int.toNat_natCast,Ar (400-_) (by omega) (by omega),Ar (-400-_) (by omega) (by omega),Ar (ex+_) (by omega) (by omega)]
 have hlen:(s.take (s.length-CI s)).length=s.length-CI s:=by rw[List.length_take];omega
 rw[hlen]
 refine⟨⟨by omega,by omega⟩,Ad (fun g1=>?_) fun g1=>Ad (fun g2=>?_) fun g2=>Ad (fun g3=>?_) fun g3=>?_⟩
 ·rw[if_pos (by omega)]at hk;exact hk
 ·rw[if_pos (by omega)]at hk;exact hk
 ·rw[if_pos (by omega)]at hk;exact hk
 ·rw[if_neg (by omega)]at hk;exact hk
theorem M0 {neg:Bool} {s:B8} {ex:Int} (hl:s.length<=2000000) (hd:∀c,c∈s->BB c) (h1: -3000000000000<=ex) (h2:ex<=3000000000000) {st:St} {K:Bool->B8->Int->Int->St->Prop} (hk:KD K (dcN neg (BG s) ex) st):
  Ae PR BZ [.bool neg,.str s,.int .i64 ex] [.agg [.bool,.str,.int .i64],.one (.int .i64)] st K:=by
 refine JR neg s ex st K ⟨fun i neg' s' ex' n _ _ _ st'=>neg=neg'/\s=s'/\ex=ex'/\(s.length:Int)=n/\st=st'/\0<=i,fun i _ _ _ _ _ _ _ _=>(s.length-i).toNat,⟨rfl,rfl,rfl,rfl,rfl,by omega⟩,?_⟩
 rintro i _ _ _ _ _ _ _ _ ⟨rfl,rfl,rfl,rfl,rfl,hi⟩
 refine Ad (fun g=>?_) fun g=>?_
 ·have hc:=hd _ (Ig (show i.toNat<s.length by omega))
  obtain⟨c1,c2⟩:=hc
  refine⟨⟨hi,g⟩,Ad (fun g1=>by omega) fun _=>⟨⟨hi,g⟩,Ad (fun g1=>by omega) fun _=>?_⟩⟩
  rw[Ar _ (by omega) (by omega)]
  exact⟨⟨rfl,rfl,rfl,rfl,rfl,by omega⟩,by dsimp only;omega⟩
 ·refine Ji (by decide) (norm_ok (Nat.le_trans (FF s) hl) h1 h2 hk)
theorem dP_ok {s:B8} (hl:s.length<=1000000) {st:St} {K:Bool->B8->Int->Int->St->Prop} (hk:KD K (dcP s) st):Ae PR BP [.str s] [.agg [.bool,.str,.int .i64],.one (.int .i64)] st K:=by
 refine Ix s st K (GS (by decide) ?_)
 refine⟨fun s1 neg _ _ _ st'=>st=st'/\dcP s=dcQ neg s1/\s1.length<=s.length,Ad (fun g=>?_) fun g=>?_,?_⟩
 ·refine⟨⟨by omega,?_⟩,rfl,?_,?_⟩
  ·cases s with
   | nil=>exact absurd g (by decide)
   | cons a s=>rw[List.length_cons];omega
  ·unfold dcP;rw[if_pos g,decide_eq_true g];rfl
  ·rw[List.length_drop];omega
 ·refine⟨rfl,?_,Nat.le_refl _⟩
  unfold dcP;rw[if_neg g,decide_eq_false g]
 rintro s1 neg _ _ _ _ ⟨rfl,h1,hl1⟩
 rw[h1]at hk
 refine Pn (by omega) ?_
 have hrl:=GV s1
 refine⟨fun s2 neg2 n _ _ _ st'=>s1=s2/\neg=neg2/\n=((AR s1).length:Nat)/\st=st'/\dcQ neg s1=dcF neg (AR s1) (s1.drop (AR s1).length),Ad (fun g=>?_) fun g=>Ad (fun g2=>?_) fun g2=>?_,?_⟩
 ·have:AR s1=[]:=List.length_eq_zero_iff.1 (by omega)
  unfold KD dcQ at hk
  rw[if_pos (.inl this)]at hk;exact hk
 ·refine⟨⟨by omega,by omega⟩,Ad (fun g3=>?_) fun g3=>⟨rfl,rfl,rfl,rfl,?_⟩⟩
  ·have:s1.getD 0 0=48:=u8i.1 g3
   unfold KD dcQ at hk
   rw[if_pos (.inr ⟨by omega,this⟩)]at hk;exact hk
  ·unfold dcQ
   rw[if_neg]
   rintro(h | ⟨_,h⟩)
   ·exact g (by rw[h];rfl)
   ·exact g3 (by show((s1.getD 0 0).toNat:Int)=48;rw[h];rfl)
 ·refine⟨rfl,rfl,rfl,rfl,?_⟩
  unfold dcQ
  rw[if_neg]
  rintro(h | ⟨h,_⟩)
  ·exact g (by rw[h];rfl)
  ·omega
 rintro _ _ _ _ _ _ _ ⟨rfl,rfl,rfl,rfl,h2⟩
 rw[h2]at hk
 rw[Int.toNat_natCast,HB]
 refine⟨⟨by omega,by omega⟩,⟨by omega,by omega⟩,?_⟩
 have hdg:=K2 s1
 generalize hr:s1.drop (AR s1).length=r at*
 generalize ha:AR s1=a at*
 have hrl2:a.length+r.length<=1000000:=by
  have:r.length=s1.length-a.length:=by rw[<-hr,List.length_drop]
  omega
 clear hr ha h1 h2
 refine⟨fun s3 all ex neg3 _ _ _ st'=>neg=neg3/\st=st'/\dcF neg a r=dcE neg all ex s3/\ -1000000<=ex/\ex<=0/\all.length<=1000000/\s3.length<=1000000/\∀c,c∈all->BB c,GS (by decide) (Ad (fun g=>?_) fun g=>?_),?_⟩
 ·have hr1:1<=r.length:=by
   cases r with
   | nil=>exact absurd g (by decide)
   | cons c r=>rw[List.length_cons];omega
  refine⟨⟨by omega,by omega⟩,Pn (by show(r.drop 1).length<=_;rw[List.length_drop];omega) ?_⟩
  rw[show Int.toNat (1:Int)=1 from rfl]
  have hd1:=GV (r.drop 1)
  have hd2:=K2 (r.drop 1)
  have hd3:=HB (r.drop 1)
  rw[List.length_drop]at hd1
  generalize hf:AR (r.drop 1)=f at*
  refine Ad (fun g2=>?_) fun g2=>?_
  ·have:f=[]:=List.length_eq_zero_iff.1 (by omega)
   unfold KD dcF at hk
   rw[if_pos g,hf,if_pos this]at hk;exact hk
  ·rw[Ar (((f.length:Nat):Int)+1) (by omega) (by omega),Ar (0-_) (by omega) (by omega),show((((f.length:Nat):Int)+1).toNat)=1+f.length by omega]
   have hdt:(r.take (1+f.length)).drop 1=f:=by rw[List.drop_take,Nat.add_sub_cancel_left];exact hd3
   refine⟨⟨by omega,by omega,by omega⟩,?_⟩
   show(a.length+((r.take (1+f.length)).drop 1).length<=_)/\_
   rw[hdt]
   refine⟨by omega,⟨by omega,by omega⟩,rfl,rfl,?_,by omega,by omega,by rw[List.length_append];omega,by rw[List.length_drop];omega,fun c hc=>?_⟩
   ·unfold dcF
    rw[if_pos g,hf,if_neg (fun e=>g2 (by rw[e];rfl))]
    rw[show(0:Int)-(f.length:Nat)= -(f.length:Nat) by omega]
   ·rcases List.mem_append.1 hc with hc | hc
    ·exact hdg c hc
    ·exact hd2 c hc
 ·refine⟨rfl,rfl,?_,by omega,by omega,by omega,by omega,hdg⟩
  unfold dcF;rw[if_neg g]
 rintro s3 all ex _ _ _ _ _ ⟨rfl,rfl,h3,x1,x2,x3,x4,x5⟩
 rw[h3]at hk
 clear h3 hdg hrl2
 refine Ad (fun g=>?_) fun g=>?_
 ·have hpos:1<=s3.length:=List.length_pos_iff.2 g
  refine⟨fun s4 neg4 all4 ex4 _ _ _ st'=>s3=s4/\neg=neg4/\all=all4/\ex=ex4/\st=st'/\(s3.getD 0 0=101∨s3.getD 0 0=69),?_,?_⟩
  ·have n101:((s3.getD 0 0).toNat:Int)≠101↔s3.getD 0 0≠101:=not_congr (u8i (k:=101))
   have n69:((s3.getD 0 0).toNat:Int)≠69↔s3.getD 0 0≠69:=not_congr (u8i (k:=69))
   refine⟨⟨by omega,by omega⟩,Ad (fun g1=>⟨⟨by omega,by omega⟩,Ad (fun g2=>?_) fun g2=>⟨rfl,rfl,rfl,rfl,rfl,.inr (Decidable.not_not.1 fun h=>g2 (n69.2 h))⟩⟩) fun g1=>⟨rfl,rfl,rfl,rfl,rfl,.inl (Decidable.not_not.1 fun h=>g1 (n101.2 h))⟩⟩
   unfold KD dcE at hk
   rw[if_neg g,if_neg (by rintro(h | h);exact n101.1 g1 h;exact n69.1 g2 h)]at hk
   exact hk
  rintro _ _ _ _ _ _ _ _ ⟨rfl,rfl,rfl,rfl,rfl,he⟩
  unfold KD dcE at hk
  rw[if_neg g,if_pos he]at hk
  refine⟨⟨by omega,by omega⟩,GS (by decide) ?_⟩
  show ∃_,_
  refine⟨fun s5 neg5 all5 ex5 less _ _ _ st'=>neg=neg5/\all=all5/\ex=ex5/\st=st'/\s5.length<=1000000/\KD K (dcX neg all ex less s5) st,Ad (fun g1=>?_) fun g1=>GS (by decide) (Ad (fun g2=>?_) fun g2=>?_),?_⟩
  ·have g1':(s3.drop 1).getD 0 0=45:=g1
   rw[if_pos g1']at hk
   refine⟨⟨by omega,?_⟩,rfl,rfl,rfl,rfl,?_,?_⟩
   ·have:1<=(s3.drop 1).length:=by
     cases hc:s3.drop 1 with
     | nil=>rw[hc]at g1';exact absurd g1' (by decide)
     | cons c r=>rw[List.length_cons];omega
    exact Int.ofNat_le.2 this
   ·show((s3.drop 1).drop 1).length<=_;rw[List.length_drop,List.length_drop];omega
   ·rw[decide_eq_true g1]
    show KD K (dcX neg all ex true ((s3.drop 1).drop 1)) st
    rw[List.drop_drop];exact hk
  ·have g1':¬(s3.drop 1).getD 0 0=45:=g1
   have g2':(s3.drop 1).getD 0 0=43:=g2
   rw[if_neg g1',if_pos g2']at hk
   refine⟨⟨by omega,?_⟩,rfl,rfl,rfl,rfl,?_,?_⟩
   ·have:1<=(s3.drop 1).length:=by
     cases hc:s3.drop 1 with
     | nil=>rw[hc]at g2';exact absurd g2' (by decide)
     | cons c r=>rw[List.length_cons];omega
    exact Int.ofNat_le.2 this
   ·show((s3.drop 1).drop 1).length<=_;rw[List.length_drop,List.length_drop];omega
   ·rw[decide_eq_false g1]
    show KD K (dcX neg all ex false ((s3.drop 1).drop 1)) st
    rw[List.drop_drop];exact hk
  ·have g1':¬(s3.drop 1).getD 0 0=45:=g1
   have g2':¬(s3.drop 1).getD 0 0=43:=g2
   rw[if_neg g1',if_neg g2']at hk
   refine⟨rfl,rfl,rfl,rfl,?_,?_⟩
   ·show(s3.drop 1).length<=_;rw[List.length_drop];omega
   ·rw[decide_eq_false g1];exact hk
  rintro s5 _ _ _ less _ _ _ _ ⟨rfl,rfl,rfl,rfl,hl5,hk5⟩
  unfold KD dcX at hk5
  refine Ad (fun g1=>by rw[if_pos (.inl g1)]at hk5;exact hk5) fun g1=>Pn (by omega) (Ad (fun g2=>?_) fun g2=>?_)
  ·rw[if_pos (.inr (by omega))]at hk5;exact hk5
  ·have hall:AR s5=s5:=by
    have:=Me s5
    have h0:s5.drop (AR s5).length=[]:=List.drop_of_length_le (by omega)
    rw[h0,List.append_nil]at this
    exact this.symm
   have hd5:∀c,c∈s5->BB c:=by rw[<-hall];exact K2 s5
   rw[if_neg (by rintro(h | h);exact g1 h;exact h (by rw[hall]))]at hk5
   refine Ji (by decide) (Sq (by omega) (by omega) (fun c hc=>hd5 c (Hp s5 c hc)) (Jk s5) ?_)
   show Ae PR BZ [.bool neg,.str all,.int .i64 (if less=true then ex-((if (BG s5).length<=12 then Cc (BG s5)else 1099511627776:Nat):Int)else ex+((if (BG s5).length<=12 then Cc (BG s5)else 1099511627776:Nat):Int))] _ _ _
   rw[FD]
   have sm:=FF all
   by_cases h12:(BG s5).length<=12
   ·have hn:=QW hd5 h12
    rw[if_pos h12]
    refine M0 (by omega) x5 ?_ ?_ hk5
    ·split<;>omega
    ·split<;>omega
   ·have hf:=RU (k:=12) hd5 (by omega)
    rw[if_neg h12]
    refine M0 (by omega) x5 ?_ ?_ ?_
    ·split<;>omega
    ·split<;>omega
    ·have:=dcN_far (neg:=neg) (s:=BG all) (ex:=ex) (n:=((1099511627776:Nat):Int)) (m:=(Cc s5:Nat)) (by omega) (by omega) (by omega) (by omega) (by omega) less
     unfold KD
     rw[this];exact hk5
 ·have g0:s3=[]:=Decidable.not_not.1 g
  unfold KD dcE at hk
  rw[if_pos g0]at hk
  exact M0 (by omega) x5 (by omega) (by omega) hk
def zs (n:Nat):B8:=List.replicate n 48
theorem box_put (st:St) (b:Nat) (o:It):(st.put b o).box b=o:=by simp[St.put]
def monX (y m:Nat):Nat:=if 1<=y/\y<=9999/\1<=m/\m<=12 then Ol y m else 0
theorem MY {y m:Nat} (h1:1<=y) (h2:y<=9999) (h3:1<=m) (h4:m<=12):monX y m=Ol y m:=if_pos ⟨h1,h2,h3,h4⟩
theorem JH {y:Nat} {st:St} {K:Bool->St->Prop} (hk:K (decide (1<=y/\y<=9999)) st):Ae PR B9 [.int .i64 (y:Int)] [.one .bool] st K:=by
 refine HO _ st K (Ad (fun g=>?_) fun g=>?_)
 ·exact F1 (decide_eq_decide.2 ⟨fun h=>by omega,fun h=>by omega⟩) hk
 ·rw[decide_eq_false (by omega)]at hk;exact hk
theorem P9 {y:Nat} (h1:1<=y) (h2:y<=9999) {st:St} {K:Bool->St->Prop} (hk:K (decide (QA y)) st):Ae PR Ds [.int .i64 (y:Int)] [.one .bool] st K:=by
 refine Iy _ st K (JH ?_)
 rw[decide_eq_true ⟨h1,h2⟩,Int.tmod_eq_emod_of_nonneg (by omega),Int.tmod_eq_emod_of_nonneg (by omega),Int.tmod_eq_emod_of_nonneg (by omega)]
 unfold QA at hk
 refine Ad (p:=True) (fun _=>Ad (fun g=>Ad (fun g2=>?_) fun g2=>?_) fun g=>?_) (fun h=>absurd trivial h)
 ·exact F1 (decide_eq_true (show y%4=0/\(y%100≠0∨y%400=0)from⟨by omega,.inl (by omega)⟩) |>.symm) hk
 ·exact F1 (decide_eq_decide.2 ⟨fun h=>⟨by omega,.inr (by omega)⟩,fun h=>by omega⟩) hk
 ·exact F1 (decide_eq_false (show ¬(y%4=0/\(y%100≠0∨y%400=0))from fun h=>by omega) |>.symm) hk
theorem days_ix:∀k:Nat,k<12->k≠1->(([.int .i64 31,.int .i64 28,.int .i64 31,.int .i64 30,.int .i64 31,.int .i64 30,.int .i64 31,.int .i64 31,.int .i64 30,.int .i64 31,.int .i64 30,.int .i64 31]:List TV)[(0+k*1)+0]?)=some (.int .i64 (if k+1=4∨k+1=6∨k+1=9∨k+1=11 then 30 else 31))
 | 0,_,_=>rfl
 | 1,_,h=>absurd rfl h
 | 2,_,_=>rfl
 | 3,_,_=>rfl
 | 4,_,_=>rfl
 | 5,_,_=>rfl
 | 6,_,_=>rfl
 | 7,_,_=>rfl
 | 8,_,_=>rfl
 | 9,_,_=>rfl
 | 10,_,_=>rfl
 | 11,_,_=>rfl
 | k+12,h,_=>by omega
theorem JI {y m:Nat} (hm:m<=1000000) {st:St} {K:Int->St->Prop} (hk:K (monX y m:Nat) st):Ae PR Ca [.int .i64 (y:Int),.int .i64 (m:Int)] [.one (.int .i64)] st K:=by
 unfold monX at hk
 refine HQ _ _ st K (JH ?_)
 by_cases hy:1<=y/\y<=9999
 ·rw[decide_eq_true hy]
  refine Ad (p:=False) (fun h=>h.elim) fun _=>Ad (fun g=>?_) fun g=>Ad (fun g2=>?_) fun g2=>?_
  ·rw[if_neg (by omega)]at hk;exact hk
  ·rw[if_neg (by omega)]at hk;exact hk
  ·rw[if_pos (by omega)]at hk
   unfold Ol at hk
   rw[Ar _ (by omega) (by omega)]
   refine Ad (fun g3=>P9 hy.1 hy.2 (Ad (fun g4=>?_) fun g4=>?_)) fun g3=>⟨⟨by omega,by omega⟩,?_⟩
   ·rw[if_pos (by omega),if_pos g4]at hk;exact hk
   ·rw[if_pos (by omega),if_neg g4]at hk
    refine⟨⟨by omega,by omega⟩,?_⟩
    have:m=2:=by omega
    subst this
    exact Ag (x:= .int .i64 28) rfl (Ak hk)
   ·rw[if_neg (by omega)]at hk
    obtain⟨k,rfl⟩:∃k,m=k+1:=⟨m-1,by omega⟩
    rw[show(((k+1:Nat):Int)-1)=(k:Int) by omega,Int.toNat_natCast]
    refine Ag (days_ix k (by omega) (by omega)) (Ak ?_)
    split
    ·rename_i h;rw[if_pos h]at hk;exact hk
    ·rename_i h;rw[if_neg h]at hk;exact hk
 ·rw[decide_eq_false hy]
  refine Ad (p:=True) (fun _=>?_) fun h=>absurd trivial h
  rw[if_neg (fun h=>hy ⟨h.1,h.2.1⟩)]at hk;exact hk
theorem OW {y:Nat} (h1:1<=y) (h2:y<=1000000) {st:St} {K:Int->St->Prop} (hk:K (yrS y:Nat) st):Ae PR CZ [.int .i64 (y:Int)] [.one (.int .i64)] st K:=by
 refine HP _ st K ?_
 obtain⟨k,rfl⟩:∃k,y=k+1:=⟨y-1,by omega⟩
 unfold yrS at hk
 rw[Nat.add_sub_cancel]at hk
 rw[show(((k+1:Nat):Int)-1)=(k:Int) by omega,Ar (k:Int) (by omega) (by omega),Int.tdiv_eq_ediv_of_nonneg (by omega),Int.tdiv_eq_ediv_of_nonneg (by omega),Int.tdiv_eq_ediv_of_nonneg (by omega)]
 rw[Ar (365*(k:Int)) (by omega) (by omega),Ar ((k:Int)/4) (by omega) (by omega),Ar ((k:Int)/100) (by omega) (by omega),Ar ((k:Int)/400) (by omega) (by omega),Ar (365*(k:Int)+(k:Int)/4) (by omega) (by omega),Ar (365*(k:Int)+(k:Int)/4-(k:Int)/100) (by omega) (by omega),Ar _ (by omega) (by omega)]
 have e:(((365*k+k/4-k/100+k/400:Nat):Nat):Int)=365*(k:Int)+(k:Int)/4-(k:Int)/100+(k:Int)/400:=by omega
 rw[e]at hk;exact hk
theorem Qx (y:Nat):∀m,Ok y m<=31*m
 | 0=>Nat.le_refl _
 | 1=>Nat.zero_le _
 | m+2=>by
  have:=Qx y (m+1)
  have:=Qy y (m+1)
  simp only[Ok];omega
def TR (r:Nat) (st:St):Option B8->Prop
 | some s=>r<st.nb/\st.box r= .cells [.str s,.bool false]/\s.length<=1000000
 | none=>r<st.nb/\∃s,st.box r= .cells [.str s,.bool true]/\s.length<=1000000
theorem TR.get {r:Nat} {st:St} {S:Option B8} (h:TR r st S):r<st.nb/\∃s,st.box r= .cells [.str s,.bool S.isNone]/\s.length<=1000000/\(∀x,S=some x->s=x):=by
 cases S with
 | none=>obtain⟨h1,s,h2,h3⟩:=h;exact⟨h1,s,h2,h3,fun x hx=>by cases hx⟩
 | some s=>obtain⟨h1,h2,h3⟩:=h;exact⟨h1,s,h2,h3,fun x hx=>by cases hx;rfl⟩
def TM (r f:Nat) (st:St) (S:Option B8) (l:List TV):Prop:=TR r st S/\f<st.nb/\st.box f= .cells l/\r≠f
theorem Ho {r:Nat} {st:St} {s:B8} {b:Bool} (h:st.box r= .cells [.str s,.bool b]) (hr:r<st.nb) (hl:s.length<=1000000) {K:St->Prop} (hk:∀st',StX (·=r) st st'->TR r st' none->K st'):
  stB st (.box r 1) [.bool true] K:=
 ⟨_,h,by simp,hk _ (StX.put (S:=(·=r)) rfl _) ⟨hr,s,by simp[St.put,setAll],hl⟩⟩
theorem IA {r:Nat} {st:St} {s t:B8} {S:Option B8} (h:TR r st S) (ht:t.length<=1000000) {K:St->Prop} (hk:∀st',StX (·=r) st st'->TR r st' (S.map fun _=>t)->K st'):
  stB st (.box r 0) [.str t] K:=by
 obtain⟨hr,s,hb,hl,_⟩:=h.get
 refine⟨_,hb,by simp,hk _ (StX.put (S:=(·=r)) rfl _) ?_⟩
 cases S with
 | none=>exact⟨hr,t,by simp[St.put,setAll],ht⟩
 | some x=>exact⟨hr,by simp[St.put,setAll],ht⟩
def Ib (w:Nat) (s:B8):Prop:=w<=s.length/\∀i,i<w->BB (s.getD i 0)
instance (w:Nat) (s:B8):Decidable (Ib w s):=inferInstanceAs (Decidable (_/\_))
def G1 (w:Nat) (S:Option B8) (n:Nat) (T:Option B8):Prop:=match S with
 | none=>T=none
 | some s=>if Ib w s then T=some (s.drop w)/\n=Cc (s.take w)else T=none
theorem LH {l:B8} {w:Nat} (hw:w<=l.length) (h:∀i,i<w->BB (l.getD i 0)):Cc (l.take w)<10^w:=by
 have h1:=HR (l.take w) fun c hc=>by
  obtain⟨i,hi⟩:=List.getElem?_of_mem hc
  have hl:=(List.getElem?_eq_some_iff.1 hi).1
  rw[List.length_take]at hl
  rw[List.getElem?_take,if_pos (by omega)]at hi
  have:=h i (by omega)
  rwa [List.getD,hi]at this
 rwa [List.length_take,Nat.min_eq_left hw]at h1
theorem EM {r:Nat} {w:Nat} (hw:w<=9) {st:St} {S:Option B8} (h:TR r st S) {K:Int->St->Prop} (hk:∀(n:Nat) st' T,n<10^w->StX (·=r) st st'->TR r st' T->G1 w S n T->K (n:Nat) st'):
  Ae PR Au [.box r 0,.int .i64 (w:Nat)] [.one (.int .i64)] st K:=by
 obtain⟨hr,s,hb,hl,hx⟩:=h.get
 have hs:Ab st [] (.t (.box r 0)) 0=some (.str s):=by simp[Ab,hb]
 have p10:0<10^w:=Nat.pow_pos (by decide)
 have p18:10^w<=10^9:=Nat.pow_le_pow_right (by decide) hw
 have bad:¬Ib w s->∀st',StX (·=r) st st'->TR r st' none->K ((0:Nat):Int) st':=fun hn st' e h'=>hk 0 st' none p10 e h' (by
  cases S with
  | none=>rfl
  | some x=>rw[<-hx x rfl];show(if Ib w s then _ else _);rw[if_neg hn])
 refine Fn r _ st K (Ag hs (AG (Ad (fun g=>Ho hb hr hl (bad fun h=>by have:=h.1;omega)) fun g=>?_)))
 refine⟨fun n i p w' m st'=> .box r 0=p/\((w:Nat):Int)=w'/\((w:Nat):Int)=m/\st=st'/\∃k:Nat,i=k/\k<=w/\n=(Cc (s.take k):Nat)/\∀j,j<k->BB (s.getD j 0),fun _ i _ _ _ _=>(w-i).toNat,⟨rfl,rfl,rfl,rfl,0,rfl,Nat.zero_le _,rfl,fun j h=>absurd h (Nat.not_lt_zero _)⟩,?_⟩
 rintro _ _ _ _ _ _ ⟨rfl,rfl,rfl,rfl,k,rfl,hkw,rfl,hd⟩
 rw[Int.toNat_natCast]
 have hv:=LH (l:=s) (w:=k) (by omega) hd
 have p1:10^k<=10^9:=Nat.pow_le_pow_right (by decide) (by omega)
 refine Ad (fun g1=>Ac rfl (Ac rfl (Ag hs (AG ⟨⟨by omega,by omega⟩,Ad (fun g2=>?_) fun g2=>Ac rfl (Ac rfl (Ag hs (AG ⟨⟨by omega,by omega⟩,Ad (fun g3=>?_) fun g3=>?_⟩)))⟩)))) fun g1=>?_
 ·exact Ac rfl (Ac rfl (Ho hb hr hl (bad fun h=>by have:=(h.2 k (by omega)).1;omega)))
 ·exact Ac rfl (Ac rfl (Ho hb hr hl (bad fun h=>by have:=(h.2 k (by omega)).2;omega)))
 ·refine Ac rfl (Ac rfl (Ag hs (AG ⟨⟨by omega,by omega⟩,?_⟩)))
  have hsn:=Iz (l:=s) (k:=k) (by omega)
  rw[My _ (by omega) (by omega),Ar (10*_) (by omega) (by omega),Ar (((s.getD k 0).toNat:Int)-48) (by omega) (by omega),Ar (_+_) (by omega) (by omega),Ar _ (by omega) (by omega)]
  refine⟨⟨rfl,rfl,rfl,rfl,k+1,by omega,by omega,by rw[hsn];omega,fun j hj=>?_⟩,by dsimp only;omega⟩
  by_cases hjk:j=k
  ·subst hjk;exact⟨by omega,by omega⟩
  ·exact hd j (by omega)
 ·have hkk:k=w:=by omega
  subst hkk
  refine Ac rfl (Ac rfl (Ag hs (AG ⟨⟨by omega,by omega⟩,Ac rfl (Ac rfl (IA (s:=s) h (by rw[List.length_drop];omega) fun st' e h'=>hk _ st' _ hv e h' ?_))⟩)))
  cases S with
  | none=>rfl
  | some x=>
   obtain rfl:=hx x rfl
   show(if Ib k s then _ else _)
   rw[if_pos ⟨by omega,hd⟩]
   exact⟨rfl,rfl⟩
def JZ (of:B8) (S:Option B8) (c:Nat) (T:Option B8):Prop:=match S with
 | none=>T=none
 | some s=>if s.getD 0 0∈of then T=some (s.drop 1)/\c=(s.getD 0 0).toNat else T=none
theorem EL {r:Nat} {of:B8} (hof:(0:UInt8)∉of) (hlo:of.length<=100) {st:St} {S:Option B8} (h:TR r st S) {K:Int->St->Prop} (hk:∀(n:Nat) st' T,n<256->StX (·=r) st st'->TR r st' T->JZ of S n T->K (n:Nat) st'):
  Ae PR AE [.box r 0,.str of] [.one (.int .u8)] st K:=by
 obtain⟨hr,s,hb,hl,hx⟩:=h.get
 have hs:Ab st [] (.t (.box r 0)) 0=some (.str s):=by simp[Ab,hb]
 have bad:s.getD 0 0∉of->∀st',StX (·=r) st st'->TR r st' none->K ((0:Nat):Int) st':=fun hn st' e h'=>hk 0 st' none (by decide) e h' (by
  cases S with
  | none=>rfl
  | some x=>rw[<-hx x rfl];show(if s.getD 0 0∈of then _ else _);rw[if_neg hn])
 refine Gm r of st K (Ag hs (AG (Ad (fun g=>?_) fun g=>?_)))
 ·have hpos:0<s.length:=List.length_pos_iff.2 g
  refine⟨fun i p of' m st'=> .box r 0=p/\of=of'/\(of.length:Int)=m/\st=st'/\∃k:Nat,i=k/\k<=of.length/\∀j,j<k->of.getD j 0≠s.getD 0 0,fun i _ _ _ _=>(of.length-i).toNat,⟨rfl,rfl,rfl,rfl,0,rfl,Nat.zero_le _,fun j h=>absurd h (Nat.not_lt_zero _)⟩,?_⟩
  rintro _ _ _ _ _ ⟨rfl,rfl,rfl,rfl,k,rfl,hkw,hd⟩
  rw[Int.toNat_natCast]
  refine Ad (fun g1=>Ac rfl (Ac rfl (Ag hs (AG ⟨⟨by omega,by omega⟩,⟨by omega,g1⟩,Ad (fun g2=>?_) fun g2=>?_⟩)))) fun g1=>?_
  ·have g2':s.getD 0 0=of.getD k 0:=UInt8.toNat_inj.1 (Int.ofNat.inj g2)
   have hmem:s.getD 0 0∈of:=by rw[g2'];exact Ig (by omega)
   refine Ac rfl (Ac rfl (Ag hs (AG ⟨⟨by omega,by omega⟩,Ac rfl (Ac rfl (IA (s:=s) h (by rw[List.length_drop];omega) fun st' e h'=>⟨⟨by omega,g1⟩,hk _ st' _ (UInt8.toNat_lt _) e h' ?_⟩))⟩)))
   cases S with
   | none=>rfl
   | some x=>
    obtain rfl:=hx x rfl
    show(if s.getD 0 0∈of then _ else _)
    rw[if_pos hmem]
    exact⟨rfl,by rw[g2']⟩
  ·rw[Ar _ (by omega) (by omega)]
   refine⟨⟨rfl,rfl,rfl,rfl,k+1,by omega,by omega,fun j hj=>?_⟩,by dsimp only;omega⟩
   by_cases hjk:j=k
   ·subst hjk;exact fun e=>g2 (by rw[e];rfl)
   ·exact hd j (by omega)
  ·refine Ac rfl (Ac rfl (Ho hb hr hl (bad fun hm=>?_)))
   obtain⟨i,hi,he⟩:=List.getElem_of_mem hm
   exact hd i (by omega) (by rw[<-he];simp[List.getD,hi])
 ·have g0:s=[]:=Decidable.not_not.1 g
  exact Ho hb hr hl (bad (by rw[g0];exact hof))
def FracS (S:Option B8) (n:Nat) (T:Option B8):Prop:=match S with
 | none=>T=none
 | some s=>if AR s=[]∨9<(AR s).length then T=none else T=some (s.drop (AR s).length)/\n=SL (AR s)
theorem NE (l:B8):∀k,Cc (l++List.replicate k 48)=Cc l*10^k
 | 0=>by simp
 | k+1=>by
  rw[List.replicate_succ',<-List.append_assoc]
  have:=NE l k
  unfold Cc at this⊢
  rw[NF,this,Nat.pow_succ]
  show 10*(EI 0 l*10^k)+(48-48)=_
  have e:10*(EI 0 l*10^k)=EI 0 l*(10^k*10):=by rw[Nat.mul_left_comm,Nat.mul_comm 10]
  rw[e];rfl
theorem Kv {n k:Nat} (hk:k<=9) (hn:n<10^k) {st:St} {K:Int->St->Prop} (h:K (n*10^(9-k):Nat) st):
  ∃(I:Int->Int->St->Prop) (M:Int->Int->St->Nat),I (n:Nat) (k:Nat) st/\∀(n2 k2:Int) (st5:St),I n2 k2 st5->BIf (decide (k2<9)) (I (i64.wrap (n2*10)) (i64.wrap (k2+1)) st5/\M (i64.wrap (n2*10)) (i64.wrap (k2+1)) st5<M n2 k2 st5) (K n2 st5):=by
 refine⟨fun n2 k2 st5=>st=st5/\∃j:Nat,k2=j/\j<=9/\∃m:Nat,n2=m/\m<10^j/\m*10^(9-j)=n*10^(9-k),fun _ k2 _=>(9-k2).toNat,⟨rfl,k,rfl,hk,n,rfl,hn,rfl⟩,?_⟩
 rintro _ _ _ ⟨rfl,j,rfl,hj,m,rfl,hm,he⟩
 have p9:10^j<=10^9:=Nat.pow_le_pow_right (by decide) hj
 refine Ad (fun g=>?_) fun g=>?_
 ·rw[Ar _ (by omega) (by omega),Ar _ (by omega) (by omega)]
  refine⟨⟨rfl,j+1,by omega,by omega,m*10,by omega,by rw[Nat.pow_succ];omega,?_⟩,by dsimp only;omega⟩
  rw[<-he,Nat.mul_assoc,show 9-j=(9-(j+1))+1 by omega,Nat.pow_succ,Nat.mul_comm 10]
 ·have:j=9:=by omega
  subst this
  rw[Nat.sub_self,Nat.pow_zero,Nat.mul_one]at he
  rw[<-he]at h;exact h
theorem RY {r:Nat} {st:St} {S:Option B8} (h:TR r st S) {K:Int->St->Prop} (hk:∀(n:Nat) st' T,n<1000000000->StX (·=r) st st'->TR r st' T->FracS S n T->K (n:Nat) st'):
  Ae PR By [.box r 0] [.one (.int .i64)] st K:=by
 obtain⟨hr,s,hb,hl,hx⟩:=h.get
 have hs:Ab st [] (.t (.box r 0)) 0=some (.str s):=by simp[Ab,hb]
 have bad:(AR s=[]∨9<(AR s).length)->∀st',StX (·=r) st st'->TR r st' none->K ((0:Nat):Int) st':=fun hn st' e h'=>hk 0 st' none (by decide) e h' (by
  cases S with
  | none=>rfl
  | some x=>rw[<-hx x rfl];show(if AR s=[]∨9<(AR s).length then _ else _);rw[if_pos hn])
 refine EG r st K ⟨fun n i p st'=> .box r 0=p/\st=st'/\∃k:Nat,i=k/\k<=s.length/\n=(Cc (s.take (min k 9)):Nat)/\∀j,j<k->BB (s.getD j 0),fun _ i _ _=>(s.length-i).toNat,⟨rfl,rfl,0,rfl,Nat.zero_le _,rfl,fun j h=>absurd h (Nat.not_lt_zero _)⟩,?_⟩
 rintro _ _ _ _ ⟨rfl,rfl,k,rfl,hkl,rfl,hd⟩
 rw[Int.toNat_natCast]
 have p18:10^(min k 9)<=10^9:=Nat.pow_le_pow_right (by decide) (by omega)
 have hv:=LH (l:=s) (w:=min k 9) (by omega) fun i hi=>hd i (by omega)
 have run:(k=s.length∨¬BB (s.getD k 0))->(AR s).length=k:=fun hs=>K3 s k hkl hd hs
 have bad0:(k=s.length∨¬BB (s.getD k 0))->((k:Nat):Int)<1->stB st (.box r 1) [.bool true] fun st'=>K ((0:Nat):Int) st':=fun hs g=>Ho hb hr hl (bad (.inl (List.length_eq_zero_iff.1 (by rw[run hs];omega))))
 have bad9:(k=s.length∨¬BB (s.getD k 0))->(9:Int)<((k:Nat):Int)->stB st (.box r 1) [.bool true] fun st'=>K ((0:Nat):Int) st':=fun hs g=>Ho hb hr hl (bad (.inr (by rw[run hs];omega)))
 have good:(k=s.length∨¬BB (s.getD k 0))->¬((k:Nat):Int)<1->¬(9:Int)<((k:Nat):Int)->∀st',StX (·=r) st st'->TR r st' (S.map fun _=>s.drop k)->K ((Cc (s.take (min k 9))*10^(9-k):Nat):Int) st':=fun hs g1 g2 st' e h'=>by
  have hrun:=run hs
  have htk:=HB s
  rw[hrun]at htk
  have hm:min k 9=k:=by omega
  rw[hm]at hv⊢
  have hp:10^9=10^k*10^(9-k):=by rw[<-Nat.pow_add];congr 1;omega
  have hlt:Cc (s.take k)*10^(9-k)<1000000000:=by
   have:=Nat.mul_lt_mul_of_pos_right hv (Nat.pow_pos (n:=9-k) (show 0<10 by decide))
   rw[<-hp]at this;exact this
  refine hk _ st' _ hlt e h' ?_
  cases S with
  | none=>rfl
  | some x=>
   obtain rfl:=hx x rfl
   show(if AR s=[]∨9<(AR s).length then _ else _)
   rw[if_neg (by rintro(h0 | h0);rw[h0]at hrun;simp at hrun;omega;omega),hrun]
   refine⟨rfl,?_⟩
   unfold SL
   rw[hrun,NE,htk]
 refine Ac rfl (Ac rfl (Ag hs (AG (Ad (fun g=>Ac rfl (Ac rfl (Ag hs (AG ⟨⟨by omega,g⟩,Ad (fun g1=>Ac rfl (Ac rfl (Ag hs (AG ⟨⟨by omega,g⟩,Ad (fun g2=>?_) fun g2=>?_⟩)))) fun g1=>?_⟩)))) fun g=>?_))))
 ·have hdk:∀j,j<k+1->BB (s.getD j 0):=fun j hj=>by
   by_cases hjk:j=k
   ·subst hjk;exact⟨by omega,by omega⟩
   ·exact hd j (by omega)
  refine Ad (fun g3=>Ac rfl (Ac rfl (Ag hs (AG ⟨⟨by omega,g⟩,?_⟩)))) fun g3=>?_
  ·have hsn:=Iz (l:=s) (k:=k) (by omega)
   have hm:min k 9=k:=by omega
   have hm1:min (k+1) 9=k+1:=by omega
   rw[hm]at hv⊢
   rw[hm]at p18
   rw[My _ (by omega) (by omega),Ar (10*_) (by omega) (by omega),Ar (((s.getD k 0).toNat:Int)-48) (by omega) (by omega),Ar (_+_) (by omega) (by omega),Ar _ (by omega) (by omega)]
   exact⟨⟨rfl,rfl,k+1,by omega,by omega,by rw[hm1,hsn];omega,hdk⟩,by dsimp only;omega⟩
  ·rw[Ar _ (by omega) (by omega)]
   exact⟨⟨rfl,rfl,k+1,by omega,by omega,by rw[show min (k+1) 9=min k 9 by omega],hdk⟩,by dsimp only;omega⟩
 ·have hs':k=s.length∨¬BB (s.getD k 0):= .inr fun h=>g2 (by have:=h.2;omega)
  exact Ad (fun g3=>Ac rfl (Ac rfl (bad0 hs' g3))) fun g3=>Ad (fun g4=>Ac rfl (Ac rfl (bad9 hs' g4))) fun g4=>Ac rfl (Ac rfl (Ag hs (AG ⟨⟨by omega,by omega⟩,Ac rfl (Ac rfl (IA (s:=s) h (by rw[List.length_drop];omega) fun st' e h'=>Kv (by omega) (by rw[show min k 9=k by omega]at*;exact hv) (good hs' g3 g4 st' e h')))⟩)))
 ·have hs':k=s.length∨¬BB (s.getD k 0):= .inr fun h=>g1 (by have:=h.1;omega)
  exact Ad (fun g3=>Ac rfl (Ac rfl (bad0 hs' g3))) fun g3=>Ad (fun g4=>Ac rfl (Ac rfl (bad9 hs' g4))) fun g4=>Ac rfl (Ac rfl (Ag hs (AG ⟨⟨by omega,by omega⟩,Ac rfl (Ac rfl (IA (s:=s) h (by rw[List.length_drop];omega) fun st' e h'=>Kv (by omega) (by rw[show min k 9=k by omega]at*;exact hv) (good hs' g3 g4 st' e h')))⟩)))
 ·have hs':k=s.length∨¬BB (s.getD k 0):= .inl (by omega)
  exact Ad (fun g3=>Ac rfl (Ac rfl (bad0 hs' g3))) fun g3=>Ad (fun g4=>Ac rfl (Ac rfl (bad9 hs' g4))) fun g4=>Ac rfl (Ac rfl (Ag hs (AG ⟨⟨by omega,by omega⟩,Ac rfl (Ac rfl (IA (s:=s) h (by rw[List.length_drop];omega) fun st' e h'=>Kv (by omega) (by rw[show min k 9=k by omega]at*;exact hv) (good hs' g3 g4 st' e h')))⟩)))
abbrev rfS (r f:Nat):Nat->Prop:=fun b=>b=r∨b=f
theorem TM.step {r f:Nat} {st st':St} {S T:Option B8} {l:List TV} (h:TM r f st S l) (e:StX (·=r) st st') (h':TR r st' T):TM r f st' T l:=
 ⟨h',Nat.lt_of_lt_of_le h.2.1 e.nb,(e.box f h.2.1 fun g=>h.2.2.2 g.symm).trans h.2.2.1,h.2.2.2⟩
theorem TM.put {r f i:Nat} {st:St} {S:Option B8} {l:List TV} {v:TV} (h:TM r f st S l) (hi:i<l.length) {K:St->Prop} (hk:∀st',StX (rfS r f) st st'->TM r f st' S (l.set i v)->K st'):stB st (.box f i) [v] K:=by
 obtain⟨h1,h2,h3,h4⟩:=h
 refine⟨_,h3,by simp;omega,hk _ (StX.put (S:=rfS r f) (.inr rfl) _) ⟨?_,h2,by simp[St.put,setAll],h4⟩⟩
 have hne:((st.put f (.cells (setAll l i [v]))).box r)=st.box r:=by simp only[St.put];rw[if_neg h4]
 cases S with
 | none=>obtain⟨a1,s,a2,a3⟩:=h1;exact⟨a1,s,hne.trans a2,a3⟩
 | some s=>obtain⟨a1,a2,a3⟩:=h1;exact⟨a1,hne.trans a2,a3⟩
theorem Gh {r f:Nat} {a b:St} (e:StX (·=r) a b):StX (rfS r f) a b:=e.mono fun _ h=> .inl h
def fcT (y mo d h mi sc nn sg oh om:Nat):List TV:=[.int .i64 (y:Nat),.int .i64 (mo:Nat),.int .i64 (d:Nat),.int .i64 (h:Nat),.int .i64 (mi:Nat),.int .i64 (sc:Nat),.int .i64 (nn:Nat),.int .u8 (sg:Nat),.int .i64 (oh:Nat),.int .i64 (om:Nat)]
theorem G1.pos {w n:Nat} {s:B8} {T:Option B8} (h:G1 w (some s) n T) (f:Ib w s):T=some (s.drop w)/\n=Cc (s.take w):=by
 change (if Ib w s then _ else _)at h
 rwa [if_pos f]at h
theorem G1.neg {w n:Nat} {s:B8} {T:Option B8} (h:G1 w (some s) n T) (f:¬Ib w s):T=none:=by
 change (if Ib w s then _ else _)at h
 rwa [if_neg f]at h
theorem JZ.pos {of:B8} {n:Nat} {s:B8} {T:Option B8} (h:JZ of (some s) n T) (f:s.getD 0 0∈of):T=some (s.drop 1)/\n=(s.getD 0 0).toNat:=by
 change (if s.getD 0 0∈of then _ else _)at h
 rwa [if_pos f]at h
theorem JZ.neg {of:B8} {n:Nat} {s:B8} {T:Option B8} (h:JZ of (some s) n T) (f:s.getD 0 0∉of):T=none:=by
 change (if s.getD 0 0∈of then _ else _)at h
 rwa [if_neg f]at h
theorem FX (s:B8) (k i:Nat):b0 (s.drop k) i=b0 s (k+i):=by simp[b0,List.getD]
theorem dd_drop (s:B8) (k i:Nat):dd (s.drop k) i↔dd s (k+i):=by
 unfold dd
 rw[FX,FX,Nat.add_assoc]
theorem d2_drop (s:B8) (k i:Nat):d2 (s.drop k) i=d2 s (k+i):=by
 unfold d2 dv
 rw[FX,FX,Nat.add_assoc]
theorem Th {s:B8} {k:Nat} (h:BB (b0 s k)):k<s.length:=by
 by_cases hk:k<s.length
 ·exact hk
 ·rw[show b0 s k=0 by simp[b0,List.getD,Nat.le_of_not_lt hk]]at h
  exact absurd h (by decide)
theorem numF2 (s:B8):Ib 2 s↔dd s 0:=by
 constructor
 ·intro h;exact⟨h.2 0 (by omega),h.2 1 (by omega)⟩
 ·intro h
  have:=Th h.2
  exact⟨by omega,fun i hi=>by
   rcases (by omega:i=0∨i=1)with rfl | rfl
   ·exact h.1
   ·exact h.2⟩
theorem Qw (s:B8):Ib 4 s↔dd s 0/\dd s 2:=by
 constructor
 ·intro h;exact⟨⟨h.2 0 (by omega),h.2 1 (by omega)⟩,⟨h.2 2 (by omega),h.2 3 (by omega)⟩⟩
 ·intro h
  have:=Th h.2.2
  exact⟨by omega,fun i hi=>by
   rcases (by omega:i=0∨i=1∨i=2∨i=3)with rfl | rfl | rfl | rfl
   ·exact h.1.1
   ·exact h.1.2
   ·exact h.2.1
   ·exact h.2.2⟩
theorem val2 {s:B8} (h:Ib 2 s):Cc (s.take 2)=d2 s 0:=by
 rcases s with _ | ⟨a,_ | ⟨b,r⟩⟩
 ·exact absurd h.1 (by simp)
 ·exact absurd h.1 (by simp)
 ·show 10*(10*0+(a.toNat-48))+(b.toNat-48)=(a.toNat-48)*10+(b.toNat-48)
  omega
theorem val4 {s:B8} (h:Ib 4 s):Cc (s.take 4)=d2 s 0*100+d2 s 2:=by
 rcases s with _ | ⟨a,_ | ⟨b,_ | ⟨c,_ | ⟨d,r⟩⟩⟩⟩
 ·exact absurd h.1 (by simp)
 ·exact absurd h.1 (by simp)
 ·exact absurd h.1 (by simp)
 ·exact absurd h.1 (by simp)
 ·show 10*(10*(10*(10*0+(a.toNat-48))+(b.toNat-48))+(c.toNat-48))+(d.toNat-48)=((a.toNat-48)*10+(b.toNat-48))*100+((c.toNat-48)*10+(d.toNat-48))
  omega
theorem one1 {s:B8} {c:UInt8}:s.getD 0 0∈ [c]↔b0 s 0=c:=by rw[List.mem_singleton];rfl
theorem EN {s:B8} {k m n:Nat} {T:Option B8} (hm:k+2=m) (h:G1 2 (some (s.drop k)) n T):(dd s k->T=some (s.drop m)/\n=d2 s k)/\(¬dd s k->T=none):=by
 have e:Ib 2 (s.drop k)↔dd s k:=by rw[numF2,dd_drop];rfl
 constructor
 ·intro f
  have f':=e.2 f
  obtain⟨h1,h2⟩:=h.pos f'
  exact⟨by rw[h1,List.drop_drop,hm],by rw[h2,val2 f',d2_drop];rfl⟩
 ·intro f;exact h.neg fun g=>f (e.1 g)
theorem G3 {s:B8} {k m n:Nat} {c:UInt8} {T:Option B8} (hm:k+1=m) (h:JZ [c] (some (s.drop k)) n T):(b0 s k=c->T=some (s.drop m))/\(b0 s k≠c->T=none):=by
 have e:(s.drop k).getD 0 0∈ [c]↔b0 s k=c:=by rw[one1,FX];rfl
 exact⟨fun f=>by rw[(h.pos (e.2 f)).1,List.drop_drop,hm],fun f=>h.neg fun g=>f (e.1 g)⟩
theorem step4 {s:B8} {n:Nat} {T:Option B8} (h:G1 4 (some s) n T):(dd s 0/\dd s 2->T=some (s.drop 4)/\n=d2 s 0*100+d2 s 2)/\(¬(dd s 0/\dd s 2)->T=none):=
 ⟨fun f=>⟨(h.pos ((Qw s).2 f)).1,by rw[(h.pos ((Qw s).2 f)).2,val4 ((Qw s).2 f)]⟩,fun f=>h.neg fun g=>f ((Qw s).1 g)⟩
theorem RD {s:B8} {y c m c' d:Nat} {T1 T2 T3 T4 T5:Option B8} (s1:G1 4 (some s) y T1) (s2:JZ [45] T1 c T2) (s3:G1 2 T2 m T3) (s4:JZ [45] T3 c' T4) (s5:G1 2 T4 d T5):
  (De s->T5=some (s.drop 10)/\y=d2 s 0*100+d2 s 2/\m=d2 s 5/\d=d2 s 8)/\(¬De s->T5=none):=by
 by_cases f1:dd s 0/\dd s 2
 ·obtain⟨rfl,v1⟩:=(step4 s1).1 f1
  by_cases f2:b0 s 4=45
  ·obtain rfl:=(G3 (m:=5) rfl s2).1 f2
   by_cases f3:dd s 5
   ·obtain⟨rfl,v3⟩:=(EN (m:=7) rfl s3).1 f3
    by_cases f4:b0 s 7=45
    ·obtain rfl:=(G3 (m:=8) rfl s4).1 f4
     by_cases f5:dd s 8
     ·obtain⟨rfl,v5⟩:=(EN (m:=10) rfl s5).1 f5
      exact⟨fun _=>⟨rfl,v1,v3,v5⟩,fun h=>absurd ⟨f1.1,f1.2,f2,f3,f4,f5⟩ h⟩
     ·exact⟨fun h=>absurd h.2.2.2.2.2 f5,fun _=>(EN (m:=10) rfl s5).2 f5⟩
    ·obtain rfl:=(G3 (m:=8) rfl s4).2 f4
     exact⟨fun h=>absurd h.2.2.2.2.1 f4,fun _=>s5⟩
   ·obtain rfl:=(EN (m:=7) rfl s3).2 f3
    obtain rfl:T4=none:=s4
    exact⟨fun h=>absurd h.2.2.2.1 f3,fun _=>s5⟩
  ·obtain rfl:=(G3 (m:=5) rfl s2).2 f2
   obtain rfl:T3=none:=s3
   obtain rfl:T4=none:=s4
   exact⟨fun h=>absurd h.2.2.1 f2,fun _=>s5⟩
 ·obtain rfl:=(step4 s1).2 f1
  obtain rfl:T2=none:=s2
  obtain rfl:T3=none:=s3
  obtain rfl:T4=none:=s4
  exact⟨fun h=>absurd ⟨h.1,h.2.1⟩ f1,fun _=>s5⟩
def DateS (S:Option B8) (y m d:Nat) (T:Option B8):Prop:=match S with
 | none=>T=none
 | some s=>(De s->T=some (s.drop 10)/\y=d2 s 0*100+d2 s 2/\m=d2 s 5/\d=d2 s 8)/\(¬De s->T=none)
theorem NQ {r f:Nat} {st:St} {S:Option B8} {h mi sc nn sg oh om:Nat} (hm:TM r f st S (fcT 0 0 0 h mi sc nn sg oh om)) {K:St->Prop}
  (hk:∀y mo d st' T,y<10000->mo<100->d<100->StX (rfS r f) st st'->TM r f st' T (fcT y mo d h mi sc nn sg oh om)->DateS S y mo d T->K st'):Ae PR Bx [.box r 0,.box f 0] [] st K:=by
 refine Gb r f st K (EM (w:=4) (by decide) hm.1 fun y st1 T1 b1 e1 h1 s1=>(hm.step e1 h1).put (by simp[fcT]) fun st2 e2 m2=>?_)
 refine EL (of:=[45]) (by decide) (by decide) m2.1 fun c st3 T3 b3 e3 h3 s3=>EM (w:=2) (by decide) h3 fun mo st4 T4 b4 e4 h4 s4=>((m2.step e3 h3).step e4 h4).put (by simp[fcT]) fun st5 e5 m5=>?_
 refine EL (of:=[45]) (by decide) (by decide) m5.1 fun c' st6 T6 b6 e6 h6 s6=>EM (w:=2) (by decide) h6 fun d st7 T7 b7 e7 h7 s7=>((m5.step e6 h6).step e7 h7).put (by simp[fcT]) fun st8 e8 m8=>?_
 refine hk y mo d st8 T7 b1 b4 b7 ((((((((Gh e1).trans e2).trans (Gh e3)).trans (Gh e4)).trans e5).trans (Gh e6)).trans (Gh e7)).trans e8) m8 ?_
 cases S with
 | some s=>exact RD s1 s3 s4 s6 s7
 | none=>
  have:=(show T1=none from s1)
  subst this
  have:=(show T3=none from s3)
  subst this
  have:=(show T4=none from s4)
  subst this
  have:=(show T6=none from s6)
  subst this
  exact s7
theorem P2 {s:B8} {h c m c' d:Nat} {T1 T2 T3 T4 T5:Option B8} (s1:G1 2 (some s) h T1) (s2:JZ [58] T1 c T2) (s3:G1 2 T2 m T3) (s4:JZ [58] T3 c' T4) (s5:G1 2 T4 d T5):
  (Jz s->T5=some (s.drop 8)/\h=d2 s 0/\m=d2 s 3/\d=d2 s 6)/\(¬Jz s->T5=none):=by
 have s1':G1 2 (some (s.drop 0)) h T1:=by rw[List.drop_zero];exact s1
 by_cases f1:dd s 0
 ·obtain⟨rfl,v1⟩:=(EN (m:=2) rfl s1').1 f1
  by_cases f2:b0 s 2=58
  ·obtain rfl:=(G3 (m:=3) rfl s2).1 f2
   by_cases f3:dd s 3
   ·obtain⟨rfl,v3⟩:=(EN (m:=5) rfl s3).1 f3
    by_cases f4:b0 s 5=58
    ·obtain rfl:=(G3 (m:=6) rfl s4).1 f4
     by_cases f5:dd s 6
     ·obtain⟨rfl,v5⟩:=(EN (m:=8) rfl s5).1 f5
      exact⟨fun _=>⟨rfl,v1,v3,v5⟩,fun h=>absurd ⟨f1,f2,f3,f4,f5⟩ h⟩
     ·exact⟨fun h=>absurd h.2.2.2.2 f5,fun _=>(EN (m:=8) rfl s5).2 f5⟩
    ·obtain rfl:=(G3 (m:=6) rfl s4).2 f4
     exact⟨fun h=>absurd h.2.2.2.1 f4,fun _=>s5⟩
   ·obtain rfl:=(EN (m:=5) rfl s3).2 f3
    obtain rfl:T4=none:=s4
    exact⟨fun h=>absurd h.2.2.1 f3,fun _=>s5⟩
  ·obtain rfl:=(G3 (m:=3) rfl s2).2 f2
   obtain rfl:T3=none:=s3
   obtain rfl:T4=none:=s4
   exact⟨fun h=>absurd h.2.1 f2,fun _=>s5⟩
 ·obtain rfl:=(EN (m:=2) rfl s1').2 f1
  obtain rfl:T2=none:=s2
  obtain rfl:T3=none:=s3
  obtain rfl:T4=none:=s4
  exact⟨fun h=>absurd h.1 f1,fun _=>s5⟩
def O6 (S:Option B8) (h mi sc nn:Nat) (T:Option B8):Prop:=match S with
 | none=>T=none
 | some s=>match Ip s with
  | none=>T=none
  | some (h',mi',sc',f',r')=>T=some r'/\h=h'/\mi=mi'/\sc=sc'/\nn=f'
theorem TR.src {r:Nat} {st:St} {S:Option B8} (h:TR r st S):∃s,Ab st [] (.t (.box r 0)) 0=some (.str s)/\s.length<=1000000/\∀x,S=some x->s=x:=by
 obtain⟨_,s,hb,hl,hx⟩:=h.get
 exact⟨s,by simp[Ab,hb],hl,hx⟩
theorem IC {r f:Nat} {st:St} {S:Option B8} {y mo d sg oh om:Nat} (hm:TM r f st S (fcT y mo d 0 0 0 0 sg oh om)) {K:St->Prop}
  (hk:∀h mi sc nn st' T,h<100->mi<100->sc<100->nn<1000000000->StX (rfS r f) st st'->TM r f st' T (fcT y mo d h mi sc nn sg oh om)->O6 S h mi sc nn T->K st'):Ae PR Ba [.box r 0,.box f 0] [] st K:=by
 refine FC r f st K (EM (w:=2) (by decide) hm.1 fun y st1 T1 b1 e1 h1 s1=>(hm.step e1 h1).put (by simp[fcT]) fun st2 e2 m2=>?_)
 refine EL (of:=[58]) (by decide) (by decide) m2.1 fun c st3 T3 b3 e3 h3 s3=>EM (w:=2) (by decide) h3 fun mo st4 T4 b4 e4 h4 s4=>((m2.step e3 h3).step e4 h4).put (by simp[fcT]) fun st5 e5 m5=>?_
 refine EL (of:=[58]) (by decide) (by decide) m5.1 fun c' st6 T6 b6 e6 h6 s6=>EM (w:=2) (by decide) h6 fun d st7 T7 b7 e7 h7 s7=>((m5.step e6 h6).step e7 h7).put (by simp[fcT]) fun st8 e8 m8=>?_
 have E:=(((((((Gh e1).trans e2).trans (Gh e3)).trans (Gh e4)).trans e5).trans (Gh e6)).trans (Gh e7)).trans e8
 have comb:∀s,S=some s->(Jz s->T7=some (s.drop 8)/\y=d2 s 0/\mo=d2 s 3/\d=d2 s 6)/\(¬Jz s->T7=none):=fun s hs=>by
  subst hs;exact P2 s1 s3 s4 s6 s7
 have nn:S=none->T7=none:=fun hs=>by
  subst hs
  obtain rfl:T1=none:=s1
  obtain rfl:T3=none:=s3
  obtain rfl:T4=none:=s4
  obtain rfl:T6=none:=s6
  exact s7
 clear s1 s3 s4 s6 s7 m2 m5
 obtain⟨t,ht,hl,hx⟩:=m8.1.src
 have plain:(∀x,T7=some x->b0 x 0≠46)->K st8:=fun hp=>hk y mo d 0 st8 T7 b1 b4 b7 (by decide) E m8 (by
  cases S with
  | none=>exact nn rfl
  | some s=>
   unfold O6;dsimp only
   obtain⟨c1,c2⟩:=comb s rfl
   unfold Ip
   by_cases fc:Jz s
   ·obtain⟨rfl,v1,v2,v3⟩:=c1 fc
    rw[if_pos fc,if_neg (by have:=hp _ rfl;rw[FX]at this;exact this)]
    exact⟨rfl,v1,v2,v3,rfl⟩
   ·rw[if_neg fc];exact c2 fc)
 refine Ag ht (AG (Ad (fun g=>Ag ht (AG ⟨⟨by omega,by have:=List.length_pos_iff.2 g;omega⟩,Ad (fun g1=>?_) fun g1=>?_⟩)) fun g=>?_))
 ·have hpos:=List.length_pos_iff.2 g
  refine Ag ht (AG ⟨⟨by omega,by omega⟩,IA (s:=t) m8.1 (by rw[List.length_drop];omega) fun st9 e9 h9=>?_⟩)
  refine RY h9 fun n st10 T10 b10 e10 h10 s10=>((m8.step e9 h9).step e10 h10).put (by simp[fcT]) fun st11 e11 m11=>?_
  refine hk y mo d n st11 T10 b1 b4 b7 b10 (((E.trans (Gh e9)).trans (Gh e10)).trans e11) m11 ?_
  have g46:b0 t 0=46:=(u8i (k:=46)).1 g1
  cases S with
  | none=>
   obtain rfl:=nn rfl
   exact s10
  | some s=>
   unfold O6;dsimp only
   obtain⟨c1,c2⟩:=comb s rfl
   unfold Ip
   by_cases fc:Jz s
   ·obtain⟨rfl,v1,v2,v3⟩:=c1 fc
    obtain rfl:=hx _ rfl
    rw[FX]at g46
    rw[if_pos fc,if_pos g46]
    have hd9:(s.drop 8).drop (Int.toNat 1)=s.drop 9:=by rw[List.drop_drop];rfl
    have s11:FracS (some (s.drop 9)) n T10:=by rw[<-hd9];exact s10
    change (if _ then _ else _)at s11
    by_cases hf:AR (s.drop 9)=[]∨9<(AR (s.drop 9)).length
    ·rw[if_pos hf]at s11
     rw[if_pos hf];exact s11
    ·rw[if_neg hf]at s11
     rw[if_neg hf]
     refine⟨?_,v1,v2,v3,s11.2⟩
     rw[s11.1,List.drop_drop]
   ·obtain rfl:=c2 fc
    rw[if_neg fc];exact s10
 ·exact plain fun x hx'=>by
   obtain rfl:=hx x hx'
   exact fun h=>g1 ((u8i (k:=46)).2 h)
 ·have g0:t=[]:=Decidable.not_not.1 g
  exact plain fun x hx'=>by
   obtain rfl:=hx x hx'
   rw[g0];decide
def Qk (S:Option B8) (sg oh om:Nat) (T:Option B8):Prop:=match S with
 | none=>T=none
 | some s=>(T=some []->∃ls,MU s=some (ls,oh,om)/\(ls=true↔sg=45))/\(T≠some []->MU s=none)
theorem Px {s:B8} {sg oh om:Nat} {c:Nat} {T1 T2 T3 T:Option B8} (hsg:sg=(b0 s 0).toNat) (h0:b0 s 0=43∨b0 s 0=45) (hT:T1=some (s.drop 1)) (s1:G1 2 T1 oh T2) (s2:JZ [58] T2 c T3) (s3:G1 2 T3 om T):Qk (some s) sg oh om T:=by
 subst hT
 have nz:¬(s=[90]∨s=[122]):=by
  rintro(h | h)<;>rw[h]at h0<;>revert h0<;>decide
 have no:T=none->(dd s 1->b0 s 3=58->dd s 4->False)->Qk (some s) sg oh om T:=fun ht hf=>by
  subst ht
  refine⟨fun h=>(by cases h),fun _=>?_⟩
  unfold MU
  rw[if_neg nz,if_neg fun h=>hf h.2.2.1 h.2.2.2.1 h.2.2.2.2]
 by_cases f1:dd s 1
 ·obtain⟨rfl,rfl⟩:=(EN (m:=3) rfl s1).1 f1
  by_cases f2:b0 s 3=58
  ·obtain rfl:=(G3 (m:=4) rfl s2).1 f2
   by_cases f3:dd s 4
   ·obtain⟨rfl,rfl⟩:=(EN (m:=6) rfl s3).1 f3
    have hl:=Th f3.2
    refine⟨fun h=>⟨decide (b0 s 0=45),?_,?_⟩,fun h=>?_⟩
    ·have h6:s.drop 6=[]:=Option.some.inj h
     have:=congrArg List.length h6
     rw[List.length_drop]at this
     simp at this
     unfold MU
     rw[if_neg nz,if_pos ⟨by omega,h0,f1,f2,f3⟩]
    ·rw[decide_eq_true_eq,hsg]
     exact⟨fun h=>by rw[h];rfl,fun h=>UInt8.toNat_inj.1 h⟩
    ·unfold MU
     rw[if_neg nz,if_neg]
     intro h'
     exact h (by rw[List.drop_of_length_le (by omega)])
   ·exact no ((EN (m:=6) rfl s3).2 f3) fun _ _ h=>f3 h
  ·obtain rfl:=(G3 (m:=4) rfl s2).2 f2
   exact no s3 fun _ h _=>f2 h
 ·obtain rfl:=(EN (m:=3) rfl s1).2 f1
  obtain rfl:T3=none:=s2
  exact no s3 fun h _ _=>f1 h
theorem Qk.none {S T1 T:Option B8} {sg oh om:Nat} (h:JZ [90,122,43,45] S sg T1) (h1:T1=none) (ht:T=none):Qk S sg oh om T:=by
 subst h1 ht
 cases S with
 | none=>rfl
 | some s=>
  refine⟨fun h=>(by cases h),fun _=>?_⟩
  have hn:s.getD 0 0∉ [90,122,43,45]:=fun hm=>by have:=(h.pos hm).1;cases this
  unfold MU
  rw[if_neg,if_neg]
  ·rintro⟨_,h | h,_⟩
   ·exact hn (by rw[show s.getD 0 0=43 from h];decide)
   ·exact hn (by rw[show s.getD 0 0=45 from h];decide)
  ·rintro(h | h)<;>rw[h]at hn<;>revert hn<;>decide
theorem Ki {r f:Nat} {st:St} {S:Option B8} {y mo d h mi sc nn:Nat} (hm:TM r f st S (fcT y mo d h mi sc nn 0 0 0)) {K:St->Prop}
  (hk:∀sg oh om st' T,sg<256->oh<100->om<100->StX (rfS r f) st st'->TM r f st' T (fcT y mo d h mi sc nn sg oh om)->Qk S sg oh om T->K st'):Ae PR Bl [.box r 0,.box f 0] [] st K:=by
 refine Fm r f st K (EL (of:=[90,122,43,45]) (by decide) (by decide) hm.1 fun sg st1 T1 b1 e1 h1 s1=>(hm.step e1 h1).put (by simp[fcT]) fun st2 e2 m2=>?_)
 have hld:Ab st2 [] (.t (.box f 7)) 0=some (.int .u8 (sg:Nat)):=by simp[Ab,m2.2.2.1,fcT]
 have E2:=(Gh e1).trans e2
 refine Ag hld (Ak (Ad (fun g=>?_) fun g=>Ag hld (Ak (Ad (fun g2=>?_) fun g2=>?_))))
 iterate 2
  ·refine EM (w:=2) (by decide) m2.1 fun oh st3 T3 b3 e3 h3 s3=>(m2.step e3 h3).put (by simp[fcT]) fun st4 e4 m4=>?_
   refine EL (of:=[58]) (by decide) (by decide) m4.1 fun c st5 T5 b5 e5 h5 s5=>EM (w:=2) (by decide) h5 fun om st6 T6 b6 e6 h6 s6=>((m4.step e5 h5).step e6 h6).put (by simp[fcT]) fun st7 e7 m7=>?_
   refine hk sg oh om st7 T6 b1 b3 b6 (((((E2.trans (Gh e3)).trans e4).trans (Gh e5)).trans (Gh e6)).trans e7) m7 ?_
   cases T1 with
   | none=>
    obtain rfl:T3=none:=s3
    obtain rfl:T5=none:=s5
    exact Qk.none s1 rfl s6
   | some x=>
    cases S with
    | none=>cases (show some x=none from s1)
    | some s=>
     by_cases hmem:s.getD 0 0∈ [90,122,43,45]
     ·obtain⟨hT,hs⟩:=s1.pos hmem
      refine Px hs ?_ hT s3 s5 s6
      have hc:((b0 s 0).toNat:Int)=sg:=by rw[hs];rfl
      first
       | exact .inl (UInt8.toNat_inj.1 (by rw[show((43:UInt8).toNat)=43 from rfl];omega))
       | exact .inr (UInt8.toNat_inj.1 (by rw[show((45:UInt8).toNat)=45 from rfl];omega))
     ·cases s1.neg hmem
 ·refine hk sg 0 0 st2 T1 b1 (by decide) (by decide) E2 m2 ?_
  cases T1 with
  | none=>exact Qk.none s1 rfl rfl
  | some x=>
   cases S with
   | none=>cases (show some x=none from s1)
   | some s=>
    by_cases hmem:s.getD 0 0∈ [90,122,43,45]
    ·obtain⟨hT,hs⟩:=s1.pos hmem
     rw[hT]
     have h43:b0 s 0≠43:=fun h=>g (by rw[hs,show s.getD 0 0=43 from h];rfl)
     have h45:b0 s 0≠45:=fun h=>g2 (by rw[hs,show s.getD 0 0=45 from h];rfl)
     refine⟨fun h=>⟨false,?_,⟨fun h=>(by cases h),fun h=>absurd (by omega) g2⟩⟩,fun h=>?_⟩
     ·have h1:s.drop 1=[]:=Option.some.inj h
      unfold MU
      rw[if_pos]
      rcases s with _ | ⟨a,_ | ⟨b,s⟩⟩
      ·exact absurd hmem (by decide)
      ·have ha:a∈ [90,122,43,45]:=hmem
       simp only[List.mem_cons,List.not_mem_nil,or_false]at ha
       rcases ha with rfl | rfl | rfl | rfl
       ·exact .inl rfl
       ·exact .inr rfl
       ·exact absurd rfl h43
       ·exact absurd rfl h45
      ·cases h1
     ·unfold MU
      rw[if_neg,if_neg]
      ·rintro⟨_,h | h,_⟩
       ·exact h43 h
       ·exact h45 h
      ·rintro(h' | h')<;>exact h (by rw[h'];rfl)
    ·cases s1.neg hmem
theorem cday_ok {y m d:Nat} (hy:y<=100000) (hm:m<=1000) (hd:d<=1000) {st:St} {K:Int->Int->St->Prop} (hk:K (if okD y m d then(JX y m d:Nat)else 0) (if okD y m d then 0 else 2) st):
  Ae PR DL [.int .i64 (y:Nat),.int .i64 (m:Nat),.int .i64 (d:Nat)] [.one (.int .i64),.one (.int .i64)] st K:=by
 refine JS _ _ _ st K (Ad (fun g=>?_) fun g=>JI (by omega) (Ad (fun g2=>?_) fun g2=>?_))
 ·have hn:¬okD y m d:=fun h=>by have:=h.2.2.2.2.1;omega
  rw[if_neg hn,if_neg hn]at hk;exact hk
 ·have hn:¬okD y m d:=fun h=>by
   obtain⟨a1,a2,a3,a4,a5,a6⟩:=h
   rw[MY a1 a2 a3 a4]at g2
   omega
  rw[if_neg hn,if_neg hn]at hk;exact hk
 ·have hr:1<=y/\y<=9999/\1<=m/\m<=12:=by
   by_cases h:1<=y/\y<=9999/\1<=m/\m<=12
   ·exact h
   ·rw[show monX y m=0 from if_neg h]at g2
    omega
  obtain⟨a1,a2,a3,a4⟩:=hr
  rw[MY a1 a2 a3 a4]at g2
  have ok:okD y m d:=⟨a1,a2,a3,a4,by omega,by omega⟩
  rw[if_pos ok,if_pos ok]at hk
  have hyr:yrS y<=4000000:=by unfold yrS;omega
  refine OW a1 (by omega) ⟨fun n i y' m' st'=>((y:Nat):Int)=y'/\((m:Nat):Int)=m'/\st=st'/\∃j:Nat,i=j/\1<=j/\j<=m/\n=((yrS y+Ok y j+(d-1):Nat):Int),fun _ i _ _ _=>(m-i).toNat,⟨rfl,rfl,rfl,1,rfl,by omega,by omega,?_⟩,?_⟩
  ·rw[Ar (((yrS y:Nat):Int)+((d:Nat):Int)) (by omega) (by omega),Ar _ (by omega) (by omega),show Ok y 1=0 from rfl];omega
  ·rintro _ _ _ _ _ ⟨rfl,rfl,rfl,j,rfl,hj1,hj2,rfl⟩
   have hms:=Qx y j
   refine Ad (fun g3=>JI (by omega) ?_) fun g3=>?_
   ·have hmd:=Qy y j
    rw[MY a1 a2 hj1 (by omega),Ar _ (by omega) (by omega),Ar _ (by omega) (by omega)]
    exact⟨⟨rfl,rfl,rfl,j+1,by omega,by omega,by omega,by rw[Rm y hj1];omega⟩,by dsimp only;omega⟩
   ·have:j=m:=by omega
    subst this
    exact hk
def KM (n1 y mo d h mi sc nn sg oh om:Nat):TmR:=
 if (n1≠2->okD y mo d)/\okC h mi sc/\oh<=23/\om<=59 then((n1:Nat),(if n1=2 then 0 else(JX y mo d:Nat)),(Ft h mi sc nn:Nat),(if sg=45 then-((oh*60+om:Nat):Int)else((oh*60+om:Nat):Int)),0)else F2
def FinS (s:B8) (n1:Nat) (T:Option B8) (y mo d h mi sc nn sg oh om:Nat):Prop:=(T=some []->tmP s=KM n1 y mo d h mi sc nn sg oh om)/\(T≠some []->tmP s=F3)
theorem Bv {s:B8} {n1 y mo d h mi sc nn sg oh om:Nat} (e:tmP s=F3):FinS s n1 none y mo d h mi sc nn sg oh om:=⟨fun h=>(by cases h),fun _=>e⟩
theorem KL {s:B8} (n1:Nat) {y mo d h mi sc nn sg oh om:Nat} {r:B8} (hn:n1<=4) (e:tmP s=KM n1 y mo d h mi sc nn sg oh om) (hr:r=[]):FinS s n1 (some r) y mo d h mi sc nn sg oh om:=⟨fun _=>e,fun h=>absurd (by rw[hr]) h⟩
theorem okC0:okC 0 0 0:=by decide
theorem fin1 (y mo d:Nat):(if okD y mo d then((1:Int),((JX y mo d:Nat):Int),(0:Int),(0:Int),(0:Int))else F2)=KM 1 y mo d 0 0 0 0 0 0 0:=by
 unfold KM
 by_cases h:okD y mo d
 ·rw[if_pos h,if_pos ⟨fun _=>h,okC0,by decide,by decide⟩];rfl
 ·rw[if_neg h,if_neg fun g=>h (g.1 (by decide))]
theorem fin2 (h mi sc nn:Nat):(if okC h mi sc then((2:Int),(0:Int),((Ft h mi sc nn:Nat):Int),(0:Int),(0:Int))else F2)=KM 2 0 0 0 h mi sc nn 0 0 0:=by
 unfold KM
 by_cases g:okC h mi sc
 ·rw[if_pos g,if_pos ⟨fun h=>absurd rfl h,g,by decide,by decide⟩];rfl
 ·rw[if_neg g,if_neg fun k=>g k.2.1]
theorem fin3 (y mo d h mi sc nn:Nat):(if okD y mo d/\okC h mi sc then((3:Int),((JX y mo d:Nat):Int),((Ft h mi sc nn:Nat):Int),(0:Int),(0:Int))else F2)=KM 3 y mo d h mi sc nn 0 0 0:=by
 unfold KM
 by_cases g:okD y mo d/\okC h mi sc
 ·rw[if_pos g,if_pos ⟨fun _=>g.1,g.2,by decide,by decide⟩];rfl
 ·rw[if_neg g,if_neg fun k=>g ⟨k.1 (by decide),k.2.1⟩]
theorem fin4 (y mo d h mi sc nn sg oh om:Nat) (ls:Bool) (hl:ls=true↔sg=45):(if okD y mo d/\okC h mi sc/\oh<=23/\om<=59 then((4:Int),((JX y mo d:Nat):Int),((Ft h mi sc nn:Nat):Int),(if ls=true then-((oh*60+om:Nat):Int)else((oh*60+om:Nat):Int)),(0:Int))else F2)=KM 4 y mo d h mi sc nn sg oh om:=by
 unfold KM
 by_cases g:okD y mo d/\okC h mi sc/\oh<=23/\om<=59
 ·have hp:(4≠2->okD y mo d)/\okC h mi sc/\oh<=23/\om<=59:=⟨fun _=>g.1,g.2⟩
  rw[if_pos g,if_pos hp]
  by_cases k:sg=45
  ·rw[if_pos k,if_pos (hl.2 k)];rfl
  ·rw[if_neg k,if_neg fun h=>k (hl.1 h)];rfl
 ·rw[if_neg g,if_neg fun k=>g ⟨k.1 (by decide),k.2⟩]
theorem IB {s:B8} (hc:b0 s 2≠58) (h:¬De s):tmP s=F3:=by
 unfold tmP
 rw[if_neg h]
 have:Ip s=none:=by unfold Ip;rw[if_neg fun g=>hc g.2.1]
 rw[this]
theorem SM {s:B8}:s.getD 0 0∈ [84,116,32]↔(b0 s 0=84∨b0 s 0=116∨b0 s 0=32):=by
 simp only[List.mem_cons,List.not_mem_nil,or_false];rfl
theorem MG {s:B8} (fd:De s) (hne:s.drop 10≠ []) (fo:(s.drop 10).getD 0 0∈ [84,116,32]):tmP s=match Ip (s.drop (10+1))with
  | none=>F3
  | some (h,m,sc,f,r')=>tmO (d2 s 0*100+d2 s 2) (d2 s 5) (d2 s 8) h m sc f r':=by
 unfold tmP tmD
 rw[if_pos fd,if_neg hne,if_pos (SM.1 fo),List.drop_drop]<;>rfl
theorem MF {s:B8} (fd:De s) (hne:s.drop 10≠ []) (fo:(s.drop 10).getD 0 0∉ [84,116,32]):tmP s=F3:=by
 unfold tmP tmD
 rw[if_pos fd,if_neg hne,if_neg fun h=>fo (SM.2 h)]
theorem at_pos' {s:B8} {k:Nat} {c:UInt8} (hc:c≠0) (h:b0 s k=c):k<s.length:=by
 by_cases hk:k<s.length
 ·exact hk
 ·rw[show b0 s k=0 by simp[b0,List.getD,Nat.le_of_not_lt hk]]at h
  exact absurd h.symm hc
theorem RZ {r f:Nat} {st:St} {s:B8} (hm:TM r f st (some s) (fcT 0 0 0 0 0 0 0 0 0 0)) {K:Int->St->Prop}
  (hk:∀(n1 y mo d h mi sc nn sg oh om:Nat) st' T,n1<=4->y<10000->mo<100->d<100->h<100->mi<100->sc<100->nn<1000000000->sg<256->oh<100->om<100->StX (rfS r f) st st'->TM r f st' T (fcT y mo d h mi sc nn sg oh om)->FinS s n1 T y mo d h mi sc nn sg oh om->K (n1:Nat) st'):
  Ae PR B5 [.box r 0,.box f 0] [.one (.int .i64)] st K:=by
 obtain⟨x,hx,hl,hsx⟩:=hm.1.src
 have hxs:x=s:=hsx s rfl
 rw[hxs]at hx hl
 clear hsx hxs
 refine Ga r f st K (Ag hx (AG (Ad (fun g=>Ag hx (AG ⟨⟨by omega,g⟩,Ad (fun g1=>?_) fun g1=>?_⟩)) fun g=>?_)))
 ·have h58:b0 s 2=58:=(u8i (k:=58)).1 g1
  have nfd:¬De s:=fun h=>absurd h.2.1.1 (by rw[h58];decide)
  refine IC hm fun h mi sc nn st1 T c1 c2 c3 c4 e1 m1 s1=>hk 2 0 0 0 h mi sc nn 0 0 0 st1 T (by omega) (by decide) (by decide) (by decide) c1 c2 c3 c4 (by decide) (by decide) (by decide) e1 m1 ?_
  unfold O6 at s1
  dsimp only at s1
  have e:tmP s=match Ip s with
   | none=>F3
   | some (h,m,sc,f,r)=>if r=[]then(if okC h m sc then(2,0,(Ft h m sc f:Nat),0,0)else F2)else F3:=by unfold tmP;rw[if_neg nfd]<;>rfl
  cases hc:Ip s with
  | none=>rw[hc]at s1 e;exact s1▸Bv e
  | some p=>
   obtain⟨h',mi',sc',f',r'⟩:=p
   rw[hc]at s1 e
   dsimp only at s1 e
   obtain⟨rfl,rfl,rfl,rfl,rfl⟩:=s1
   by_cases hr:r'=[]
   ·rw[if_pos hr]at e
    exact KL _ (by decide) (by rw[e];exact fin2 _ _ _ _) hr
   ·rw[if_neg hr]at e
    exact⟨fun h=>absurd (Option.some.inj h) hr,fun _=>e⟩
 ·have hnc:b0 s 2≠58:=fun h=>g1 ((u8i (k:=58)).2 h)
  refine NQ hm fun y mo d st2 T2 b1 b2 b3 e2 m2 s2=>?_
  obtain⟨x3,hx3,_,hs3⟩:=m2.1.src
  refine Ag hx3 (AG (Ad (fun g=>?_) fun g=>EL (of:=[84,116,32]) (by decide) (by decide) m2.1 fun c st3 T3 bc e3 h3 s3=>IC (m2.step e3 h3) fun h mi sc nn st4 T4 c1 c2 c3 c4 e4 m4 s4=>?_))
  ·refine hk 1 y mo d 0 0 0 0 0 0 0 st2 T2 (by omega) b1 b2 b3 (by decide) (by decide) (by decide) (by decide) (by decide) (by decide) (by decide) e2 m2 ?_
   by_cases fd:De s
   ·obtain⟨rfl,rfl,rfl,rfl⟩:=s2.1 fd
    have h10:s.drop 10=[]:=by rw[<-hs3 _ rfl];exact g
    have e:tmP s=if okD (d2 s 0*100+d2 s 2) (d2 s 5) (d2 s 8)then((1:Int),((JX (d2 s 0*100+d2 s 2) (d2 s 5) (d2 s 8):Nat):Int),(0:Int),(0:Int),(0:Int))else F2:=by unfold tmP tmD;rw[if_pos fd,if_pos h10]
    exact KL _ (by decide) (by rw[e];exact fin1 _ _ _) h10
   ·obtain rfl:=s2.2 fd
    exact Bv (by rw[IB hnc fd])
  ·obtain⟨x4,hx4,_,hs4⟩:=m4.1.src
   have nofd:¬De s->T4=none:=fun fd=>by
    obtain rfl:=s2.2 fd
    obtain rfl:T3=none:=s3
    exact s4
   have E4:=(e2.trans (Gh e3)).trans e4
   refine Ag hx4 (AG (Ad (fun g4=>?_) fun g4=>Ki m4 fun sg oh om st5 T5 d1 d2 d3 e5 m5 s5=>?_))
   ·refine hk 3 y mo d h mi sc nn 0 0 0 st4 T4 (by omega) b1 b2 b3 c1 c2 c3 c4 (by decide) (by decide) (by decide) E4 m4 ?_
    by_cases fd:De s
    ·obtain⟨rfl,rfl,rfl,rfl⟩:=s2.1 fd
     have hne:s.drop 10≠ []:=fun e=>g (by rw[hs3 _ rfl];exact e)
     by_cases fo:(s.drop 10).getD 0 0∈ [84,116,32]
     ·obtain⟨rfl,_⟩:=s3.pos fo
      have e:=MG fd hne fo
      unfold O6 at s4
      dsimp only at s4
      rw[List.drop_drop]at s4
      cases hc:Ip (s.drop (10+1))with
      | none=>rw[hc]at s4 e;exact s4▸Bv e
      | some p=>
       obtain⟨h',mi',sc',f',r'⟩:=p
       rw[hc]at s4 e
       dsimp only at s4 e
       obtain⟨rfl,rfl,rfl,rfl,rfl⟩:=s4
       have hr:r'=[]:=by rw[<-hs4 _ rfl];exact g4
       unfold tmO at e
       rw[if_pos hr]at e
       exact KL _ (by decide) (by rw[e];exact fin3 _ _ _ _ _ _ _) hr
     ·obtain rfl:=s3.neg fo
      obtain rfl:T4=none:=s4
      exact Bv (MF fd hne fo)
    ·obtain rfl:=nofd fd
     exact Bv (by rw[IB hnc fd])
   ·refine hk 4 y mo d h mi sc nn sg oh om st5 T5 (by omega) b1 b2 b3 c1 c2 c3 c4 d1 d2 d3 (E4.trans e5) m5 ?_
    by_cases fd:De s
    ·obtain⟨rfl,rfl,rfl,rfl⟩:=s2.1 fd
     have hne:s.drop 10≠ []:=fun e=>g (by rw[hs3 _ rfl];exact e)
     by_cases fo:(s.drop 10).getD 0 0∈ [84,116,32]
     ·obtain⟨rfl,_⟩:=s3.pos fo
      have e:=MG fd hne fo
      unfold O6 at s4
      dsimp only at s4
      rw[List.drop_drop]at s4
      cases hc:Ip (s.drop (10+1))with
      | none=>
       rw[hc]at s4 e
       dsimp only at s4
       subst s4
       obtain rfl:T5=none:=s5
       exact Bv e
      | some p=>
       obtain⟨h',mi',sc',f',r'⟩:=p
       rw[hc]at s4 e
       dsimp only at s4 e
       obtain⟨rfl,rfl,rfl,rfl,rfl⟩:=s4
       have hr:r'≠ []:=fun e=>g4 (by rw[hs4 _ rfl];exact e)
       unfold tmO at e
       rw[if_neg hr]at e
       by_cases h5:T5=some []
       ·obtain⟨ls,ho,hl⟩:=s5.1 h5
        rw[ho]at e
        exact⟨fun _=>by rw[e];exact fin4 _ _ _ _ _ _ _ _ _ _ _ hl,fun h=>absurd h5 h⟩
       ·have ho:=s5.2 h5
        rw[ho]at e
        exact⟨fun h=>absurd h h5,fun _=>e⟩
     ·obtain rfl:=s3.neg fo
      obtain rfl:T4=none:=s4
      obtain rfl:T5=none:=s5
      exact Bv (MF fd hne fo)
    ·obtain rfl:=nofd fd
     obtain rfl:T5=none:=s5
     exact Bv (by rw[IB hnc fd])
 ·have hnc:b0 s 2≠58:=fun h=>by have:=at_pos' (by decide) h;omega
  refine NQ hm fun y mo d st2 T2 b1 b2 b3 e2 m2 s2=>?_
  obtain⟨x3,hx3,_,hs3⟩:=m2.1.src
  refine Ag hx3 (AG (Ad (fun g=>?_) fun g=>EL (of:=[84,116,32]) (by decide) (by decide) m2.1 fun c st3 T3 bc e3 h3 s3=>IC (m2.step e3 h3) fun h mi sc nn st4 T4 c1 c2 c3 c4 e4 m4 s4=>?_))
  ·refine hk 1 y mo d 0 0 0 0 0 0 0 st2 T2 (by omega) b1 b2 b3 (by decide) (by decide) (by decide) (by decide) (by decide) (by decide) (by decide) e2 m2 ?_
   by_cases fd:De s
   ·obtain⟨rfl,rfl,rfl,rfl⟩:=s2.1 fd
    have h10:s.drop 10=[]:=by rw[<-hs3 _ rfl];exact g
    have e:tmP s=if okD (d2 s 0*100+d2 s 2) (d2 s 5) (d2 s 8)then((1:Int),((JX (d2 s 0*100+d2 s 2) (d2 s 5) (d2 s 8):Nat):Int),(0:Int),(0:Int),(0:Int))else F2:=by unfold tmP tmD;rw[if_pos fd,if_pos h10]
    exact KL _ (by decide) (by rw[e];exact fin1 _ _ _) h10
   ·obtain rfl:=s2.2 fd
    exact Bv (by rw[IB hnc fd])
  ·obtain⟨x4,hx4,_,hs4⟩:=m4.1.src
   have nofd:¬De s->T4=none:=fun fd=>by
    obtain rfl:=s2.2 fd
    obtain rfl:T3=none:=s3
    exact s4
   have E4:=(e2.trans (Gh e3)).trans e4
   refine Ag hx4 (AG (Ad (fun g4=>?_) fun g4=>Ki m4 fun sg oh om st5 T5 d1 d2 d3 e5 m5 s5=>?_))
   ·refine hk 3 y mo d h mi sc nn 0 0 0 st4 T4 (by omega) b1 b2 b3 c1 c2 c3 c4 (by decide) (by decide) (by decide) E4 m4 ?_
    by_cases fd:De s
    ·obtain⟨rfl,rfl,rfl,rfl⟩:=s2.1 fd
     have hne:s.drop 10≠ []:=fun e=>g (by rw[hs3 _ rfl];exact e)
     by_cases fo:(s.drop 10).getD 0 0∈ [84,116,32]
     ·obtain⟨rfl,_⟩:=s3.pos fo
      have e:=MG fd hne fo
      unfold O6 at s4
      dsimp only at s4
      rw[List.drop_drop]at s4
      cases hc:Ip (s.drop (10+1))with
      | none=>rw[hc]at s4 e;exact s4▸Bv e
      | some p=>
       obtain⟨h',mi',sc',f',r'⟩:=p
       rw[hc]at s4 e
       dsimp only at s4 e
       obtain⟨rfl,rfl,rfl,rfl,rfl⟩:=s4
       have hr:r'=[]:=by rw[<-hs4 _ rfl];exact g4
       unfold tmO at e
       rw[if_pos hr]at e
       exact KL _ (by decide) (by rw[e];exact fin3 _ _ _ _ _ _ _) hr
     ·obtain rfl:=s3.neg fo
      obtain rfl:T4=none:=s4
      exact Bv (MF fd hne fo)
    ·obtain rfl:=nofd fd
     exact Bv (by rw[IB hnc fd])
   ·refine hk 4 y mo d h mi sc nn sg oh om st5 T5 (by omega) b1 b2 b3 c1 c2 c3 c4 d1 d2 d3 (E4.trans e5) m5 ?_
    by_cases fd:De s
    ·obtain⟨rfl,rfl,rfl,rfl⟩:=s2.1 fd
     have hne:s.drop 10≠ []:=fun e=>g (by rw[hs3 _ rfl];exact e)
     by_cases fo:(s.drop 10).getD 0 0∈ [84,116,32]
     ·obtain⟨rfl,_⟩:=s3.pos fo
      have e:=MG fd hne fo
      unfold O6 at s4
      dsimp only at s4
      rw[List.drop_drop]at s4
      cases hc:Ip (s.drop (10+1))with
      | none=>
       rw[hc]at s4 e
       dsimp only at s4
       subst s4
       obtain rfl:T5=none:=s5
       exact Bv e
      | some p=>
       obtain⟨h',mi',sc',f',r'⟩:=p
       rw[hc]at s4 e
       dsimp only at s4 e
       obtain⟨rfl,rfl,rfl,rfl,rfl⟩:=s4
       have hr:r'≠ []:=fun e=>g4 (by rw[hs4 _ rfl];exact e)
       unfold tmO at e
       rw[if_neg hr]at e
       by_cases h5:T5=some []
       ·obtain⟨ls,ho,hl⟩:=s5.1 h5
        rw[ho]at e
        exact⟨fun _=>by rw[e];exact fin4 _ _ _ _ _ _ _ _ _ _ _ hl,fun h=>absurd h5 h⟩
       ·have ho:=s5.2 h5
        rw[ho]at e
        exact⟨fun h=>absurd h h5,fun _=>e⟩
     ·obtain rfl:=s3.neg fo
      obtain rfl:T4=none:=s4
      obtain rfl:T5=none:=s5
      exact Bv (MF fd hne fo)
    ·obtain rfl:=nofd fd
     obtain rfl:T5=none:=s5
     exact Bv (by rw[IB hnc fd])
abbrev KT (K:Int->Int->Int->Int->Int->St->Prop) (r:TmR) (st:St):Prop:=K r.1 r.2.1 r.2.2.1 r.2.2.2.1 r.2.2.2.2 st
theorem Sp {h mi sc nn:Nat} (h1:h<100) (h2:mi<100) (h3:sc<100) (h4:nn<1000000000):
  i64.wrap ((i64.wrap ((i64.wrap ((i64.wrap ((i64.wrap ((i64.wrap (((h:Nat):Int)*60))+((mi:Nat):Int)))*60))+((sc:Nat):Int)))*1000000000))+((nn:Nat):Int))=((Ft h mi sc nn:Nat):Int):=by
 rw[Ar (((h:Nat):Int)*60) (by omega) (by omega),Ar (((h:Nat):Int)*60+((mi:Nat):Int)) (by omega) (by omega),Ar ((((h:Nat):Int)*60+((mi:Nat):Int))*60) (by omega) (by omega),Ar ((((h:Nat):Int)*60+((mi:Nat):Int))*60+((sc:Nat):Int)) (by omega) (by omega),Ar (((((h:Nat):Int)*60+((mi:Nat):Int))*60+((sc:Nat):Int))*1000000000) (by omega) (by omega),Ar _ (by omega) (by omega)]
 unfold Ft;omega
theorem off_w {oh om:Nat} (h1:oh<100) (h2:om<100):i64.wrap ((i64.wrap (((oh:Nat):Int)*60))+((om:Nat):Int))=((oh*60+om:Nat):Int):=by
 rw[Ar (((oh:Nat):Int)*60) (by omega) (by omega),Ar _ (by omega) (by omega)];omega
theorem tP_ok {s:B8} (hl:s.length<=1000000) {st:St} {K:Int->Int->Int->Int->Int->St->Prop} (hk:∀st',Cq st st'->KT K (tmP s) st'):Ae PR BX [.str s] [.agg [.int .i64,.int .i64,.int .i64,.int .i64],.one (.int .i64)] st K:=by
 refine JM s st K (RZ (r:=st.nb) (f:=st.nb+1) (s:=s) ?_ fun n1 y mo d h mi sc nn sg oh om st1 T a1 a2 a3 a4 a5 a6 a7 a8 a9 a10 a11 e1 m1 hF=>?_)
 ·refine⟨⟨?_,?_,hl⟩,?_,?_,?_⟩
  ·simp[St.push];omega
  ·simp[St.push]
  ·simp[St.push]
  ·simp[St.push,fcT]
  ·omega
 ·have E:Cq st st1:=StX.ext (((Cq.refl st).push _ _).push _ _) e1 (by
   rintro i (rfl | rfl)
   ·exact Nat.le_refl _
   ·exact Nat.le_succ _)
  obtain⟨hF1,hF2⟩:=hF
  have cell:∀i v,(fcT y mo d h mi sc nn sg oh om)[i]? =some v->Ab st1 [] (.t (.box (st.nb+1) i)) 0=some v:=fun i v hv=>by
   simp only[Ab,m1.2.2.1,Nat.add_zero];exact hv
  have c0:=cell 0 _ rfl
  have c1:=cell 1 _ rfl
  have c2:=cell 2 _ rfl
  have c3:=cell 3 _ rfl
  have c4:=cell 4 _ rfl
  have c5:=cell 5 _ rfl
  have c6:=cell 6 _ rfl
  have c7:=cell 7 _ rfl
  have c8:=cell 8 _ rfl
  have c9:=cell 9 _ rfl
  clear cell
  obtain⟨hr,t,hb,_,ht⟩:=m1.1.get
  have k0:Ab st1 [] (.t (.box st.nb 0)) 0=some (.str t):=by simp[Ab,hb]
  have k1:Ab st1 [] (.t (.box st.nb 1)) 0=some (.bool T.isNone):=by simp[Ab,hb]
  have bad:T≠some []->K 0 0 0 0 3 st1:=fun hT=>by
   have:=hk st1 E
   rw[hF2 hT]at this;exact this
  refine Ag k1 (Bg (AI (fun g=>bad fun e=>by rw[e]at g;cases g) fun g=>Ag k0 (AG (Ad (fun g1=>bad fun e=>g1 (ht [] e)) fun g1=>?_))))
  have hT:T=some []:=by
   cases T with
   | none=>cases g
   | some x=>rw[<-ht x rfl,Decidable.not_not.1 g1]
  have hV:=hF1 hT
  have hk1:=hk st1 E
  rw[hV]at hk1
  clear hF1 hF2 hV hk bad
  unfold KT KM at hk1
  have tail:(n1≠2->okD y mo d)->∀D:Int,D=(if n1=2 then 0 else((JX y mo d:Nat):Int))->okC h mi sc/\oh<=23/\om<=59->K (n1:Nat) D (Ft h mi sc nn:Nat) (if sg=45 then-((oh*60+om:Nat):Int)else((oh*60+om:Nat):Int)) 0 st1:=fun h0 D hD h1=>by
   subst hD
   rw[if_pos ⟨h0,h1⟩]at hk1;exact hk1
  have out:(¬(okC h mi sc/\oh<=23/\om<=59)∨¬(n1≠2->okD y mo d))->K 0 0 0 0 2 st1:=fun hn=>by
   rw[if_neg (fun g=>by
    rcases hn with hn | hn
    ·exact hn g.2
    ·exact hn g.1)]at hk1
   exact hk1
  have end_:(n1≠2->okD y mo d)->∀D:Int,D=(if n1=2 then 0 else((JX y mo d:Nat):Int))->okC h mi sc/\oh<=23/\om<=59->BIf (decide (((sg:Nat):Int)=45)) (K (n1:Nat) D (Ft h mi sc nn:Nat) (i64.wrap (0-((oh*60+om:Nat):Int))) 0 st1) (K (n1:Nat) D (Ft h mi sc nn:Nat) ((oh*60+om:Nat):Int) 0 st1):=fun h0 D hD h1=>by
   have:=tail h0 D hD h1
   refine Ad (fun g=>?_) fun g=>?_
   ·rw[if_pos (by omega)]at this
    rw[Ar _ (by omega) (by omega),show(0:Int)-((oh*60+om:Nat):Int)= -((oh*60+om:Nat):Int) by omega];exact this
   ·rw[if_neg (by omega)]at this;exact this
  have okc:∀{a b c:Nat},¬(23:Int)<(a:Nat)->¬(59:Int)<(b:Nat)->¬(59:Int)<(c:Nat)->okC a b c:=fun x y z=>⟨by omega,by omega,by omega⟩
  refine Ad (fun g2=>?_) fun g2=>?_
  ·refine Ag c0 (Ak (Ag c1 (Ak (Ag c2 (Ak (cday_ok (by omega) (by omega) (by omega) ?_))))))
   by_cases hD:okD y mo d
   ·rw[if_pos hD,if_pos hD]
    refine Ad (fun g=>absurd rfl g) fun _=>Ag c3 (Ak (Ad (fun g=>out (.inl fun k=>by have:=k.1.1;omega)) fun k1=>Ag c4 (Ak (Ad (fun g=>out (.inl fun k=>by have:=k.1.2.1;omega)) fun k2=>Ag c5 (Ak (Ad (fun g=>out (.inl fun k=>by have:=k.1.2.2;omega)) fun k3=>Ag c8 (Ak (Ad (fun g=>out (.inl fun k=>by have:=k.2.1;omega)) fun k4=>Ag c9 (Ak (Ad (fun g=>out (.inl fun k=>by have:=k.2.2;omega)) fun k5=>?_))))))))))
    refine Ag c3 (Ak (Ag c4 (Ak (Ag c5 (Ak (Ag c6 (Ak (Ag c8 (Ak (Ag c9 (Ak (Ag c7 (Ak ?_)))))))))))))
    rw[Sp a5 a6 a7 a8,off_w a10 a11]
    exact end_ (fun _=>hD) _ (by rw[if_neg (by omega)]) ⟨okc k1 k2 k3,by omega,by omega⟩
   ·rw[if_neg hD,if_neg hD]
    exact Ad (fun _=>out (.inr fun k=>hD (k (by omega)))) fun g=>absurd (by decide) g
  ·refine Ag c3 (Ak (Ad (fun g=>out (.inl fun k=>by have:=k.1.1;omega)) fun k1=>Ag c4 (Ak (Ad (fun g=>out (.inl fun k=>by have:=k.1.2.1;omega)) fun k2=>Ag c5 (Ak (Ad (fun g=>out (.inl fun k=>by have:=k.1.2.2;omega)) fun k3=>Ag c8 (Ak (Ad (fun g=>out (.inl fun k=>by have:=k.2.1;omega)) fun k4=>Ag c9 (Ak (Ad (fun g=>out (.inl fun k=>by have:=k.2.2;omega)) fun k5=>?_))))))))))
   refine Ag c3 (Ak (Ag c4 (Ak (Ag c5 (Ak (Ag c6 (Ak (Ag c8 (Ak (Ag c9 (Ak (Ag c7 (Ak ?_)))))))))))))
   rw[Sp a5 a6 a7 a8,off_w a10 a11]
   exact end_ (fun h=>absurd (by omega) h) _ (by rw[if_pos (by omega)]) ⟨okc k1 k2 k3,by omega,by omega⟩
def likeF (form s:B8):Prop:=form.length<=s.length/\∀i,i<form.length->if form.getD i 0=100 then BB (s.getD i 0)else s.getD i 0=form.getD i 0
instance (form s:B8):Decidable (likeF form s):=inferInstanceAs (Decidable (_/\_))
end Go.TVF
section
namespace Go.TVF
open Go.IntKind(i64 u8)
open Go Go.Proofs Go.RowKit
theorem Sim.grown {g:Ghost} {st:St} {loc:List (Option (List TV))} {w w':World} (s:Sim g st loc w) (h:Below w.heap.size w w'):Sim g st loc w'/\Ext g w g w':=
 s.world h.size (s.below.trans (h.mono s.fits)) h.block
end Go.TVF
end
namespace Go.TVF
open Go.IntKind(i64 u8)
open Go Go.Proofs
def RQ (c:Int):Bool:=decide (97<=c/\c<=122∨65<=c/\c<=90∨48<=c/\c<=57∨c=95∨c=45∨c=43∨c=46∨c=58)
def twl (p:Int->Bool):B8->Nat
 | []=>0
 | c::r=>if p (c.toNat:Int)then twl p r+1 else 0
def digitB (c:Int):Bool:=decide (48<=c/\c<=57)
def patB:List (Option UInt8)->B8->Bool
 | [],_=>true
 | _::_,[]=>false
 | none::ps,c::cs=>digitB (c.toNat:Int)&&patB ps cs
 | some a::ps,c::cs=>decide (c=a)&&patB ps cs
def mkPat (d:UInt8) (p:B8):List (Option UInt8):=p.map fun c=>if c=d then none else some c
def hexD (c:Nat):Option Nat:=if 48<=c/\c<=57 then some (c-48)else if 97<=c/\c<=102 then some (c-87)else if 65<=c/\c<=70 then some (c-55)else none
def hexS:Nat->B8->Nat->Except Int Nat
 | 0,_,acc=> .ok acc
 | k+1,[],acc=> .error 4
 | k+1,c::cs,acc=>match hexD c.toNat with
  | none=> .error 3
  | some d=>hexS k cs (acc*16+d)
def escS (l:B8):Except Int (Nat×Nat):=
 match hexS 4 l 0 with
 | .error e=> .error e
 | .ok n=>
  if 56320<=n/\n<=57343 then .error 5
  else if n<55296∨57343<n then .ok (n,4)
  else if l.length<=4 then .error 4
  else if bt l 4≠92 then .error 5
  else if l.length<=5 then .error 4
  else if bt l 5≠117 then .error 5
  else match hexS 4 (l.drop 6) 0 with
   | .error e=> .error e
   | .ok m=>if m<56320∨57343<m then .error 5 else .ok (65536+(n-55296)*1024+(m-56320),10)
def simE (c:Nat):Option UInt8:=if c=34 then some 34 else if c=92 then some 92 else if c=47 then some 47 else if c=98 then some 8 else if c=102 then some 12 else if c=110 then some 10 else if c=114 then some 13 else if c=116 then some 9 else none
def qF:Nat->Nat->B8->B8->Nat->Except Int (B8×Nat)
 | 0,_,_,_,_=> .error 4
 | f+1,m,l,acc,n=>
  if l.length=0 then .error 4
  else if bt l 0=m then .ok (acc,n+1)
  else if ul l=0∨bt l 0<32 then .error 5
  else if bt l 0≠92∨m=39 then qF f m (l.drop (ul l)) (acc++l.take (ul l)) (n+ul l)
  else if l.length<=1 then .error 4
  else if bt l 1=117 then match escS (l.drop 2)with
   | .error e=> .error e
   | .ok p=>qF f m (l.drop (2+p.2)) (acc++Fb p.1) (n+(2+p.2))
  else match simE (bt l 1)with
   | none=> .error 3
   | some c=>qF f m (l.drop 2) (acc++[c]) (n+2)
def wlen (l:B8):Nat:=if twl RQ l=10/\patB (mkPat 100 [100,100,100,100,45,100,100,45,100,100,32,100,100,58]) l=true then 11+twl RQ (l.drop 11)else twl RQ l
def isX (r:B8):Prop:=r≠ []/\(AR r).length=r.length
def isE (r:B8):Prop:=r=[]∨((r.getD 0 0=101∨r.getD 0 0=69)/\(if (r.drop 1).getD 0 0=45∨(r.drop 1).getD 0 0=43 then isX (r.drop 2)else isX (r.drop 1)))
def isF (r:B8):Prop:=if r.getD 0 0=46 then AR (r.drop 1)≠ []/\isE (r.drop (1+(AR (r.drop 1)).length))else isE r
def isQ (t:B8):Prop:=AR t≠ []/\¬(1<(AR t).length/\t.getD 0 0=48)/\isF (t.drop (AR t).length)
instance (r:B8):Decidable (isX r):=inferInstanceAs (Decidable (_/\_))
instance (r:B8):Decidable (isE r):=by unfold isE;infer_instance
instance (r:B8):Decidable (isF r):=by unfold isF;infer_instance
instance (r:B8):Decidable (isQ r):=by unfold isQ;infer_instance
def scK (k:Nat):Sc:=⟨(k:Nat),false,false,[],0,0,0,0,0,[],[]⟩
theorem RT (st:St) (s:Sc) (h:s.bytes=[]):VlR st (.mk s [] []) (Jb s .nilSlice .nilSlice .nilSlice):=by
 unfold VlR
 refine⟨_,_,_,[],[],rfl,?_,.of_rd (.inl ⟨rfl,rfl,rfl⟩),by unfold VsR;rfl,.of_rd (.inl ⟨rfl,rfl,rfl⟩),by unfold FsR;rfl⟩
 rw[h];exact .of_rd (.inl ⟨rfl,rfl,rfl⟩)
def b64A:B8:=[65,66,67,68,69,70,71,72,73,74,75,76,77,78,79,80,81,82,83,84,85,86,87,88,89,90,97,98,99,100,101,102,103,104,105,106,107,108,109,110,111,112,113,114,115,116,117,118,119,120,121,122,48,49,50,51,52,53,54,55,56,57,43,47]
def fnd:B8->UInt8->Int
 | [],_=> -1
 | a::al,c=>if a=c then 0 else if fnd al c<0 then-1 else fnd al c+1
theorem szl' (s:Sc):(Vl.mk s [] []).sz=1+s.bytes.length+s.text.length+s.dg.length:=by rw[szs];rfl
def tkT (s:B8):Sc:=⟨4,false,false,[],0,0,0,0,0,s,[]⟩
def tkB (b:Bool):Sc:=⟨1,b,false,[],0,0,0,0,0,[],[]⟩
def tkN (neg:Bool) (dg:B8) (ex:Int):Sc:=⟨2,false,neg,dg,ex,0,0,0,0,[],[]⟩
def tkM (k d n z:Int):Sc:=⟨3,false,false,[],0,k,d,n,z,[],[]⟩
theorem Fl:A8 []=0:=Dm _ (by simp[ul])
theorem Nm (l:B8) (m j:Nat):bt (l.take m) j=if j<m then bt l j else 0:=by
 unfold bt
 by_cases h:j<m
 ·rw[if_pos h];simp[List.getD,List.getElem?_take,h]
 ·rw[if_neg h];simp[List.getD,List.getElem?_take,h]
theorem IN (l:B8) (m r0:Nat):∀j,j<m->Cd (l.take m) r0 j=Cd l r0 j
 | 0,_=>rfl
 | j+1,h=>by
  simp only[Cd]
  rw[IN l m r0 j (by omega),Nm,if_pos h]
theorem Qn {l:B8} {m:Nat} (h:ul l≠0) (hm:ul l<=m):ul (l.take m)=ul l/\ur (l.take m)=ur l:=by
 have hne:l≠ []:=fun h0=>h (by simp[ul,h0])
 have hle:=NJ l
 have hne2:l.take m≠ []:=by
  intro h0
  have:=congrArg List.length h0
  rw[List.length_take]at this
  simp only[List.length_nil]at this
  have:0<l.length:=List.length_pos_iff.2 hne
  omega
 have e1:=FJ l hne
 have e2:=FJ (l.take m) hne2
 rw[if_neg h]at e1
 have hs:=Po (bt l 0)
 unfold MR at e1
 simp only at e1
 by_cases g1:l.length<rsz (bt l 0)
 ·rw[if_pos g1]at e1
  simp only[Prod.mk.injEq]at e1;omega
 rw[if_neg g1]at e1
 split at e1
 ·rename_i hc
  simp only[Prod.mk.injEq]at e1
  unfold MR at e2
  simp only at e2
  rw[Nm,if_pos (show 0<m by omega),IN _ _ _ _ (by omega),if_neg (by rw[List.length_take];omega),List.take_take,Nat.min_eq_left (by omega),if_pos hc]at e2
  split at e2
  ·simp only[Prod.mk.injEq]at e2;omega
  ·simp only[Prod.mk.injEq]at e2;omega
 ·simp only[Prod.mk.injEq]at e1;omega
theorem Pb {l:B8} {m:Nat} (h:ul (l.take m)≠0):ul l=ul (l.take m):=by
 have hne2:l.take m≠ []:=fun h0=>h (by simp[ul,h0])
 have hne:l≠ []:=by rintro rfl;simp at hne2
 have hm:0<m:=by rcases Nat.eq_zero_or_pos m with h0 | h0;(rw[h0]at hne2;simp at hne2);exact h0
 have e1:=FJ l hne
 have e2:=FJ (l.take m) hne2
 rw[if_neg h]at e2
 have hs:=Po (bt l 0)
 have hb:bt (l.take m) 0=bt l 0:=by rw[Nm,if_pos hm]
 unfold MR at e2
 simp only[hb]at e2
 split at e2
 ·simp only[Prod.mk.injEq]at e2;omega
 rename_i g1
 rw[List.length_take]at g1
 split at e2
 ·rename_i hc
  simp only[Prod.mk.injEq]at e2
  rw[IN _ _ _ _ (by omega),List.take_take,Nat.min_eq_left (by omega)]at hc
  unfold MR at e1
  simp only at e1
  rw[if_neg (by omega),if_pos hc]at e1
  split at e1
  ·simp only[Prod.mk.injEq]at e1;omega
  ·simp only[Prod.mk.injEq]at e1;omega
 ·simp only[Prod.mk.injEq]at e2;omega
theorem Kc:∀(n:Nat) (a b:B8),a.length<=n->A8 a=a.length->A8 (a++b)=a.length+A8 b:=by
 intro n
 induction n with
 | zero=>intro a b h hv;have:a=[]:=List.eq_nil_of_length_eq_zero (by omega);subst this;simp
 | succ n ih=>
  intro a b h hv
  by_cases ha:a=[]
  ·subst ha;simp
  have hpos:0<a.length:=List.length_pos_iff.2 ha
  have h0:ul a≠0:=fun h0=>by rw[Dm a h0]at hv;omega
  have hle:=NJ a
  have hu:ul (a++b)=ul a:=by
   have:=Pb (l:=a++b) (m:=a.length) (by rw[List.take_left];exact h0)
   rw[List.take_left]at this;exact this
  rw[Fk _ h0]at hv
  rw[Fk _ (by rw[hu];exact h0),hu,List.drop_append_of_le_length hle,ih _ b (by rw[List.length_drop];omega) (by rw[List.length_drop];omega),List.length_drop]
  omega
theorem NC {a b:B8} (ha:A8 a=a.length) (hb:A8 b=b.length):A8 (a++b)=(a++b).length:=by
 rw[Kc _ a b (Nat.le_refl _) ha,List.length_append,hb]
def v64 (c:UInt8):Nat:=(fnd b64A c).toNat
def fin (k eq w:Nat) (pad:Bool) (o:B8):B8×Int:=
 if k%4=0/\eq=0 then(o,0)
 else if 0<eq/\(k%4<2∨4-k%4<eq∨w≠0)then([],3)
 else if k%4=1∨w≠0∨(pad=true/\eq<4-k%4)then([],4)
 else(o,0)
def isD (c:UInt8):Bool:=decide (0<=fnd b64A c)
def lead (s:B8):Nat:=(s.takeWhile isD).length
def nch (c:UInt8):Prop:=BB c∨c=45∨c=43∨c=46∨c=101
instance (c:UInt8):Decidable (nch c):=inferInstanceAs (Decidable (_∨_))
def tkF (t s:B8) (a:Nat) (b:Bool):Prop:=b=false/\(s.drop a).take t.length=t
instance (t s:B8) (a:Nat) (b:Bool):Decidable (tkF t s a b):=inferInstanceAs (Decidable (_/\_))
end Go.TVF
section
namespace Go.TVF
open Go.IntKind(i64 u8)
open Go Go.Proofs Go.ChangeShapes
section
variable {H:Type} {enc:TypeId×Value->H} {P:Program} {w:World} {base:Nat} {held:Bool}
def Op (enc:TypeId×Value->H) (P:Program) (w:World) (base:Nat) (held:Bool) (n c:Nat) (S:List TV->Prop) (e:TypeId):Prop:=
 P.cellsOf e=c/\∀vs x,DataW.trod enc P w base (fun _=>true) held n e vs=some x->∃tv,AM (Ghost.start w) w tv vs/\tv.length=c/\S tv
theorem op_cell {n:Nat} {c:CTy} {e:TypeId} (h:Ny P c e) (hc:P.cellsOf e=1):Op enc P w base held n 1 (flatIs [c]) e:=⟨hc,fun vs x hd=>by
 obtain⟨v,u,rfl,hr,hf⟩:=IS (Ghost.start w) h hd
 exact⟨[v],.cons hr (.nil _ _),rfl,hf⟩⟩
def SlS (c:Nat) (S:List TV->Prop) (v:TV):Prop:=
 v= .nilSlice∨∃cks:List (List TV),v= .list c .non cks.length cks.flatten/\∀ck,ck∈cks->ck.length=c/\S ck
theorem Sj {n c:Nat} {S:List TV->Prop} {t e:TypeId} (ht:P.underlying t=some (.slice e)) (ht1:P.cellsOf t=1) (hc1:1<=c) (hE:∀m,m<n->Op enc P w base held m c S e):
  Op enc P w base held n 1 (fun tv=>∃v,tv=[v]/\SlS c S v) t:=by
 refine⟨ht1,fun vs x h=>?_⟩
 rcases DataW.trod_slice ht h with⟨rfl,_⟩ | ⟨a,len,cap,elems,rest,m,rfl,rfl,rfl,hb,hl,hm,hel,hi,hsp,_⟩
 ·exact⟨[.nilSlice],.cons .nilSlice (.nil _ _),rfl,_,rfl,.inl rfl⟩
 ·obtain⟨hcE,hE⟩:=hE m (by omega)
  rw[hcE]at hi hsp
  by_cases hcap:cap=0
  ·subst hcap
   obtain rfl:len=0:=by omega
   exact⟨[.list c .non 0 []],.cons (.listE _ _ _ (fun id h=>by cases h)) (.nil _ _),rfl,_,rfl,.inr ⟨[],rfl,fun ck h=>by cases h⟩⟩
  ·obtain⟨b,o,spot⟩:=a
   have hspot:spot=none:=by
    have key:∀(i:Nat) (l:List (DataW H×List MemPlace)) (k:Nat),k<l.length->i=0->(w.cells? base ((⟨b,o,spot⟩:Addr).add (i*c)) c).bind (DataW.trod enc P w base (fun _=>true) held m e)=l[k]?->spot=none:=by
     intro i l k hk hi0 h
     subst hi0
     rw[List.getElem?_eq_getElem hk]at h
     obtain⟨vs,h1,_⟩:=Option.bind_eq_some_iff.1 h
     obtain⟨_,hvl,hvc⟩:=World.cells?_some h1
     have:=World.cell?_spot ((hvc 0 (by omega)).trans (List.getElem?_eq_getElem (show 0<vs.length by omega)))
     rw[Nat.zero_mul]at this
     exact this
    by_cases h0:0<len
    ·exact key 0 elems 0 (by omega) rfl (hi 0 h0)
    ·obtain⟨hr,hs⟩:=hsp rfl
     exact key _ rest 0 (by omega) (by omega) (hs 0 (by omega))
   subst hspot
   have each:∀i,i<len->∃tv vs,AM (Ghost.start w) w tv vs/\tv.length=c/\S tv/\vs.length=c/\∀j,j<c->w.cell? ⟨b,o+(i*c+j),none⟩=some (vs.getD j Go.undef):=by
    intro i hil
    have h:=hi i hil
    rw[List.getElem?_eq_getElem (by omega)]at h
    obtain⟨vs,h1,h2⟩:=Option.bind_eq_some_iff.1 h
    obtain⟨tv,hr,htl,hf⟩:=hE vs _ h2
    obtain⟨_,hvl,hvc⟩:=World.cells?_some h1
    refine⟨tv,vs,hr,htl,hf,hvl,fun j hj=>?_⟩
    have:=hvc j (by omega)
    rw[Deep.add_add,F0]at this
    rw[this]
    simp[List.getD,show j<vs.length by omega]
   have build:∀k,k<=len->∃cks:List (List TV),cks.length=k/\(∀ck,ck∈cks->ck.length=c/\S ck)/\cks.flatten.length=k*c/\∀i (h:i<cks.flatten.length),∃u,w.cell? ⟨b,o+i,none⟩=some u/\Rel (Ghost.start w) w cks.flatten[i] u:=by
    intro k
    induction k with
    | zero=>intro _;exact⟨[],rfl,(fun ck h=>by cases h),by simp,fun i h=>absurd h (Nat.not_lt_zero _)⟩
    | succ k ih=>
     intro hk
     obtain⟨cks,h0,h1,h2,h3⟩:=ih (by omega)
     obtain⟨tv,vs,hr,htl,hf,hvl,hvc⟩:=each k (by omega)
     have hfl:(cks++[tv]).flatten=cks.flatten++tv:=by simp
     refine⟨cks++[tv],by simp[h0],fun ck h=>?_,by rw[hfl,List.length_append,h2,htl,Nat.succ_mul],fun i h=>?_⟩
     ·rcases List.mem_append.1 h with h | h
      ·exact h1 ck h
      ·rw[List.mem_singleton.1 h];exact⟨htl,hf⟩
     ·simp only[hfl]at h⊢
      by_cases hix:i<cks.flatten.length
      ·rw[List.getElem_append_left hix];exact h3 i hix
      ·rw[List.getElem_append_right (by omega)]
       rw[List.length_append]at h
       have hj:i-cks.flatten.length<tv.length:=by omega
       refine⟨vs.getD (i-cks.flatten.length) Go.undef,?_,hr.2 _ hj⟩
       have:=hvc (i-cks.flatten.length) (by omega)
       rw[show o+i=o+(k*c+(i-cks.flatten.length)) by rw[<-h2];omega]
       exact this
   obtain⟨cks,h0,h1,h2,h3⟩:=build len (Nat.le_refl _)
   refine⟨[.list c .non cks.length cks.flatten],.cons ?_ (.nil _ _),rfl,_,rfl,.inr ⟨cks,rfl,h1⟩⟩
   have hu:∀i,∃u,(h:i<cks.flatten.length)->w.cell? ⟨b,o+i,none⟩=some u/\Rel (Ghost.start w) w cks.flatten[i] u:=fun i=>by
    by_cases h:i<cks.flatten.length
    ·obtain⟨u,hu⟩:=h3 i h
     exact⟨u,fun _=>hu⟩
    ·exact⟨Go.undef,fun h'=>absurd h' h⟩
   rw[h0]
   refine .list _ _ _ _ b o cap (fun i=>Classical.choose (hu i)) h2 hl (fun i hi=>?_) (fun i hi=>(Classical.choose_spec (hu i) hi).2) trivial
   have:=(Classical.choose_spec (hu i) hi).1
   exact⟨⟨rfl,_,this⟩,this⟩
end
end Go.TVF
end
section
namespace Go.TVF
open Go.IntKind(i64 u8)
open Go Go.Proofs Go.ChangeShapes
structure Blk {H:Type} (bk:DataW H->Nat):Prop where
 one:∀d,1<=bk d
 str:∀b,b.length+1<=bk (.lit (.string b))
 sl:∀e s,(e.map bk).sum+1<=bk (.slice e s)
 agg:∀p,(p.map bk).sum+1<=bk (.agg p)
section
variable {H:Type} {enc:TypeId×Value->H} {P:Program} {w:World} {base:Nat} {held:Bool} {bk:DataW H->Nat}
def OpQ (bk:DataW H->Nat) (enc:TypeId×Value->H) (P:Program) (w:World) (base:Nat) (held:Bool) (n c:Nat) (S:Nat->List TV->Prop) (e:TypeId):Prop:=
 P.cellsOf e=c/\∀vs x,DataW.trod enc P w base (fun _=>true) held n e vs=some x->∃tv,AM (Ghost.start w) w tv vs/\tv.length=c/\S (bk x.1) tv
def cellQ (c:CTy) (k:Nat) (tv:List TV):Prop:=flatIs [c] tv/\1<=k
def strQ (k:Nat) (tv:List TV):Prop:=∃l:B8,tv=[.str l]/\l.length<=maxLen/\l.length+1<=k
theorem opq_cell {n:Nat} {c:CTy} {e:TypeId} (hb:Blk bk) (h:Ny P c e) (hc:P.cellsOf e=1):OpQ bk enc P w base held n 1 (cellQ c) e:=⟨hc,fun vs x hd=>by
 obtain⟨v,u,rfl,hr,hf⟩:=IS (Ghost.start w) h hd
 exact⟨[v],.cons hr (.nil _ _),rfl,hf,hb.one _⟩⟩
theorem opq_str {n:Nat} {e:TypeId} (hb:Blk bk) (h:P.underlying e=some .string) (hc:P.cellsOf e=1):OpQ bk enc P w base held n 1 strQ e:=⟨hc,fun vs x hd=>by
 obtain⟨s,rfl,rfl,hs⟩:=DataW.trod_string h hd
 exact⟨[_],.cons (rel_string (Ghost.start w) w s) (.nil _ _),rfl,_,rfl,by rw[Array.length_toList];exact hs,hb.str _⟩⟩
def SlQ (c:Nat) (S:Nat->List TV->Prop) (k:Nat) (v:TV):Prop:=
 v= .nilSlice∨∃ps:List (List TV×Nat),v= .list c .non ps.length (ps.map (·.1)).flatten/\(∀p,p∈ps->p.1.length=c/\S p.2 p.1)/\(ps.map (·.2)).sum+1<=k
theorem opq_slice {n c:Nat} {S:Nat->List TV->Prop} {t e:TypeId} (hb:Blk bk) (ht:P.underlying t=some (.slice e)) (ht1:P.cellsOf t=1) (hc1:1<=c) (hE:∀m,m<n->OpQ bk enc P w base held m c S e):
  OpQ bk enc P w base held n 1 (fun k tv=>∃v,tv=[v]/\SlQ c S k v) t:=by
 refine⟨ht1,fun vs x h=>?_⟩
 rcases DataW.trod_slice ht h with⟨rfl,_⟩ | ⟨a,len,cap,elems,rest,m,rfl,rfl,rfl,hbk,hl,hm,hel,hi,hsp,_⟩
 ·exact⟨[.nilSlice],.cons .nilSlice (.nil _ _),rfl,_,rfl,.inl rfl⟩
 ·obtain⟨hcE,hE⟩:=hE m (by omega)
  rw[hcE]at hi hsp
  have hbs:=hb.sl (elems.map (·.1)) (rest.map (·.1))
  rw[List.map_map]at hbs
  by_cases hcap:cap=0
  ·subst hcap
   obtain rfl:len=0:=by omega
   exact⟨[.list c .non 0 []],.cons (.listE _ _ _ (fun id h=>by cases h)) (.nil _ _),rfl,_,rfl,.inr ⟨[],rfl,(fun ck h=>by cases h),by simp only[List.map_nil,List.sum_nil];omega⟩⟩
  ·obtain⟨b,o,spot⟩:=a
   have hspot:spot=none:=by
    have key:∀(i:Nat) (l:List (DataW H×List MemPlace)) (k:Nat),k<l.length->i=0->(w.cells? base ((⟨b,o,spot⟩:Addr).add (i*c)) c).bind (DataW.trod enc P w base (fun _=>true) held m e)=l[k]?->spot=none:=by
     intro i l k hk hi0 h
     subst hi0
     rw[List.getElem?_eq_getElem hk]at h
     obtain⟨vs,h1,_⟩:=Option.bind_eq_some_iff.1 h
     obtain⟨_,hvl,hvc⟩:=World.cells?_some h1
     have:=World.cell?_spot ((hvc 0 (by omega)).trans (List.getElem?_eq_getElem (show 0<vs.length by omega)))
     rw[Nat.zero_mul]at this
     exact this
    by_cases h0:0<len
    ·exact key 0 elems 0 (by omega) rfl (hi 0 h0)
    ·obtain⟨hr,hs⟩:=hsp rfl
     exact key _ rest 0 (by omega) (by omega) (hs 0 (by omega))
   subst hspot
   have each:∀i (hil:i<len),∃tv vs,AM (Ghost.start w) w tv vs/\tv.length=c/\S (bk (elems[i]'(by omega)).1) tv/\vs.length=c/\∀j,j<c->w.cell? ⟨b,o+(i*c+j),none⟩=some (vs.getD j Go.undef):=by
    intro i hil
    have h:=hi i hil
    rw[List.getElem?_eq_getElem (by omega)]at h
    obtain⟨vs,h1,h2⟩:=Option.bind_eq_some_iff.1 h
    obtain⟨tv,hr,htl,hf⟩:=hE vs _ h2
    obtain⟨_,hvl,hvc⟩:=World.cells?_some h1
    refine⟨tv,vs,hr,htl,hf,hvl,fun j hj=>?_⟩
    have:=hvc j (by omega)
    rw[Deep.add_add,F0]at this
    rw[this]
    simp[List.getD,show j<vs.length by omega]
   have build:∀k,k<=len->∃ps:List (List TV×Nat),ps.length=k/\(∀p,p∈ps->p.1.length=c/\S p.2 p.1)/\ps.map (·.2)=(elems.take k).map (fun y=>bk y.1)/\(ps.map (·.1)).flatten.length=k*c/\∀i (h:i<(ps.map (·.1)).flatten.length),∃u,w.cell? ⟨b,o+i,none⟩=some u/\Rel (Ghost.start w) w (ps.map (·.1)).flatten[i] u:=by
    intro k
    induction k with
    | zero=>intro _;exact⟨[],rfl,(fun ck h=>by cases h),by simp,by simp,fun i h=>absurd h (Nat.not_lt_zero _)⟩
    | succ k ih=>
     intro hk
     obtain⟨ps,h0,h1,hm1,h2,h3⟩:=ih (by omega)
     obtain⟨tv,vs,hr,htl,hf,hvl,hvc⟩:=each k (by omega)
     have hfl:((ps++[(tv,bk (elems[k]'(by omega)).1)]).map (·.1)).flatten=(ps.map (·.1)).flatten++tv:=by simp
     refine⟨ps++[(tv,bk (elems[k]'(by omega)).1)],by simp[h0],fun p h=>?_,?_,by rw[hfl,List.length_append,h2,htl,Nat.succ_mul],fun i h=>?_⟩
     ·rcases List.mem_append.1 h with h | h
      ·exact h1 p h
      ·rw[List.mem_singleton.1 h];exact⟨htl,hf⟩
     ·rw[List.map_append,hm1,List.take_succ_eq_append_getElem (by omega),List.map_append];rfl
     ·simp only[hfl]at h⊢
      by_cases hix:i<(ps.map (·.1)).flatten.length
      ·rw[List.getElem_append_left hix];exact h3 i hix
      ·rw[List.getElem_append_right (by omega)]
       rw[List.length_append]at h
       have hj:i-(ps.map (·.1)).flatten.length<tv.length:=by omega
       refine⟨vs.getD (i-(ps.map (·.1)).flatten.length) Go.undef,?_,hr.2 _ hj⟩
       have:=hvc (i-(ps.map (·.1)).flatten.length) (by omega)
       rw[show o+i=o+(k*c+(i-(ps.map (·.1)).flatten.length)) by rw[<-h2];omega]
       exact this
   obtain⟨ps,h0,h1,hm1,h2,h3⟩:=build len (Nat.le_refl _)
   refine⟨[.list c .non ps.length (ps.map (·.1)).flatten],.cons ?_ (.nil _ _),rfl,_,rfl,.inr ⟨ps,rfl,h1,?_⟩⟩
   ·have hu:∀i,∃u,(h:i<(ps.map (·.1)).flatten.length)->w.cell? ⟨b,o+i,none⟩=some u/\Rel (Ghost.start w) w (ps.map (·.1)).flatten[i] u:=fun i=>by
     by_cases h:i<(ps.map (·.1)).flatten.length
     ·obtain⟨u,hu⟩:=h3 i h
      exact⟨u,fun _=>hu⟩
     ·exact⟨Go.undef,fun h'=>absurd h' h⟩
    rw[h0]
    refine .list _ _ _ _ b o cap (fun i=>Classical.choose (hu i)) h2 hl (fun i hi=>?_) (fun i hi=>(Classical.choose_spec (hu i) hi).2) trivial
    have:=(Classical.choose_spec (hu i) hi).1
    exact⟨⟨rfl,_,this⟩,this⟩
   ·rw[hm1,List.take_of_length_le (by omega)]
    exact hbs
def Nw (bk:DataW H->Nat) (enc:TypeId×Value->H) (P:Program) (w:World) (base:Nat) (held:Bool) (n:Nat):List (Nat×(Nat->List TV->Prop))->List Field->Nat->Prop
 | [],[],_=>True
 | S::Ss,f::fs,o=>f.offset=o/\OpQ bk enc P w base held n S.1 S.2 f.type/\Nw bk enc P w base held n Ss fs (o+S.1)
 | _,_,_=>False
def EachQ:List (Nat×(Nat->List TV->Prop))->Nat->List TV->Prop
 | [],_,xs=>xs=[]
 | S::Ss,k,xs=>∃a b k1 k2,xs=a++b/\a.length=S.1/\S.2 k1 a/\EachQ Ss k2 b/\k1+k2<=k
def NO:List (Nat×(Nat->List TV->Prop))->Nat
 | []=>0
 | S::Ss=>S.1+NO Ss
theorem Kw {n:Nat} {vs:List Value}:∀(Ss:List (Nat×(Nat->List TV->Prop))) (fs:List Field) (o:Nat) (xs:List (DataW H×List MemPlace)),Nw bk enc P w base held n Ss fs o->xs.length=fs.length->vs.length=o+NO Ss->
  (∀(i:Nat) (f:Field),fs[i]? =some f->DataW.trod enc P w base (fun _=>true) held n f.type ((vs.drop f.offset).take (P.cellsOf f.type))=xs[i]?)->∃tv,AM (Ghost.start w) w tv (vs.drop o)/\tv.length=NO Ss/\EachQ Ss (xs.map (fun y=>bk y.1)).sum tv
 | [],[],o,xs,_,_,hl,_=>⟨[],by rw[List.drop_of_length_le (by simp[NO]at hl;omega)];exact .nil _ _,rfl,rfl⟩
 | S::Ss,f::fs,o,[],_,hx,_,_=>by simp at hx
 | S::Ss,f::fs,o,x::xs,ht,hx,hl,hd=>by
  obtain⟨h1,⟨h2,h3⟩,h4⟩:=ht
  have hd0:=hd 0 f rfl
  rw[h1,h2]at hd0
  obtain⟨tv0,hr,htl,hf⟩:=h3 _ _ hd0
  obtain⟨tv,hr',hl',hf'⟩:=Kw (n:=n) (vs:=vs) Ss fs (o+S.1) xs h4 (by simpa using hx) (by simp only[NO]at hl;omega) (fun i f' hi=>by simpa using hd (i+1) f' (by simpa using hi))
  refine⟨tv0++tv,?_,by simp[hl',htl,NO],tv0,tv,_,_,rfl,htl,hf,hf',by simp only[List.map_cons,List.sum_cons];exact Nat.le_refl _⟩
  have hlt:o+S.1<=vs.length:=by simp only[NO]at hl;omega
  have e:vs.drop o=(vs.drop o).take S.1++vs.drop (o+S.1):=by rw[<-List.drop_drop,List.take_append_drop]
  rw[e]
  exact AM.append hr hr'
 | [],f::fs,o,xs,ht,_,_,_=>ht.elim
 | S::Ss,[],o,xs,ht,_,_,_=>ht.elim
theorem opq_struct {n c:Nat} {Ss:List (Nat×(Nat->List TV->Prop))} {e:TypeId} {fs:Array Field} (hb:Blk bk) (ht:P.underlying e=some (.struct fs)) (hc:P.cellsOf e=c) (hl:NO Ss=c) (hf:∀m,m<n->Nw bk enc P w base held m Ss fs.toList 0):
  OpQ bk enc P w base held n c (fun k tv=>∃k',k'+1<=k/\EachQ Ss k' tv) e:=⟨hc,fun vs x hd=>by
 obtain⟨xs,m,rfl,rfl,hvl,hx,hi⟩:=DataW.trod_struct ht hd
 obtain⟨tv,h1,h2,h3⟩:=Kw (bk:=bk) (enc:=enc) (P:=P) (w:=w) (base:=base) (held:=held) (n:=m) (vs:=vs) Ss fs.toList 0 xs (hf m (by omega)) (by simpa using hx) (by omega) (fun i f h=>hi i f (by simpa using h))
 refine⟨tv,by simpa using h1,by omega,_,?_,h3⟩
 have:=hb.agg (xs.map (·.1))
 rw[List.map_map]at this
 exact this⟩
end
end Go.TVF
end
namespace Go.TVF
open Go.IntKind(i64 u8)
open Go Go.Proofs
section
abbrev decQs:List (Nat×(Nat->List TV->Prop)):=[(1,cellQ .bool),(1,strQ),(1,cellQ (.int .i64))]
abbrev timeQs:List (Nat×(Nat->List TV->Prop)):=[(1,cellQ (.int .i64)),(1,cellQ (.int .i64)),(1,cellQ (.int .i64)),(1,cellQ (.int .i64))]
def valQ (k:Nat) (tv:List TV):Prop:=∃v:Vl,VlR St.zero v tv/\v.sz<=k
def fldQ (k:Nat) (tv:List TV):Prop:=∃d:Fd,FdR St.zero d tv/\d.sz<=k
abbrev Pk (c:Nat) (S:Nat->List TV->Prop) (k:Nat) (tv:List TV):Prop:=∃v,tv=[v]/\SlQ c S k v
abbrev inQ (Ss:List (Nat×(Nat->List TV->Prop))) (k:Nat) (tv:List TV):Prop:=∃k',k'+1<=k/\EachQ Ss k' tv
abbrev valQs:List (Nat×(Nat->List TV->Prop)):=[(1,cellQ (.int .i64)),(1,cellQ .bool),(3,inQ decQs),(4,inQ timeQs),(1,strQ),(1,Pk 1 (cellQ (.int .u8))),(1,Pk 13 valQ),(1,Pk 14 fldQ)]
abbrev fldQs:List (Nat×(Nat->List TV->Prop)):=[(1,strQ),(13,valQ)]
theorem SlQ.bytes {k:Nat} {v:TV} (h:SlQ 1 (cellQ (.int .u8)) k v):∃l:B8,SlR St.zero 1 v l.length (A5 l)/\l.length<=k:=by
 rcases h with rfl | ⟨ps,rfl,h,hk⟩
 ·exact⟨[],.inl (.inl ⟨rfl,rfl,rfl⟩),Nat.zero_le _⟩
 ·have:∃l:B8,l.length=ps.length/\(ps.map (·.1)).flatten=A5 l/\l.length<=(ps.map (·.2)).sum:=by
   clear hk
   induction ps with
   | nil=>exact⟨[],rfl,rfl,Nat.zero_le _⟩
   | cons p r ih=>
    obtain⟨l,h1,h2,h3⟩:=ih (fun q hq=>h q (.tail _ hq))
    obtain⟨hl,⟨n,ys,hp,hw,rfl⟩,h1k⟩:=h p (.head _)
    have hn:0<=n/\n<=255:=by simpa [Lit.wf,IntKind.min,IntKind.max,IntKind.signed,IntKind.bits]using hw
    refine⟨n.toNat.toUInt8::l,by simp[h1],?_,by simp only[List.length_cons,List.map_cons,List.sum_cons];omega⟩
    rw[List.map_cons,List.flatten_cons,hp,h2]
    simp only[A5,List.map_cons,S9,List.cons_append,List.nil_append,List.cons.injEq,and_true,TV.int.injEq,true_and]
    have:=natB_lt n.toNat (by omega)
    omega
  obtain⟨l,h1,h2,h3⟩:=this
  exact⟨l,.inl (.inr ⟨.non,by rw[h1,h2]⟩),by omega⟩
theorem SlQ.vals {k:Nat} {v:TV} (h:SlQ 13 valQ k v):∃l xl,SlR St.zero 13 v l.length xl/\VsR St.zero l xl/\Da l<=k:=by
 rcases h with rfl | ⟨ps,rfl,h,hk⟩
 ·exact⟨[],[],.inl (.inl ⟨rfl,rfl,rfl⟩),by unfold VsR;rfl,by unfold Da;exact Nat.zero_le _⟩
 ·have:∃l:List Vl,l.length=ps.length/\VsR St.zero l (ps.map (·.1)).flatten/\Da l<=(ps.map (·.2)).sum:=by
   clear hk
   induction ps with
   | nil=>exact⟨[],rfl,by unfold VsR;rfl,by unfold Da;exact Nat.zero_le _⟩
   | cons p r ih=>
    obtain⟨l,h1,h2,h3⟩:=ih (fun q hq=>h q (.tail _ hq))
    obtain⟨hl,v,hv,hz⟩:=h p (.head _)
    exact⟨v::l,by simp[h1],by unfold VsR;exact⟨_,_,by simp,hv,h2⟩,by unfold Da;simp only[List.map_cons,List.sum_cons];omega⟩
  obtain⟨l,h1,h2,h3⟩:=this
  exact⟨l,_,.inl (.inr ⟨.non,by rw[h1]⟩),h2,by omega⟩
theorem SlQ.flds {k:Nat} {v:TV} (h:SlQ 14 fldQ k v):∃l xl,SlR St.zero 14 v l.length xl/\FsR St.zero l xl/\Fv l<=k:=by
 rcases h with rfl | ⟨ps,rfl,h,hk⟩
 ·exact⟨[],[],.inl (.inl ⟨rfl,rfl,rfl⟩),by unfold FsR;rfl,by unfold Fv;exact Nat.zero_le _⟩
 ·have:∃l:List Fd,l.length=ps.length/\FsR St.zero l (ps.map (·.1)).flatten/\Fv l<=(ps.map (·.2)).sum:=by
   clear hk
   induction ps with
   | nil=>exact⟨[],rfl,by unfold FsR;rfl,by unfold Fv;exact Nat.zero_le _⟩
   | cons p r ih=>
    obtain⟨l,h1,h2,h3⟩:=ih (fun q hq=>h q (.tail _ hq))
    obtain⟨hl,v,hv,hz⟩:=h p (.head _)
    exact⟨v::l,by simp[h1],by unfold FsR;exact⟨_,_,by simp,hv,h2⟩,by unfold Fv;simp only[List.map_cons,List.sum_cons];omega⟩
  obtain⟨l,h1,h2,h3⟩:=this
  exact⟨l,_,.inl (.inr ⟨.non,by rw[h1]⟩),h2,by omega⟩
theorem Ea {kd:IntKind} {k:Nat} {tv:List TV} (h:cellQ (.int kd) k tv):∃n,tv=[.int kd n]:=by
 obtain⟨⟨n,ys,rfl,_,rfl⟩,_⟩:=h;exact⟨n,rfl⟩
theorem Lc {k:Nat} {tv:List TV} (h:cellQ .bool k tv):∃b,tv=[.bool b]:=by
 obtain⟨⟨n,ys,rfl,rfl⟩,_⟩:=h;exact⟨n,rfl⟩
theorem each_field {k:Nat} {tv:List TV} (h:inQ fldQs k tv):fldQ k tv:=by
 obtain⟨k0,hk0,_,_,k1,k2,rfl,_,⟨key,rfl,_,hkey⟩,⟨_,_,k3,k4,rfl,_,⟨v,hv,hz⟩,rfl,h2⟩,h1⟩:=h
 refine⟨.mk key v,by unfold FdR;exact⟨_,by simp,hv⟩,by unfold Fd.sz;omega⟩
theorem each_value {k:Nat} {tv:List TV} (h:inQ valQs k tv):valQ k tv:=by
 obtain⟨k0,hk0,_,_,a1,r1,rfl,_,q1,⟨_,_,a2,r2,rfl,_,q2,⟨_,_,a3,r3,rfl,_,q3,⟨_,_,a4,r4,rfl,_,q4,⟨_,_,a5,r5,rfl,_,q5,⟨_,_,a6,r6,rfl,_,q6,⟨_,_,a7,r7,rfl,_,q7,⟨_,_,a8,r8,rfl,_,q8,rfl,h8⟩,h7⟩,h6⟩,h5⟩,h4⟩,h3⟩,h2⟩,h1⟩:=h
 obtain⟨kd,rfl⟩:=Ea q1
 obtain⟨bo,rfl⟩:=Lc q2
 obtain⟨d0,hd0,_,_,d1,d2,rfl,_,p1,⟨_,_,d3,d4,rfl,_,⟨dg,rfl,_,hdg⟩,⟨_,_,d5,d6,rfl,_,p3,rfl,g3⟩,g2⟩,g1⟩:=q3
 obtain⟨ng,rfl⟩:=Lc p1
 obtain⟨ex,rfl⟩:=Ea p3
 obtain⟨_,_,_,_,_,_,rfl,_,t1,⟨_,_,_,_,rfl,_,t2,⟨_,_,_,_,rfl,_,t3,⟨_,_,_,_,rfl,_,t4,rfl,_⟩,_⟩,_⟩,_⟩:=q4
 obtain⟨tk,rfl⟩:=Ea t1
 obtain⟨td,rfl⟩:=Ea t2
 obtain⟨tn,rfl⟩:=Ea t3
 obtain⟨tz,rfl⟩:=Ea t4
 obtain⟨tx,rfl,_,htx⟩:=q5
 obtain⟨ub,rfl,q6⟩:=q6
 obtain⟨ul,rfl,q7⟩:=q7
 obtain⟨uf,rfl,q8⟩:=q8
 obtain⟨bs,hb,hbl⟩:=q6.bytes
 obtain⟨l,xl,hl,hlv,hlz⟩:=q7.vals
 obtain⟨f,xf,hf,hfv,hfz⟩:=q8.flds
 refine⟨.mk ⟨kd,bo,ng,dg,ex,tk,td,tn,tz,tx,bs⟩ l f,?_,by rw[szs];simp only;omega⟩
 unfold VlR
 exact⟨ub,ul,uf,xl,xf,by simp,hb,hl,hlv,hf,hfv⟩
section
variable {H:Type} {enc:TypeId×Value->H} {P:Program} {w:World} {base b0:Nat} {held:Bool} {bk:DataW H->Nat}
end
end
section
def IsValU (t:TV):Prop:=∃v cs,t= .agg cs/\VlR St.zero v cs
section
variable {H:Type} {enc:TypeId×Value->H} {P:Program} {w:World} {base b0:Nat} {held:Bool} {bk:DataW H->Nat}
theorem open_valU {t:TypeId} {fs:Array Field} {v:Value} {d:DataW H} {p:List MemPlace} (ht:P.underlying t=some (.struct fs)) (hop:∀n,OpQ bk enc P w base held n 13 valQ t)
  (hval:Value.okWide P w .any b0 t v) (h:DataW.Trod enc P w base (fun _=>true) held t v d p):∃tv,Rel (Ghost.start w) w tv v/\IsValU tv:=by
 simp only[Value.okWide,ht]at hval
 obtain⟨vs,rfl,_,_⟩:=hval
 obtain⟨n,hn⟩:=h
 obtain⟨cs,hr,_,vl,hv,hz⟩:=(hop n).2 _ _ hn
 have:=Rel.agg cs vs.toList hr.1 hr.2
 rw[Array.toArray_toList]at this
 exact⟨_,this,vl,cs,rfl,hv⟩
end
end
def scZ:Sc:=⟨0,false,false,[],0,0,0,0,0,[],[]⟩
def CN (l:List Vl):Vl:= .mk {scZ with kind:=6} l []
def Pa (f:List Fd):Vl:= .mk {scZ with kind:=7} [] f
section
inductive Nd where
 | mk (kind:Int) (lead text:B8) (kids:List Nd) (tail:B8)
mutual
def Rl:Nd->Nat
 | .mk _ l t ks tl=>l.length+t.length+tl.length+klen ks
def klen:List Nd->Nat
 | []=>0
 | n::r=>Rl n+klen r
end
mutual
def Gw:Nd->B8
 | .mk _ l t ks tl=>l++t++If ks++tl
def If:List Nd->B8
 | []=>[]
 | n::r=>Gw n++If r
end
mutual
theorem IT:∀n:Nd,(Gw n).length=Rl n
 | .mk _ l t ks tl=>by
  have:=LY ks
  simp only[Gw,Rl,List.length_append];omega
theorem LY:∀ks:List Nd,(If ks).length=klen ks
 | []=>rfl
 | n::r=>by
  have h1:=IT n
  have h2:=LY r
  simp only[If,klen,List.length_append];omega
end
def Jw (k:Int):Bool:=decide (k=2∨k=6∨k=10∨k=11)
mutual
def chk:Nd->Int->Int->Except Int Int
 | .mk k l t ks tl,d,s=>if 192<d then .error 9 else if 524288<=s then .error 10 else if k<1∨11<k then .error 6
  else if Jw k=true/\(ks.length≠0∨tl≠ [])then .error 1 else La ks (d+1) (s+1)
def La:List Nd->Int->Int->Except Int Int
 | [],d,s=> .ok s
 | n::r,d,s=>match chk n d s with | .error e=> .error e | .ok s'=>La r d s'
end
end
section
mutual
theorem K9:∀(n:Nd) {d s e:Int},chk n d s= .error e->e≠0
 | .mk k l t ks tl,d,s,e,h=>by
  unfold chk at h
  split at h
  ·cases h;decide
  split at h
  ·cases h;decide
  split at h
  ·cases h;decide
  split at h
  ·cases h;decide
  exact JF ks h
theorem JF:∀(ks:List Nd) {d s e:Int},La ks d s= .error e->e≠0
 | [],d,s,e,h=>by unfold La at h;cases h
 | n::r,d,s,e,h=>by
  unfold La at h
  split at h
  ·rename_i e1 h1;cases h;exact K9 n h1
  ·exact JF r h
end
def Ml (n:Nd):Int:=match chk n 1 0 with
 | .error e=>e
 | .ok _=>if 1048576<Rl n then 10 else 0
end
end Go.TVF
section
namespace Go.Proofs
open Go.Shelf
def Tryz.lays155_ren:Go.Shelf.Ren:=⟨fun | 155=>146 | 154=>226 | 138=>280 | 165=>275 | 143=>281 | 166=>196 | 197=>282 | 169=>123 | 195=>308 | 218=>309 | 240=>266 | 241=>305 | 219=>310 | 260=>311 | 276=>300 | 277=>321 | 217=>322 | 225=>323 | 224=>324 | 267=>325 | 266=>330 | 314=>331 | n=>n,fun | 9=>9 | 3=>3 | 4=>4 | 72=>188 | 0=>0 | 76=>254 | 105=>308 | 21=>21 | 5=>5 | 70=>186 | 20=>20 | 37=>59 | 75=>253 | 127=>256 | 164=>315 | 46=>267 | 119=>330 | 139=>333 | 138=>332 | 146=>319 | 51=>318 | 80=>190 | n=>n,fun | 1=>0 | 3=>1 | 4=>2 | n=>n⟩
theorem Tryz.lays155:Go.Proofs.Lays.n155 Tryz.prog Tryz.lays155_ren:={
 mixed:=by kernel_rfl
 f138:=Tryz.func280.trans (congrArg some (by kernel_rfl))
 f143:=Tryz.func281.trans (congrArg some (by kernel_rfl))
 f154:=Tryz.func226.trans (congrArg some (by kernel_rfl))
 f155:=Tryz.func146.trans (congrArg some (by kernel_rfl))
 f165:=Tryz.func275.trans (congrArg some (by kernel_rfl))
 f166:=Tryz.func196.trans (congrArg some (by kernel_rfl))
 f169:=Tryz.func123.trans (congrArg some (by kernel_rfl))
 f195:=Tryz.func308.trans (congrArg some (by kernel_rfl))
 f197:=Tryz.func282.trans (congrArg some (by kernel_rfl))
 f217:=Tryz.func322.trans (congrArg some (by kernel_rfl))
 f218:=Tryz.func309.trans (congrArg some (by kernel_rfl))
 f219:=Tryz.func310.trans (congrArg some (by kernel_rfl))
 f224:=Tryz.func324.trans (congrArg some (by kernel_rfl))
 f225:=Tryz.func323.trans (congrArg some (by kernel_rfl))
 f240:=Tryz.func266.trans (congrArg some (by kernel_rfl))
 f241:=Tryz.func305.trans (congrArg some (by kernel_rfl))
 f260:=Tryz.func311.trans (congrArg some (by kernel_rfl))
 f266:=Tryz.func330.trans (congrArg some (by kernel_rfl))
 f267:=Tryz.func325.trans (congrArg some (by kernel_rfl))
 f276:=Tryz.func300.trans (congrArg some (by kernel_rfl))
 f277:=Tryz.func321.trans (congrArg some (by kernel_rfl))
 f314:=Tryz.func331.trans (congrArg some (by kernel_rfl))
 t0:=Tryz.underlying0
 a0:=Tryz.isAgg0
 z0:=Tryz.sizeOf0
 v0:=Tryz.zeroValue0
 t3:=Tryz.underlying3
 a3:=Tryz.isAgg3
 z3:=Tryz.sizeOf3
 v3:=Tryz.zeroValue3
 t4:=Tryz.underlying4
 a4:=Tryz.isAgg4
 z4:=Tryz.sizeOf4
 v4:=Tryz.zeroValue4
 t5:=Tryz.underlying5
 a5:=Tryz.isAgg5
 z5:=Tryz.sizeOf5
 v5:=Tryz.zeroValue5
 t9:=Tryz.underlying9
 a9:=Tryz.isAgg9
 z9:=Tryz.sizeOf9
 v9:=Tryz.zeroValue9
 t20:=Tryz.underlying20
 a20:=Tryz.isAgg20
 z20:=Tryz.sizeOf20
 v20:=Tryz.zeroValue20
 t21:=Tryz.underlying21
 a21:=Tryz.isAgg21
 z21:=Tryz.sizeOf21
 v21:=Tryz.zeroValue21
 t37:=Tryz.underlying59
 a37:=Tryz.isAgg59
 z37:=Tryz.sizeOf59
 v37:=Tryz.zeroValue59
 t46:=Tryz.underlying267
 a46:=Tryz.isAgg267
 z46:=Tryz.sizeOf267
 v46:=Tryz.zeroValue267
 t51:=Tryz.underlying318
 a51:=Tryz.isAgg318
 z51:=Tryz.sizeOf318
 v51:=Tryz.zeroValue318
 t70:=Tryz.underlying186
 a70:=Tryz.isAgg186
 z70:=Tryz.sizeOf186
 v70:=Tryz.zeroValue186
 t72:=Tryz.underlying188
 a72:=Tryz.isAgg188
 z72:=Tryz.sizeOf188
 v72:=Tryz.zeroValue188
 t75:=Tryz.underlying253
 a75:=Tryz.isAgg253
 z75:=Tryz.sizeOf253
 v75:=Tryz.zeroValue253
 t76:=Tryz.underlying254
 a76:=Tryz.isAgg254
 z76:=Tryz.sizeOf254
 v76:=Tryz.zeroValue254
 t105:=Tryz.underlying308
 a105:=Tryz.isAgg308
 z105:=Tryz.sizeOf308
 v105:=Tryz.zeroValue308
 t119:=Tryz.underlying330
 a119:=Tryz.isAgg330
 z119:=Tryz.sizeOf330
 t127:=Tryz.underlying256
 a127:=Tryz.isAgg256
 z127:=Tryz.sizeOf256
 v127:=Tryz.zeroValue256
 t138:=Tryz.underlying332
 a138:=Tryz.isAgg332
 z138:=Tryz.sizeOf332
 v138:=Tryz.zeroValue332
 t139:=Tryz.underlying333
 a139:=Tryz.isAgg333
 z139:=Tryz.sizeOf333
 v139:=Tryz.zeroValue333
 t146:=Tryz.underlying319
 a146:=Tryz.isAgg319
 z146:=Tryz.sizeOf319
 v146:=Tryz.zeroValue319
 t164:=Tryz.underlying315
 a164:=Tryz.isAgg315
 z164:=Tryz.sizeOf315
 v164:=Tryz.zeroValue315
 g1:=by kernel_rfl
 g3:=by kernel_rfl
 g4:=by kernel_rfl}
theorem Tryz.Builder_Extra_155:Builder.Extra Tryz.prog Tryz.lays155_ren:={
 sizeBuilder:=by kernel_rfl
 liesBuilder:=by kernel_rfl
 t5:=Tryz.underlying5
 a5:=Tryz.isAgg5
 z5:=Tryz.sizeOf5
 v5:=Tryz.zeroValue5
 infoByte:=by kernel_rfl
 cellsByte:=by kernel_rfl
 sizeByte:=by kernel_rfl
 neB5:=by decide}
open Go.RowKit Go.Lib in
theorem Tryz.strings_ReplaceAll (s old new:ByteArray) (m:Int) (w:World) (hs:s.size<4294967281) (hm:w.cell? ⟨0,0,none⟩=some (.int .i64 m)) (h1:1<=old.size) (hlen:s.size+Lib.countB s old*new.size<=140737488355328):
  Calls Tryz.prog 146 #[.string s,.string old,.string new] w fun e w'=>
   e= .returned (.string ⟨(Lib.replaceAll s.data.toList old.data.toList new.data.toList).toArray⟩)/\Below w.heap.size w w':=Any.strings_ReplaceAll Tryz.lays155 Tryz.Builder_Extra_155 s old new m w hs hm h1 hlen
end Go.Proofs
end
section
namespace Go.TVF
open Go.IntKind(i64 u8)
open Go Go.Proofs
open Go.RowKit (Below)
def R3 (q:UInt8) (new:B8) (c:UInt8):B8:=if c=q then new else [c]
theorem L0 (q:UInt8) (new:B8):∀s:B8,q∉s->s.flatMap (R3 q new)=s
 | [],_=>rfl
 | c::l,h=>by
  simp only[List.mem_cons,not_or]at h
  rw[List.flatMap_cons,L0 q new l h.2]
  simp[R3,Ne.symm h.1]
theorem Pr {g:Ghost} {w:World} {x y z:TV} {vs:List Value} (h:AM g w [x,y,z] vs):∃v u t,vs=[v,u,t]/\Rel g w x v/\Rel g w y u/\Rel g w z t:=by
 obtain⟨v,h1,h2⟩:=h.get? (i:=0) rfl
 obtain⟨u,h3,h4⟩:=h.get? (i:=1) rfl
 obtain⟨t,h5,h6⟩:=h.get? (i:=2) rfl
 have hl:=h.1
 match vs,hl with
 | [a,b,c],_=>simp at h1 h3 h5;subst h1 h3 h5;exact⟨_,_,_,rfl,h2,h4,h6⟩
end Go.TVF
end
namespace Go.TVF
open Go.IntKind(i64 u8)
open Go Go.Proofs
def letB (c:Int):Bool:=decide (97<=c/\c<=122∨65<=c/\c<=90)
def Gn (c:Int):Bool:=decide (97<=c/\c<=122∨65<=c/\c<=90∨48<=c/\c<=57∨c=43∨c=45∨c=46∨c=58)
def dOk (a b:Int):Bool:=decide (((a=9∨(32<=a/\a<=126))/\33<=b/\b<=126/\a≠b)/\Gn a=false/\Gn b=false)
def lOk (a b c d e:Int):Bool:=decide (1<=a/\a<=48/\1<=b/\b<=65536/\1<=c/\c<=1048576/\0<=d/\d<=1024/\0<=e/\e<=65536)
theorem PW {c:Int} {st:St} {K:Bool->St->Prop} (hk:K (letB c) st):Ae PR DJ [.int .u8 c] [.one (.bool)] st K:=by
 unfold letB at hk
 refine JP c st K ?_
 repeat' first
  | exact F1 (decide_eq_true (by omega)).symm hk
  | exact F1 (decide_eq_false (by omega)).symm hk
  | exact F1 (decide_eq_decide.2 (by omega)) hk
  | refine Ad (fun _=>?_) fun _=>?_
theorem Kn {c:Int} {st:St} {K:Bool->St->Prop} (hk:K (Gn c) st):Ae PR Br [.int .u8 c] [.one (.bool)] st K:=by
 unfold Gn at hk
 refine Iv c st K (PW (AI (fun h=>?_) fun h=>?_))
 ·have h:=of_decide_eq_true h
  exact F1 (decide_eq_true (by omega)).symm hk
 ·have h:=of_decide_eq_false h
  repeat' first
   | exact F1 (decide_eq_true (by omega)).symm hk
   | exact F1 (decide_eq_false (by omega)).symm hk
   | exact F1 (decide_eq_decide.2 (by omega)) hk
   | refine Ad (fun _=>?_) fun _=>?_
theorem Rz {a b:Int} {x y:Bool} {st:St} {K:Bool->St->Prop} (hk:K (dOk a b) st):Ae PR Es [.agg [.int .u8 a,.int .u8 b,.bool x,.bool y]] [.one (.bool)] st K:=by
 unfold dOk at hk
 have no:¬(((a=9∨(32<=a/\a<=126))/\33<=b/\b<=126/\a≠b)/\Gn a=false/\Gn b=false)->K false st:=fun h=>F1 (decide_eq_false h).symm hk
 have yes:((a=9∨(32<=a/\a<=126))/\33<=b/\b<=126/\a≠b)->Gn a=false->K (!Gn b) st:=fun h h1=>by
  cases hb:Gn b with
  | true=>exact no fun hh=>by rw[hb]at hh;exact absurd hh.2.2 (by decide)
  | false=>exact F1 (decide_eq_true ⟨h,h1,hb⟩).symm hk
 refine Ke a b x y st K ?_
 repeat' first
  | exact no (by omega)
  | refine Ad (fun _=>?_) fun _=>?_
 all_goals
  refine Kn (AI (fun h=>?_) fun h=>no fun hh=>by rw[hh.2.1]at h;cases h)
  simp only[Bool.not_eq_true']at h
  exact Kn (yes (by omega) h)
theorem PB {a b c d e:Int} {st:St} {K:Bool->St->Prop} (hk:K (lOk a b c d e) st):Ae PR Er [.agg [.int .i64 a,.int .i64 b,.int .i64 c,.int .i64 d,.int .i64 e]] [.one (.bool)] st K:=by
 unfold lOk at hk
 refine Kd a b c d e st K ?_
 repeat' first
  | exact F1 (decide_eq_false (by omega)).symm hk
  | exact F1 (decide_eq_decide.2 (by omega)) hk
  | refine Ad (fun _=>?_) fun _=>?_
def N3:B8:=[116,114,117,101]
def MN:B8:=[102,97,108,115,101]
def Dj (ty qd:Bool) (s:B8):Sc:=
 if ty=false∨qd=true then tkT s else if s=[]then scK 0 else if s=N3 then tkB true else if s=MN then tkB false
 else if (dcP s).2.2.2=0 then tkN (dcP s).1 (dcP s).2.1 (dcP s).2.2.1
 else if (tmP s).2.2.2.2=0 then tkM (tmP s).1 (tmP s).2.1 (tmP s).2.2.1 (tmP s).2.2.2.1 else tkT s
theorem JG (ty qd:Bool) (s:B8):(Dj ty qd s).bytes=[]:=by
 unfold Dj
 repeat' split
 all_goals rfl
def by_ (s:B8) (i:Nat):Int:=((s.getD i 0).toNat:Int)
def IO (q:Int):B8->Nat->Option Nat
 | [],_=>none
 | [c],i=>if (c.toNat:Int)=q then some (i+1)else none
 | c::c2::l,i=>if (c.toNat:Int)=q then(if (c2.toNat:Int)=q then IO q l (i+2)else some (i+1))else IO q (c2::l) (i+1)
def Sg (a q:Int):B8->Nat->Except Nat Nat
 | [],i=> .ok i
 | c::l,i=>if (c.toNat:Int)=a∨(c.toNat:Int)=10∨(c.toNat:Int)=13 then .ok i else if (c.toNat:Int)=q then .error i else Sg a q l (i+1)
def QE (q:Int) (s:B8) (i:Nat):Option Nat:=IO q (s.drop i) i
def PE (a q:Int) (s:B8) (i:Nat):Except Nat Nat:=Sg a q (s.drop i) i
theorem ES {s:B8} {i:Nat} (h:i<s.length):∃c,s.drop i=c::s.drop (i+1)/\(c.toNat:Int)=by_ s i:=by
 refine⟨s[i],List.drop_eq_getElem_cons h,?_⟩
 unfold by_
 rw[List.getD_eq_getElem?_getD,List.getElem?_eq_getElem h];rfl
theorem Qi {q:Int} {s:B8} {i:Nat} (h:s.length<=i):QE q s i=none:=by
 unfold QE;rw[List.drop_of_length_le h];rfl
theorem O4 {q:Int} {s:B8} {i:Nat} (h:i<s.length) (hb:by_ s i≠q):QE q s i=QE q s (i+1):=by
 obtain⟨c,hd,hc⟩:=ES h
 unfold QE
 rw[hd]
 cases hr:s.drop (i+1)with
 | nil=>simp only[IO];rw[if_neg (by omega)]
 | cons c2 l=>simp only[IO];rw[if_neg (by omega)]
theorem QT {q:Int} {s:B8} {i:Nat} (h:i<s.length) (hb:by_ s i=q) (h2:i+1<s.length->by_ s (i+1)≠q):QE q s i=some (i+1):=by
 obtain⟨c,hd,hc⟩:=ES h
 unfold QE
 rw[hd]
 by_cases hl:i+1<s.length
 ·obtain⟨c2,hd2,hc2⟩:=ES hl
  rw[hd2]
  simp only[IO]
  rw[if_pos (by omega),if_neg (by have:=h2 hl;omega)]
 ·rw[List.drop_of_length_le (by omega)]
  simp only[IO];rw[if_pos (by omega)]
theorem QS {q:Int} {s:B8} {i:Nat} (h:i+1<s.length) (hb:by_ s i=q) (h2:by_ s (i+1)=q):QE q s i=QE q s (i+2):=by
 obtain⟨c,hd,hc⟩:=ES (show i<s.length by omega)
 obtain⟨c2,hd2,hc2⟩:=ES h
 unfold QE
 rw[hd,hd2]
 simp only[IO]
 rw[if_pos (by omega),if_pos (by omega)]
theorem HL {a q:Int} {s:B8} {i:Nat} (h:s.length<=i):PE a q s i= .ok i:=by
 unfold PE;rw[List.drop_of_length_le h];rfl
theorem Nt {a q:Int} {s:B8} {i:Nat} (h:i<s.length) (hb:by_ s i=a∨by_ s i=10∨by_ s i=13):PE a q s i= .ok i:=by
 obtain⟨c,hd,hc⟩:=ES h
 unfold PE;rw[hd];simp only[Sg];rw[if_pos (by rw[hc];exact hb)]
theorem Nv {a q:Int} {s:B8} {i:Nat} (h:i<s.length) (hb:¬(by_ s i=a∨by_ s i=10∨by_ s i=13)) (hq:by_ s i=q):PE a q s i= .error i:=by
 obtain⟨c,hd,hc⟩:=ES h
 unfold PE;rw[hd];simp only[Sg];rw[if_neg (by rw[hc];exact hb),if_pos (by omega)]
theorem Nu {a q:Int} {s:B8} {i:Nat} (h:i<s.length) (hb:¬(by_ s i=a∨by_ s i=10∨by_ s i=13)) (hq:by_ s i≠q):PE a q s i=PE a q s (i+1):=by
 obtain⟨c,hd,hc⟩:=ES h
 unfold PE;rw[hd];simp only[Sg];rw[if_neg (by rw[hc];exact hb),if_neg (by omega)]
def Bm (a q:Int) (s:B8) (i:Nat):Except (Nat×Int) Nat:=
 if i<s.length/\by_ s i=q then(match QE q s (i+1)with | some e=> .ok e | none=> .error (s.length,4))
 else match PE a q s i with | .ok e=> .ok e | .error o=> .error (o,3)
def slc (s:B8) (i e:Nat):B8:=(s.take e).drop i
def JT (q:Int):B8->B8
 | []=>[]
 | [c]=>[c]
 | c::c2::l=>if (c.toNat:Int)=q then c::JT q l else c::JT q (c2::l)
def txt (q:Int) (c:B8):B8:=if c=[]∨by_ c 0≠q then c else JT q ((c.take (c.length-1)).drop 1)
def CE (s:B8) (i:Nat):Except (Nat×Int) Nat:=
 if s.length<=i then .ok 0 else if by_ s i=10 then .ok 1 else if by_ s i≠13 then .error (i,3)else if s.length<=i+1 then .error (s.length,4)else if by_ s (i+1)=10 then .ok 2 else .error (i,3)
def FA (dep nod:Int) (d:Int) (i:Nat) (v:Int):Except (Nat×Int) Int:=if dep<d then .error (i,9)else if nod<=v then .error (i,10)else .ok (v+1)
structure Cx where
 s:B8
 a:Int
 q:Int
 dep:Int
 nod:Int
def Et (x:Cx) (hd:Bool) (i:Nat) (v:Int) (ns:List B8):Except (Nat×Int) (Nat×Int×List B8):=do
 let v1<-if hd then .ok v else FA x.dep x.nod 3 i v
 let e<-Bm x.a x.q x.s i
 let t:=txt x.q (slc x.s i e)
 if (if hd then 1024 else 65536)<t.length then .error (i,10)
 else if hd/\t∈ns then .error (i,8)
 else .ok (e,v1,if hd then t::ns else ns)
def OK (s:B8) (i e:Nat) (mark:List Nd):Nd:= .mk 5 [] [] (.mk 2 [] (slc s i e) [] []::mark) []
def BS (x:Cx) (num:Bool) (wid:Int) (hd:Bool):Nat->List Nd->Nat->Int->List B8->Except (Nat×Int) (Nat×Int×List B8×List Nd)
 | 0,_,_,_,_=> .error (0,0)
 | n+1,acc,i,v,ns=>
  if num/\wid<=acc.length then .error (i,10)else do
   let (e,v1,ns1)<-Et x hd i v ns
   if e<x.s.length/\by_ x.s e=x.a then BS x num wid hd n (acc++[OK x.s i e [.mk 11 [] [x.s.getD e 0] [] []]]) (e+1) v1 ns1
   else do
    let _<-CE x.s e
    .ok (e,v1,ns1,acc++[OK x.s i e []])
def dbl (c:UInt8) (t:B8):B8:=t.flatMap (R3 c [c,c])
theorem Ez (c b:UInt8) (t:B8):dbl c (b::t)=(if b=c then [c,c]else [b])++dbl c t:=by
 simp[dbl,R3]
theorem Rc {q:Int} {c:UInt8} (hc:(c.toNat:Int)=q):∀(n:Nat) (l:B8) (i e:Nat),l.length<=n->IO q l i=some e->∃t rest,l=dbl c t++c::rest/\e=i+(dbl c t).length+1:=by
 have heq:∀b:UInt8,(b.toNat:Int)=q↔b=c:=fun b=>⟨fun h=>UInt8.toNat_inj.1 (by omega),fun h=>by rw[h];exact hc⟩
 intro n
 induction n with
 | zero=>intro l i e hl h;have:l=[]:=List.eq_nil_of_length_eq_zero (by omega);subst this;simp[IO]at h
 | succ n ih=>
  intro l i e hl h
  match l,hl,h with
  | [],_,h=>simp[IO]at h
  | [b],_,h=>
   simp only[IO]at h
   split at h
   ·rename_i hb
    cases h
    exact⟨[],[],by rw[(heq b).1 hb];rfl,rfl⟩
   ·cases h
  | b::b2::l,hl,h=>
   simp only[IO]at h
   split at h
   ·rename_i hb
    have hb:=(heq b).1 hb
    split at h
    ·rename_i hb2
     have hb2:=(heq b2).1 hb2
     obtain⟨t,rest,h1,h2⟩:=ih l (i+2) e (by simp at hl;omega) h
     refine⟨c::t,rest,?_,?_⟩
     ·rw[hb,hb2,h1,Ez];simp
     ·rw[h2,Ez];simp;omega
    ·cases h
     exact⟨[],b2::l,by rw[hb];rfl,rfl⟩
   ·rename_i hb
    have hb:b≠c:=fun h=>hb ((heq b).2 h)
    obtain⟨t,rest,h1,h2⟩:=ih (b2::l) (i+1) e (by simp at hl⊢;omega) h
    refine⟨b::t,rest,?_,?_⟩
    ·rw[h1,Ez,if_neg hb];simp
    ·rw[h2,Ez,if_neg hb];simp;omega
theorem NH {q:Int} {c:UInt8} (hc:(c.toNat:Int)=q):∀t:B8,JT q (dbl c t)=t
 | []=>rfl
 | b::t=>by
  have ih:=NH hc t
  rw[Ez]
  by_cases hb:b=c
  ·subst hb
   simp only[if_true,List.cons_append,List.nil_append,JT]
   rw[if_pos hc,ih]
  ·rw[if_neg hb]
   have hb':(b.toNat:Int)≠q:=fun h=>hb (UInt8.toNat_inj.1 (by omega))
   simp only[List.cons_append,List.nil_append]
   cases hd:dbl c t with
   | nil=>rw[hd]at ih;simp only[JT]at ih⊢;rw[<-ih]
   | cons b2 l=>simp only[JT];rw[if_neg hb',<-hd,ih]
theorem Jm (c:UInt8):∀t:B8,c∉t∨∃a b,t=a++c::b/\c∉a
 | []=> .inl (by simp)
 | d::t=>by
  by_cases h:d=c
  ·exact .inr ⟨[],t,by rw[h];rfl,by simp⟩
  ·rcases Jm c t with h1 | ⟨a,b,h1,h2⟩
   ·exact .inl (by simp[Ne.symm h,h1])
   ·exact .inr ⟨d::a,b,by rw[h1];rfl,by simp[Ne.symm h,h2]⟩
theorem OS {c:UInt8} {t:B8} (h:c∉t):dbl c t=t:=L0 c [c,c] t h
theorem dbl_app (c:UInt8) (a b:B8):dbl c (a++b)=dbl c a++dbl c b:=by simp[dbl]
theorem IY (c:UInt8) (l:B8):∀a:B8,c∉a->Lib.index (a++l) [c,c]=if Lib.index l [c,c]= -1 then-1 else Lib.index l [c,c]+a.length
 | [],_=>by simp
 | d::a,h=>by
  simp only[List.mem_cons,not_or]at h
  have hp: [c,c].isPrefixOf (d::(a++l))=false:=by simp[List.isPrefixOf,h.1]
  rw[List.cons_append,Lib.index,hp,IY c l a h.2]
  have hge:=Lib.index_ge l [c,c]
  by_cases hm:Lib.index l [c,c]= -1
  ·simp[hm]
  ·have:¬(Lib.index l [c,c]+(a.length:Int)= -1):=by omega
   simp[hm,this];omega
theorem count2 (c:UInt8):∀(n:Nat) (t:B8),t.length<=n->Lib.count (dbl c t) [c,c]<=t.length/\Lib.replaceK [c,c] [c] (Lib.count (dbl c t) [c,c]) (dbl c t)=t:=by
 intro n
 induction n with
 | zero=>
  intro t ht
  have:t=[]:=List.eq_nil_of_length_eq_zero (by omega)
  subst this
  have h0:Lib.count (dbl c []) [c,c]=0:=Lib.count_miss (by simp[dbl,Lib.index])
  rw[h0];exact⟨by simp,rfl⟩
 | succ n ih=>
  intro t ht
  rcases Jm c t with h | ⟨a,b,h1,h2⟩
  ·rw[OS h]
   have:Lib.index t [c,c]= -1:=by
    have:=IY c [] t h
    simpa [Lib.index]using this
   rw[Lib.count_miss this]
   exact⟨by simp,rfl⟩
  ·have hd:dbl c t=a++(c::c::dbl c b):=by rw[h1,dbl_app,OS h2,Ez,if_pos rfl];rfl
   have hi:Lib.index (dbl c t) [c,c]=(a.length:Nat):=by
    have h0:Lib.index (c::c::dbl c b) [c,c]=0:=by simp[Lib.index,List.isPrefixOf]
    rw[hd,IY c _ a h2,h0];simp
   have hdr:(dbl c t).drop (a.length+ [c,c].length)=dbl c b:=by
    rw[hd,<-List.drop_drop,List.drop_left];rfl
   have hlen:t.length=a.length+1+b.length:=by rw[h1];simp;omega
   obtain⟨c1,c2⟩:=ih b (by omega)
   rw[Lib.count_hit (by simp) hi,hdr]
   refine⟨by omega,?_⟩
   rw[Nat.add_comm,Lib.replaceK_hit _ _ _ _ _ hi,hdr,c2,hd,List.take_left,h1]
   simp
theorem NI {s t:B8} {c:UInt8} {st:St} {K:B8->St->Prop} (hs:s=dbl c t) (hl:s.length<=2000000000) (hk:K t st):
  Ae PR Dg [.str s,.str [c,c],.str [c]] [.one (.str)] st K:=by
 refine DX (fun _ _=>Tryz.call146 _ _) fun g w vargs sim hr=>?_
 obtain⟨v1,v2,v3,rfl,h1,h2,h3⟩:=Pr hr
 rw[Ce h1,Ce h2,Ce h3]
 obtain⟨_,m,hm⟩:=sim.glob w sim.below
 obtain⟨c1,c2⟩:=count2 c t.length t (Nat.le_refl _)
 have hcB:Lib.countB ⟨s.toArray⟩ ⟨#[c,c]⟩=Lib.count s [c,c]:=rfl
 have hts:t.length<=s.length:=by
  rw[hs]
  clear hs hl h1 c1 c2 hk hcB
  induction t with
  | nil=>simp
  | cons b t ih=>rw[Ez];split<;>simp<;>omega
 refine Calls.mono (Tryz.strings_ReplaceAll ⟨s.toArray⟩ ⟨#[c,c]⟩ ⟨#[c]⟩ m w ?_ hm ?_ ?_) ?_
 ·show s.toArray.size<_
  simp;omega
 ·show 1<=(#[c,c]:Array UInt8).size
  simp
 ·rw[hcB]
  show s.toArray.size+_*(#[c]:Array UInt8).size<=_
  rw[hs]at hl hts⊢
  simp;omega
 ·rintro e w' ⟨rfl,hb⟩
  obtain⟨s',e'⟩:=sim.grown hb
  have hv:Lib.replaceAll s [c,c] [c]=t:=by
   unfold Lib.replaceAll Lib.replace
   rw[if_neg (by simp),hs]
   exact c2
  refine⟨_,rfl,.str t,st,g,hk,s',?_,e'⟩
  show Rel g w' _ (.string ⟨(Lib.replaceAll s [c,c] [c]).toArray⟩)
  rw[hv]
  exact Rel.str _
def Lo (q:Int) (cl:B8):Prop:=cl=[]∨by_ cl 0≠q∨∃c t,(c.toNat:Int)=q/\cl=c::(dbl c t++[c])
theorem Pd {q:Int} {c:UInt8} {t:B8} (hc:(c.toNat:Int)=q):txt q (c::(dbl c t++[c]))=t:=by
 unfold txt
 rw[if_neg (by simp[by_,hc])]
 have:((c::(dbl c t++[c])).take ((c::(dbl c t++[c])).length-1)).drop 1=dbl c t:=by
  simp
 rw[this,NH hc]
def IM (x:Cx) (num:Bool) (wid:Int) (hd:Bool) (i:Nat) (v:Int) (ns:List B8):Except (Nat×Int) (Nat×Int×List B8×Nd×Int):=do
 let v1<-if hd then .ok v else FA x.dep x.nod 2 i v
 let (e,v2,ns2,ks)<-BS x num wid hd (x.s.length+1) [] i v1 ns
 let n<-CE x.s e
 let wid':=if num then wid else(ks.length:Int)
 if (ks.length:Int)<wid' then .error (e,10)else .ok (e+n,v2,ns2,.mk 8 [] [] ks (slc x.s e (e+n)),wid')
def DN (x:Cx) (hdr:Bool):Nat->List Nd->Nat->Int->List B8->Int->Except (Nat×Int) (List Nd)
 | 0,_,_,_,_,_=> .error (0,0)
 | n+1,acc,i,v,ns,wid=>
  if x.s.length<=i then .ok acc else do
   let (i',v',ns',r,wid')<-IM x (!acc.isEmpty) wid (hdr&&acc.isEmpty) i v ns
   DN x hdr n (acc++[r]) i' v' ns' wid'
theorem JK {q:Int} {s:B8}:∀(n i e:Nat),s.length-i<=n->QE q s i=some e->i<e/\e<=s.length:=by
 intro n
 induction n with
 | zero=>intro i e h he;rw[Qi (by omega)]at he;cases he
 | succ n ih=>
  intro i e h he
  by_cases hi:i<s.length
  ·by_cases hb:by_ s i=q
   ·by_cases h2:i+1<s.length/\by_ s (i+1)=q
    ·rw[QS h2.1 hb h2.2]at he
     have:=ih (i+2) e (by omega) he
     omega
    ·rw[QT hi hb (fun h3 h4=>h2 ⟨h3,h4⟩)]at he
     cases he;omega
   ·rw[O4 hi hb]at he
    have:=ih (i+1) e (by omega) he
    omega
  ·rw[Qi (by omega)]at he;cases he
theorem MJ {s:B8} {i e:Nat} (h:i<=e) (h2:e<=s.length):(slc s i e).length=e-i:=by
 unfold slc;rw[List.length_drop,List.length_take];omega
theorem D8 {s:B8} {i e:Nat} (h:i<=e):s.drop i=slc s i e++s.drop e:=by
 unfold slc
 rw[EX]
 have:s.drop e=(s.drop i).drop (e-i):=by rw[List.drop_drop];congr 1;omega
 rw[this,List.take_append_drop]
theorem slc_get {s:B8} {i e:Nat} (h:i<e) (h2:e<=s.length):by_ (slc s i e) 0=by_ s i:=by
 unfold by_ slc
 rw[LZ,List.getD_eq_getElem?_getD,List.getD_eq_getElem?_getD,List.getElem?_take,if_pos (by omega)]
 rfl
theorem slc_one {s:B8} {e:Nat} (h:e<s.length):slc s e (e+1)=[s.getD e 0]:=by
 unfold slc
 rw[EX,Mc _ _ 0 h]
 simp
theorem To {a q:Int} {s:B8}:∀(n i e:Nat),s.length-i<=n->i<=s.length->PE a q s i= .ok e->i<=e/\e<=s.length/\(e<s.length->by_ s e=a∨by_ s e=10∨by_ s e=13)/\(i<e->by_ s i≠q):=by
 intro n
 induction n with
 | zero=>intro i e h hi he;rw[HL (by omega)]at he;cases he;exact⟨by omega,by omega,fun h=>absurd h (by omega),fun h=>absurd h (by omega)⟩
 | succ n ih=>
  intro i e h hi he
  by_cases hl:i<s.length
  ·by_cases hb:by_ s i=a∨by_ s i=10∨by_ s i=13
   ·rw[Nt hl hb]at he;cases he;exact⟨by omega,by omega,fun _=>hb,fun h=>absurd h (by omega)⟩
   ·by_cases hq:by_ s i=q
    ·rw[Nv hl hb hq]at he;cases he
    ·rw[Nu hl hb hq]at he
     obtain⟨h1,h2,h3,_⟩:=ih (i+1) e (by omega) (by omega) he
     exact⟨by omega,h2,h3,fun _=>hq⟩
  ·rw[HL (by omega)]at he;cases he;exact⟨by omega,by omega,fun h=>absurd h (by omega),fun h=>absurd h (by omega)⟩
theorem DC {a q:Int} {s:B8} {i e:Nat} (hi:i<=s.length) (h:Bm a q s i= .ok e):i<=e/\e<=s.length:=by
 unfold Bm at h
 split at h
 ·split at h
  ·rename_i e' he;cases h;have:=JK _ _ _ (Nat.le_refl _) he;omega
  ·cases h
 ·split at h
  ·rename_i e' he;cases h;have:=To _ _ _ (Nat.le_refl _) hi he;omega
  ·cases h
theorem byte_of (q:Int) (s:B8) (i:Nat) (h:i<s.length) (hq:by_ s i=q):∃c:UInt8,(c.toNat:Int)=q/\s.getD i 0=c:=⟨s.getD i 0,hq,rfl⟩
theorem QQ {a q:Int} {s:B8} {i e:Nat} (hi:i<=s.length) (h:Bm a q s i= .ok e):Lo q (slc s i e):=by
 unfold Bm at h
 split at h
 ·rename_i hc
  split at h
  ·rename_i e' he
   cases h
   obtain⟨c,hc1,hc2⟩:=byte_of q s i hc.1 hc.2
   obtain⟨t,rest,h1,h2⟩:=Rc hc1 _ _ _ _ (Nat.le_refl _) he
   right;right
   refine⟨c,t,hc1,?_⟩
   have hle:=JK _ _ _ (Nat.le_refl _) he
   unfold slc
   rw[EX,Mc _ _ 0 hc.1,hc2,h1,show e-i=(dbl c t++[c]).length+1 by simp;omega,List.take_succ_cons]
   congr 1
   rw[show dbl c t++c::rest=(dbl c t++[c])++rest by simp,List.take_left]
  ·cases h
 ·rename_i hc
  split at h
  ·rename_i e' he
   cases h
   have hle:=To _ _ _ (Nat.le_refl _) hi he
   by_cases hlt:i<e
   ·right;left
    rw[slc_get hlt hle.2.1]
    exact hle.2.2.2 hlt
   ·left
    apply List.eq_nil_of_length_eq_zero
    rw[MJ hle.1 hle.2.1];omega
  ·cases h
theorem RV (q:Int):∀(n:Nat) (l:B8),l.length<=n->(JT q l).length<=l.length:=by
 intro n
 induction n with
 | zero=>intro l h;have:l=[]:=List.eq_nil_of_length_eq_zero (by omega);subst this;simp[JT]
 | succ n ih=>
  intro l h
  match l,h with
  | [],_=>simp[JT]
  | [c],_=>simp[JT]
  | c::c2::l,h=>
   simp only[JT]
   split
   ·have:=ih l (by simp at h;omega);simp;omega
   ·have:=ih (c2::l) (by simp at h⊢;omega);simp at this⊢;omega
theorem Qo (q:Int) (c:B8):(txt q c).length<=c.length:=by
 unfold txt
 split
 ·omega
 ·have:=RV q _ ((c.take (c.length-1)).drop 1) (Nat.le_refl _)
  simp at this⊢;omega
theorem GB {s:B8} {e n:Nat} (he:e<=s.length) (h:CE s e= .ok n):e+n<=s.length/\(n=0->e=s.length)/\(0<n->by_ s (e+n-1)=10)/\(e<s.length->by_ s e=10∨by_ s e=13):=by
 unfold CE at h
 split at h
 ·cases h;exact⟨by omega,fun _=>by omega,fun h=>by omega,fun h=>by omega⟩
 split at h
 ·rename_i h1 h2;cases h;exact⟨by omega,fun h=>by omega,fun _=>by simpa using h2,fun _=> .inl h2⟩
 split at h
 ·cases h
 split at h
 ·cases h
 split at h
 ·rename_i h1 h2 h3 h4 h5;cases h;exact⟨by omega,fun h=>by omega,fun _=>by simpa using h5,fun _=> .inr (Decidable.not_not.1 h3)⟩
 ·cases h
inductive Jf (a q:Int) (s:B8):Nat->List Nd->Nat->Nat->Prop where
 | last {i e n:Nat}:Bm a q s i= .ok e->¬(e<s.length/\by_ s e=a)->CE s e= .ok n->Jf a q s i [OK s i e []] e n
 | more {i e f n:Nat} {ks:List Nd}:Bm a q s i= .ok e->e<s.length->by_ s e=a->Jf a q s (e+1) ks f n->Jf a q s i (OK s i e [.mk 11 [] [s.getD e 0] [] []]::ks) f n
inductive Je (a q:Int) (s:B8):Nat->List Nd->Prop where
 | nil {i:Nat}:s.length<=i->Je a q s i []
 | cons {i e n:Nat} {ks rs:List Nd}:i<s.length->Jf a q s i ks e n->Je a q s (e+n) rs->Je a q s i (.mk 8 [] [] ks (slc s e (e+n))::rs)
theorem Jf.le {a q:Int} {s:B8} {i:Nat} {ks:List Nd} {e n:Nat} (h:Jf a q s i ks e n):i<=s.length->i<=e/\e+n<=s.length/\1<=ks.length/\ks.length<=e-i+1/\CE s e= .ok n:=by
 induction h with
 | last h1 h2 h3=>intro hi;have:=DC hi h1;have:=GB this.2 h3;exact⟨by omega,by omega,by simp,by simp,h3⟩
 | more h1 h2 h3 h4 ih=>intro hi;have:=DC hi h1;have ih:=ih (by omega);refine⟨by omega,by omega,by simp,?_,ih.2.2.2.2⟩;rw[List.length_cons];omega
theorem Jf.text {a q:Int} {s:B8} {i:Nat} {ks:List Nd} {e n:Nat} (h:Jf a q s i ks e n):i<=s.length->If ks=slc s i e:=by
 induction h with
 | last h1 h2 h3=>intro hi;simp[If,Gw,OK]
 | @more i e e' n ks h1 h2 h3 h4 ih=>
  intro hi
  have hl:=DC hi h1
  have hl2:=h4.le (by omega)
  simp only[If,Gw,OK,List.nil_append,List.append_nil]
  rw[ih (by omega),<-slc_one h2]
  have e1:=D8 (s:=s) (i:=i) (e:=e') (by omega)
  have e2:=D8 (s:=s) (i:=i) (e:=e) (by omega)
  have e3:=D8 (s:=s) (i:=e) (e:=e+1) (by omega)
  have e4:=D8 (s:=s) (i:=e+1) (e:=e') (by omega)
  rw[e2,e3,e4,<-List.append_assoc,<-List.append_assoc]at e1
  have:=List.append_inj_left' e1 rfl
  rw[<-this,List.append_assoc]
theorem Je.text {a q:Int} {s:B8} {i:Nat} {rs:List Nd} (h:Je a q s i rs):i<=s.length->If rs=s.drop i:=by
 induction h with
 | nil h=>intro hi;rw[List.drop_of_length_le h];rfl
 | @cons i e n ks rs h1 h2 h3 ih=>
  intro hi
  have hl:=h2.le (by omega)
  simp only[If,Gw,List.nil_append]
  rw[ih (by omega),h2.text (by omega),List.append_assoc,<-D8 (by omega),<-D8 (by omega)]
def EntF (a q:Int) (n:Nd):Prop:=∃c mark,n= .mk 5 [] [] (.mk 2 [] c [] []::mark) []/\Lo q c/\(mark=[]∨∃b:UInt8,(b.toNat:Int)=a/\mark=[.mk 11 [] [b] [] []])
def RecF (a q:Int) (n:Nd):Prop:=∃ks t,n= .mk 8 [] [] ks t/\1<=ks.length/\∀k∈ks,EntF a q k
theorem Jf.form {a q:Int} {s:B8} {i:Nat} {ks:List Nd} {e n:Nat} (h:Jf a q s i ks e n):i<=s.length->∀k∈ks,EntF a q k:=by
 induction h with
 | last h1 h2 h3=>intro hi k hk;rw[List.mem_singleton]at hk;subst hk;exact⟨_,_,rfl,QQ hi h1,.inl rfl⟩
 | @more i e e' n ks h1 h2 h3 h4 ih=>
  intro hi k hk
  have hl:=DC hi h1
  rcases List.mem_cons.1 hk with rfl | hk
  ·exact⟨_,_,rfl,QQ hi h1,.inr ⟨s.getD e 0,h3,rfl⟩⟩
  ·exact ih (by omega) k hk
theorem Je.form {a q:Int} {s:B8} {i:Nat} {rs:List Nd} (h:Je a q s i rs):i<=s.length->∀r∈rs,RecF a q r:=by
 induction h with
 | nil h=>intro hi r hr;cases hr
 | @cons i e n ks rs h1 h2 h3 ih=>
  intro hi r hr
  have hl:=h2.le (by omega)
  rcases List.mem_cons.1 hr with rfl | hr
  ·exact⟨_,_,rfl,hl.2.2.1,h2.form (by omega)⟩
  ·exact ih (by omega) r hr
def A2:Nd->List Nd | .mk _ _ _ ks _=>ks
def Cy (n:Nd):B8:=match A2 n with | .mk _ _ c _ _::_=>c | []=>[]
theorem Fx (s:B8) (i e:Nat) (m:List Nd):Cy (OK s i e m)=slc s i e:=rfl
theorem KU {x:Cx} {i:Nat} {v:Int} {ns:List B8} {e:Nat} {v1:Int} {ns1:List B8} (h:Et x false i v ns= .ok (e,v1,ns1)):
  3<=x.dep/\v<x.nod/\v1=v+1/\ns1=ns/\Bm x.a x.q x.s i= .ok e/\(txt x.q (slc x.s i e)).length<=65536:=by
 simp only[Et,FA,Bool.false_eq_true,if_false,false_and]at h
 split at h
 ·cases h
 ·split at h
  ·cases h
  ·simp only[bind,Except.bind]at h
   split at h
   ·cases h
   ·rename_i e' he
    split at h
    ·cases h
    ·cases h
     exact⟨by omega,by omega,rfl,rfl,he,by omega⟩
theorem entE_of {x:Cx} {i:Nat} {v:Int} {ns:List B8} {e:Nat} (h1:3<=x.dep) (h2:v<x.nod) (h3:Bm x.a x.q x.s i= .ok e) (h4:(txt x.q (slc x.s i e)).length<=65536):
  Et x false i v ns= .ok (e,v+1,ns):=by
 simp only[Et,FA,Bool.false_eq_true,if_false,false_and]
 rw[if_neg (by omega),if_neg (by omega)]
 simp only[bind,Except.bind,h3]
 rw[if_neg (by omega)]
theorem entE_9 {x:Cx} {i:Nat} {v:Int} {ns:List B8} (h:x.dep<3):Et x false i v ns= .error (i,9):=by
 simp only[Et,FA,Bool.false_eq_true,if_false]
 rw[if_pos h];rfl
theorem entE_10 {x:Cx} {i:Nat} {v:Int} {ns:List B8} (h:3<=x.dep) (h2:x.nod<=v):Et x false i v ns= .error (i,10):=by
 simp only[Et,FA,Bool.false_eq_true,if_false]
 rw[if_neg (by omega),if_pos h2];rfl
theorem L9 {x:Cx} {i:Nat} {v:Int} {ns:List B8} {e:Nat} {v1:Int} {ns1:List B8} (h:Et x true i v ns= .ok (e,v1,ns1)):
  v1=v/\Bm x.a x.q x.s i= .ok e/\(txt x.q (slc x.s i e)).length<=1024:=by
 simp only[Et,if_true,true_and]at h
 simp only[bind,Except.bind]at h
 split at h
 ·cases h
 ·rename_i e' he
  split at h
  ·cases h
  ·split at h
   ·cases h
   ·cases h
    exact⟨rfl,he,by omega⟩
abbrev Cx.lim (x:Cx) (d n:Int):Cx:={x with dep:=d,nod:=n}
theorem Ob {x:Cx} {num hd:Bool} {wid:Int}:∀(n:Nat) {acc:List Nd} {i:Nat} {v:Int} {ns:List B8} {e:Nat} {v':Int} {ns':List B8} {out:List Nd},
  i<=x.s.length->BS x num wid hd n acc i v ns= .ok (e,v',ns',out)->∃ks m,out=acc++ks/\Jf x.a x.q x.s i ks e m/\v'=v+(if hd then 0 else(ks.length:Int))/\
   (∀k∈ks,(txt x.q (Cy k)).length<=65536)/\(num=true->(out.length:Int)<=wid)/\(hd=false->3<=x.dep/\v'<=x.nod/\ns'=ns):=by
 intro n
 induction n with
 | zero=>intro acc i v ns e v' ns' out hi h;simp only[BS]at h;cases h
 | succ n ih=>
  intro acc i v ns e v' ns' out hi h
  simp only[BS]at h
  split at h
  ·cases h
  rename_i hw
  simp only[bind,Except.bind]at h
  split at h
  ·cases h
  rename_i p he
  obtain⟨e1,v1,ns1⟩:=p
  have hent:Bm x.a x.q x.s i= .ok e1/\(txt x.q (slc x.s i e1)).length<=65536/\v1=v+(if hd then 0 else 1)/\(hd=false->3<=x.dep/\v1<=x.nod/\ns1=ns):=by
   cases hd with
   | false=>have:=KU he;exact⟨this.2.2.2.2.1,this.2.2.2.2.2,by simpa using this.2.2.1,fun _=>⟨this.1,by omega,this.2.2.2.1⟩⟩
   | true=>have:=L9 he;exact⟨this.2.1,by omega,by simpa using this.1,fun h=>by cases h⟩
  obtain⟨c1,c2,c3,c4⟩:=hent
  have hle:=DC hi c1
  simp only at h
  split at h
  ·rename_i hm
   obtain⟨ks,m,k1,k2,k3,k4,k5,k6⟩:=ih (by omega) h
   refine⟨_::ks,m,by rw[k1,List.append_assoc];rfl,.more c1 hm.1 hm.2 k2,?_,?_,k5,fun hh=>?_⟩
   ·rw[k3,c3];cases hd<;>simp<;>omega
   ·intro k hk
    rcases List.mem_cons.1 hk with rfl | hk
    ·exact c2
    ·exact k4 k hk
   ·have:=k6 hh;have:=c4 hh;exact⟨by omega,by omega,by rw[(k6 hh).2.2,this.2.2]⟩
  ·rename_i hm
   split at h
   ·cases h
   rename_i m hm2
   cases h
   refine⟨_,_,rfl,.last c1 hm hm2,by rw[c3];cases hd<;>simp,?_,?_,fun hh=>⟨(c4 hh).1,(c4 hh).2.1,(c4 hh).2.2⟩⟩
   ·intro k hk
    rw[List.mem_singleton]at hk;subst hk;exact c2
   ·intro hn
    rw[List.length_append,List.length_singleton]
    have:¬wid<=(acc.length:Int):=fun h=>hw ⟨hn,h⟩
    omega
theorem Q7 {x:Cx} {num:Bool} {wid:Int} (d' n':Int):∀(n:Nat) {acc:List Nd} {i:Nat} {v:Int} {ns:List B8},
  BS (x.lim d' n') num wid true n acc i v ns=BS x num wid true n acc i v ns:=by
 intro n
 induction n with
 | zero=>intros;rfl
 | succ n ih=>
  intro acc i v ns
  simp only[BS]
  have:Et (x.lim d' n') true i v ns=Et x true i v ns:=rfl
  rw[this]
  simp only[ih]
theorem Sa {x:Cx} {num:Bool} {wid:Int} {d' n':Int}:∀(n:Nat) {acc:List Nd} {i:Nat} {v:Int} {ns:List B8} {e:Nat} {v':Int} {ns':List B8} {out:List Nd},
  BS x num wid false n acc i v ns= .ok (e,v',ns',out)->v<v'/\(3<=d'->v'<=n'->BS (x.lim d' n') num wid false n acc i v ns= .ok (e,v',ns',out))/\
   (3<=d'->n'<v'->∃o,BS (x.lim d' n') num wid false n acc i v ns= .error (o,10))/\(d'<3->∃o,BS (x.lim d' n') num wid false n acc i v ns= .error (o,9)):=by
 intro n
 induction n with
 | zero=>intro acc i v ns e v' ns' out h;simp only[BS]at h;cases h
 | succ n ih=>
  intro acc i v ns e v' ns' out h
  simp only[BS]at h⊢
  split at h
  ·cases h
  rename_i hw
  rw[if_neg hw]
  simp only[bind,Except.bind]at h⊢
  split at h
  ·cases h
  rename_i p he
  obtain⟨e1,v1,ns1⟩:=p
  obtain⟨c1,c2,rfl,rfl,c3,c4⟩:=KU he
  simp only at h
  have e9:d'<3->Et (x.lim d' n') false i v ns1= .error (i,9):=fun h=>entE_9 h
  have e10:3<=d'->n'<=v->Et (x.lim d' n') false i v ns1= .error (i,10):=fun h h2=>entE_10 h h2
  have eok:3<=d'->v<n'->Et (x.lim d' n') false i v ns1= .ok (e1,v+1,ns1):=fun h h2=>entE_of h h2 c3 c4
  split at h
  ·rename_i hm
   obtain⟨k0,k1,k2,k3⟩:=ih h
   refine⟨by omega,fun h1 h2=>?_,fun h1 h2=>?_,fun h1=>?_⟩
   ·rw[eok h1 (by omega)]
    simp only
    rw[if_pos hm];exact k1 h1 h2
   ·by_cases hv:n'<=v
    ·rw[e10 h1 hv];exact⟨_,rfl⟩
    ·rw[eok h1 (by omega)]
     simp only
     rw[if_pos hm];exact k2 h1 h2
   ·rw[e9 h1];exact⟨_,rfl⟩
  ·rename_i hm
   split at h
   ·cases h
   rename_i m hm2
   cases h
   refine⟨by omega,fun h1 h2=>?_,fun h1 h2=>?_,fun h1=>?_⟩
   ·rw[eok h1 (by omega)]
    simp only
    rw[if_neg hm,hm2]
   ·rw[e10 h1 (by omega)];exact⟨_,rfl⟩
   ·rw[e9 h1];exact⟨_,rfl⟩
def IL (s:B8) (num:Bool) (wid:Int) (R:Except (Nat×Int) (Nat×Int×List B8×List Nd)):Except (Nat×Int) (Nat×Int×List B8×Nd×Int):=
 match R with
 | .error e=> .error e
 | .ok (e,v2,ns2,ks)=>match CE s e with
  | .error e=> .error e
  | .ok n=>if (ks.length:Int)<(if num then wid else(ks.length:Int))then .error (e,10)else .ok (e+n,v2,ns2,.mk 8 [] [] ks (slc s e (e+n)),if num then wid else(ks.length:Int))
theorem H8 (x:Cx) (num:Bool) (wid:Int) (hd:Bool) (i:Nat) (v:Int) (ns:List B8):IM x num wid hd i v ns=
  if hd=true then IL x.s num wid (BS x num wid hd (x.s.length+1) [] i v ns)else match FA x.dep x.nod 2 i v with
   | .error e=> .error e
   | .ok v1=>IL x.s num wid (BS x num wid hd (x.s.length+1) [] i v1 ns):=by
 unfold IM IL
 cases hd with
 | true=>
  simp only[if_true,bind,Except.bind]
  rcases BS x num wid true (x.s.length+1) [] i v ns with e | ⟨e,v2,ns2,ks⟩
  ·rfl
  ·cases h:CE x.s e<;>simp[h]
 | false=>
  simp only[Bool.false_eq_true,if_false,bind,Except.bind]
  cases FA x.dep x.nod 2 i v with
  | error e=>rfl
  | ok v1=>
   simp only
   rcases BS x num wid false (x.s.length+1) [] i v1 ns with e | ⟨e,v2,ns2,ks⟩
   ·rfl
   ·cases h:CE x.s e<;>simp[h]
theorem begE_ok {dep nod d:Int} {i:Nat} {v v1:Int} (h:FA dep nod d i v= .ok v1):v1=v+1:=by
 unfold FA at h
 split at h
 ·cases h
 split at h
 ·cases h
 ·cases h;rfl
theorem En {x:Cx} {num hd:Bool} {wid:Int} {i:Nat} {v:Int} {ns:List B8} {p:Nat×Int×List B8×Nd×Int} (h:IM x num wid hd i v ns= .ok p):
  ∃v1,v1=v+(if hd then 0 else 1)/\IL x.s num wid (BS x num wid hd (x.s.length+1) [] i v1 ns)= .ok p:=by
 rw[H8]at h
 cases hd with
 | true=>exact⟨v,by simp,by simpa using h⟩
 | false=>
  simp only[Bool.false_eq_true,if_false]at h
  split at h
  ·cases h
  ·rename_i v1 h1
   exact⟨v1,by simpa using begE_ok h1,h⟩
theorem H7 {s:B8} {num:Bool} {wid:Int} {R:Except (Nat×Int) (Nat×Int×List B8×List Nd)} {p:Nat×Int×List B8×Nd×Int} (h:IL s num wid R= .ok p):
  ∃e v2 ns2 ks m,R= .ok (e,v2,ns2,ks)/\CE s e= .ok m/\¬(ks.length:Int)<(if num then wid else(ks.length:Int))/\p=(e+m,v2,ns2,.mk 8 [] [] ks (slc s e (e+m)),if num then wid else(ks.length:Int)):=by
 unfold IL at h
 split at h
 ·cases h
 rename_i e v2 ns2 ks
 split at h
 ·cases h
 rename_i m hm
 by_cases hw:(ks.length:Int)<(if num then wid else(ks.length:Int))
 ·rw[if_pos hw]at h;cases h
 ·rw[if_neg hw]at h
  exact⟨e,v2,ns2,ks,m,rfl,hm,hw,(Except.ok.inj h).symm⟩
section
theorem QX (st:St) {a:Int} (c:UInt8) (hc:(c.toNat:Int)=a):(CG st (.list 1 .full 1 [.int .u8 a])).map TV.str=some (.str [c]):=by
 have:UInt8.ofNat a.toNat=c:=by rw[<-hc];simp
 rw[<-this];rfl
def Ik (x:Cx) (i e:Nat):Nd:=OK x.s i e (if e<x.s.length/\by_ x.s e=x.a then [.mk 11 [] [x.s.getD e 0] [] []]else [])
def PS (x:Cx) (hd:Bool) (i:Nat) (v1:Int) (ns:List B8):Except (Nat×Int) (Nat×Int×List B8):=
 match Bm x.a x.q x.s i with
 | .error e=> .error e
 | .ok e=>if (if hd then 1024 else 65536)<(txt x.q (slc x.s i e)).length then .error (i,10)else if hd/\txt x.q (slc x.s i e)∈ns then .error (i,8)
  else .ok (e,v1,if hd then txt x.q (slc x.s i e)::ns else ns)
theorem entE_eq (x:Cx) (hd:Bool) (i:Nat) (v:Int) (ns:List B8):Et x hd i v ns=if hd=true then PS x hd i v ns else match FA x.dep x.nod 3 i v with
  | .error e=> .error e
  | .ok v1=>PS x hd i v1 ns:=by
 unfold Et PS
 cases hd with
 | true=>simp only[if_true,bind,Except.bind];cases Bm x.a x.q x.s i<;>rfl
 | false=>
  simp only[Bool.false_eq_true,if_false,bind,Except.bind]
  cases FA x.dep x.nod 3 i v with
  | error e=>rfl
  | ok v1=>simp only;cases Bm x.a x.q x.s i<;>rfl
section
variable {p m:Nat} {x:Cx} {hd ty:Bool} {l2 l3 l4:Int} {ns:List B8} {I v w o e:Int} {st:St}
end
end
section
theorem Q6 (x:Cx) (num:Bool) (wid:Int) (hd:Bool) (n:Nat) (acc:List Nd) (i:Nat) (v:Int) (ns:List B8):BS x num wid hd (n+1) acc i v ns=
  if num=true/\wid<=(acc.length:Int)then .error (i,10)else match Et x hd i v ns with
   | .error e=> .error e
   | .ok (e,v1,ns1)=>if e<x.s.length/\by_ x.s e=x.a then BS x num wid hd n (acc++[Ik x i e]) (e+1) v1 ns1 else match CE x.s e with
    | .error e=> .error e
    | .ok _=> .ok (e,v1,ns1,acc++[Ik x i e]):=by
 simp only[BS]
 by_cases hw:num=true/\wid<=(acc.length:Int)
 ·rw[if_pos hw,if_pos hw]
 rw[if_neg hw,if_neg hw]
 simp only[bind,Except.bind]
 rcases Et x hd i v ns with e | ⟨e,v1,ns1⟩
 ·rfl
 simp only
 by_cases hm:e<x.s.length/\by_ x.s e=x.a
 ·rw[if_pos hm,if_pos hm]
  unfold Ik;rw[if_pos hm]
 ·rw[if_neg hm,if_neg hm]
  unfold Ik;rw[if_neg hm]
  cases CE x.s e<;>rfl
section
variable {p m:Nat} {x:Cx} {hd ty:Bool} {l2 l3 l4:Int} {ns:List B8} {I v w o e:Int} {st:St}
end
end
theorem Oc {x:Cx} {num hd:Bool} {wid:Int} {i:Nat} {v:Int} {ns:List B8} {i':Nat} {v':Int} {ns':List B8} {r:Nd} {wid':Int} (hi:i<=x.s.length)
  (h:IM x num wid hd i v ns= .ok (i',v',ns',r,wid')):∃ks e m,r= .mk 8 [] [] ks (slc x.s e (e+m))/\i'=e+m/\Jf x.a x.q x.s i ks e m/\v'=v+(if hd then 0 else 1+(ks.length:Int))/\
   (∀k∈ks,(txt x.q (Cy k)).length<=65536)/\(ks.length:Int)=wid'/\(num=true->wid'=wid)/\(hd=false->3<=x.dep/\v'<=x.nod/\ns'=ns):=by
 obtain⟨v1,h1,h⟩:=En h
 obtain⟨e,v2,ns2,ks,m',h2,h3,hw,hp⟩:=H7 h
 simp only[Prod.mk.injEq]at hp
 obtain⟨rfl,rfl,rfl,rfl,rfl⟩:=hp
 obtain⟨ks',m,k1,k2,k3,k4,k5,k6⟩:=Ob _ hi h2
 rw[List.nil_append]at k1
 subst k1
 have hl:=k2.le hi
 rw[hl.2.2.2.2]at h3
 cases h3
 refine⟨_,e,_,rfl,rfl,k2,?_,k4,?_,?_,k6⟩
 ·rw[k3,h1];cases hd<;>simp;omega
 ·cases num with
  | true=>simp only[if_true]at hw⊢;have:=k5 rfl;omega
  | false=>rfl
 ·intro hn;rw[hn];rfl
theorem Q9 {x:Cx} {num:Bool} {wid:Int} (d' n':Int) {i:Nat} {v:Int} {ns:List B8}:IM (x.lim d' n') num wid true i v ns=IM x num wid true i v ns:=by
 rw[H8,H8,if_pos rfl,if_pos rfl]
 have:=Q7 (x:=x) (num:=num) (wid:=wid) d' n' (x.s.length+1) (acc:=[]) (i:=i) (v:=v) (ns:=ns)
 show IL x.s num wid (BS (x.lim d' n') num wid true (x.s.length+1) [] i v ns)=_
 rw[this]
theorem Sb {x:Cx} {num:Bool} {wid:Int} {d' n':Int} {i:Nat} {v:Int} {ns:List B8} {i':Nat} {v':Int} {ns':List B8} {r:Nd} {wid':Int}
  (h:IM x num wid false i v ns= .ok (i',v',ns',r,wid')):v+1<v'/\(3<=d'->v'<=n'->IM (x.lim d' n') num wid false i v ns= .ok (i',v',ns',r,wid'))/\
   (3<=d'->n'<v'->∃o,IM (x.lim d' n') num wid false i v ns= .error (o,10))/\(d'=2->v<n'->∃o,IM (x.lim d' n') num wid false i v ns= .error (o,9)):=by
 obtain⟨v1,h1,h⟩:=En h
 have h1:v1=v+1:=by simpa using h1
 subst h1
 obtain⟨e,v2,ns2,ks,m,h2,h3,hw,hp⟩:=H7 h
 simp only[Prod.mk.injEq]at hp
 obtain⟨rfl,rfl,rfl,rfl,rfl⟩:=hp
 obtain⟨k0,k1,k2,k3⟩:=Sa (d':=d') (n':=n') _ h2
 have b1:2<=d'->v<n'->FA d' n' 2 i v= .ok (v+1):=fun g1 g2=>by unfold FA;rw[if_neg (by omega),if_neg (by omega)]
 have b2:2<=d'->n'<=v->FA d' n' 2 i v= .error (i,10):=fun g1 g2=>by unfold FA;rw[if_neg (by omega),if_pos g2]
 rw[H8]
 simp only[Bool.false_eq_true,if_false]
 refine⟨by omega,fun g1 g2=>?_,fun g1 g2=>?_,fun g1 g2=>?_⟩
 ·rw[b1 (by omega) (by omega)]
  show IL x.s num wid (BS (x.lim d' n') num wid false (x.s.length+1) [] i (v+1) ns)=_
  rw[k1 g1 g2]
  simp only[IL,h3]
  rw[if_neg hw]
 ·by_cases hv:n'<=v
  ·rw[b2 (by omega) hv];exact⟨_,rfl⟩
  ·rw[b1 (by omega) (by omega)]
   obtain⟨o,ho⟩:=k2 g1 g2
   exact⟨o,by show IL x.s num wid (BS (x.lim d' n') num wid false (x.s.length+1) [] i (v+1) ns)=_;rw[ho];rfl⟩
 ·rw[b1 (by omega) (by omega)]
  obtain⟨o,ho⟩:=k3 (by omega)
  exact⟨o,by show IL x.s num wid (BS (x.lim d' n') num wid false (x.s.length+1) [] i (v+1) ns)=_;rw[ho];rfl⟩
def Mj (r:Nd):Int:=1+((A2 r).length:Int)
def Im:List Nd->Int
 | []=>0
 | r::rs=>Mj r+Im rs
theorem FV:∀rs,0<=Im rs
 | []=>by simp[Im]
 | r::rs=>by have:=FV rs;simp only[Im,Mj];omega
def EA (hd:Bool) (rs:List Nd):Int:=if hd then Im rs.tail else Im rs
theorem LL {x:Cx} {num hd:Bool} {wid:Int}:∀(n:Nat) {acc:List Nd} {i:Nat} {v:Int} {ns:List B8} {e:Nat} {v':Int} {ns':List B8} {out:List Nd},
  BS x num wid hd n acc i v ns= .ok (e,v',ns',out)->v'=v+(if hd then 0 else(out.length:Int)-acc.length):=by
 intro n
 induction n with
 | zero=>intro acc i v ns e v' ns' out h;simp only[BS]at h;cases h
 | succ n ih=>
  intro acc i v ns e v' ns' out h
  simp only[BS]at h
  split at h
  ·cases h
  simp only[bind,Except.bind]at h
  split at h
  ·cases h
  rename_i p he
  obtain⟨e1,v1,ns1⟩:=p
  have c3:v1=v+(if hd then 0 else 1):=by
   cases hd with
   | false=>simpa using (KU he).2.2.1
   | true=>simpa using (L9 he).1
  simp only at h
  split at h
  ·have:=ih h
   rw[this,c3]
   cases hd<;>simp
   omega
  ·split at h
   ·cases h
   cases h
   rw[c3]
   cases hd<;>simp
   omega
theorem recE_v1 {x:Cx} {num:Bool} {wid:Int} (n:Nat) {acc:List Nd} {i:Nat} {v:Int} {ns:List B8} {e:Nat} {v':Int} {ns':List B8} {out:List Nd}
  (h:BS x num wid true n acc i v ns= .ok (e,v',ns',out)):v'=v:=by simpa using LL n h
theorem Ra {x:Cx} {num:Bool} {wid:Int} {i:Nat} {v:Int} {ns:List B8} {i':Nat} {v':Int} {ns':List B8} {r:Nd} {wid':Int}
  (h:IM x num wid false i v ns= .ok (i',v',ns',r,wid')):v'=v+Mj r:=by
 obtain⟨v1,h1,h⟩:=En h
 have h1:v1=v+1:=by simpa using h1
 subst h1
 obtain⟨e,v2,ns2,ks,m,h2,h3,hw,hp⟩:=H7 h
 simp only[Prod.mk.injEq]at hp
 obtain⟨rfl,rfl,rfl,rfl,rfl⟩:=hp
 have:=LL _ h2
 simp only[Bool.false_eq_true,if_false,List.length_nil]at this
 simp only[Mj,A2];omega
theorem KZ {x:Cx} {hdr:Bool}:∀(n:Nat) {acc:List Nd} {i:Nat} {v:Int} {ns:List B8} {wid:Int} {out:List Nd},i<=x.s.length->DN x hdr n acc i v ns wid= .ok out->
  ∃rs,out=acc++rs/\Je x.a x.q x.s i rs/\(∀r∈rs,∀k∈A2 r,(txt x.q (Cy k)).length<=65536)/\(∃W:Int,(acc≠ []->W=wid)/\∀r∈rs,((A2 r).length:Int)=W)/\
   (EA (hdr&&acc.isEmpty) rs=0∨3<=x.dep/\v+EA (hdr&&acc.isEmpty) rs<=x.nod):=by
 intro n
 induction n with
 | zero=>intro acc i v ns wid out hi h;simp only[DN]at h;cases h
 | succ n ih=>
  intro acc i v ns wid out hi h
  simp only[DN]at h
  split at h
  ·rename_i hl
   cases h
   exact⟨[],by simp,.nil hl,fun r hr=>(by cases hr),⟨wid,fun _=>rfl,fun r hr=>(by cases hr)⟩,.inl (by unfold EA;cases (hdr&&acc.isEmpty)<;>rfl)⟩
  rename_i hl
  simp only[bind,Except.bind]at h
  split at h
  ·cases h
  rename_i p h1
  obtain⟨i',v',ns',r,wid'⟩:=p
  obtain⟨ks,e,m,rfl,rfl,k2,k3,k4,k5,k6,k7⟩:=Oc hi h1
  have hle:=k2.le hi
  obtain⟨rs,j1,j2,j3,⟨W,j4,j5⟩,j6⟩:=ih (by omega) h
  have hW:W=wid':=j4 (by simp)
  refine⟨_::rs,by rw[j1,List.append_assoc];rfl,.cons (by omega) k2 j2,?_,⟨W,fun hne=>?_,?_⟩,?_⟩
  ·intro r hr
   rcases List.mem_cons.1 hr with rfl | hr
   ·exact k4
   ·exact j3 r hr
  ·rw[hW];exact k6 (by cases acc;exact absurd rfl hne;rfl)
  ·intro r hr
   rcases List.mem_cons.1 hr with rfl | hr
   ·rw[hW];exact k5
   ·exact j5 r hr
  ·have hnil:(hdr&&(acc++[Nd.mk 8 [] [] ks (slc x.s e (e+m))]).isEmpty)=false:=by cases acc<;>simp
   rw[hnil]at j6
   have hcn:=FV rs
   cases hh:(hdr&&acc.isEmpty)with
   | true=>
    rw[hh]at k3 k7
    simp only[EA,if_true,List.tail_cons,Bool.false_eq_true,if_false]at j6 k3⊢
    rcases j6 with j6 | j6
    ·exact .inl j6
    ·right;omega
   | false=>
    rw[hh]at k3 k7
    have k7:=k7 rfl
    simp only[EA,Bool.false_eq_true,if_false,Im,Mj,A2]at j6 k3⊢
    right
    rcases j6 with j6 | j6
    ·exact⟨k7.1,by omega⟩
    ·exact⟨k7.1,by omega⟩
theorem SW {x:Cx} {hdr:Bool} {d' n':Int}:∀(n:Nat) {acc:List Nd} {i:Nat} {v:Int} {ns:List B8} {wid:Int} {out:List Nd},DN x hdr n acc i v ns wid= .ok out->
  ∃rs,out=acc++rs/\((EA (hdr&&acc.isEmpty) rs=0∨3<=d')->v+EA (hdr&&acc.isEmpty) rs<=n'->DN (x.lim d' n') hdr n acc i v ns wid= .ok out)/\
   (0<EA (hdr&&acc.isEmpty) rs->3<=d'->n'<v+EA (hdr&&acc.isEmpty) rs->∃o,DN (x.lim d' n') hdr n acc i v ns wid= .error (o,10))/\
   (0<EA (hdr&&acc.isEmpty) rs->d'=2->v+EA (hdr&&acc.isEmpty) rs<=n'->∃o,DN (x.lim d' n') hdr n acc i v ns wid= .error (o,9)):=by
 intro n
 induction n with
 | zero=>intro acc i v ns wid out h;simp only[DN]at h;cases h
 | succ n ih=>
  intro acc i v ns wid out h
  simp only[DN]at h⊢
  split at h
  ·rename_i hl
   cases h
   have h0:EA (hdr&&acc.isEmpty) []=0:=by unfold EA;cases (hdr&&acc.isEmpty)<;>rfl
   refine⟨[],by simp,?_⟩
   rw[h0]
   exact⟨fun _ _=>by rw[if_pos hl],fun h=>absurd h (by decide),fun h=>absurd h (by decide)⟩
  rename_i hl
  rw[if_neg hl]
  simp only[bind,Except.bind]at h⊢
  split at h
  ·cases h
  rename_i p h1
  obtain⟨i',v',ns',r,wid'⟩:=p
  obtain⟨rs,j1,j2,j3,j4⟩:=ih h
  have hnil:(hdr&&(acc++[r]).isEmpty)=false:=by cases acc<;>simp
  rw[hnil]at j2 j3 j4
  have hcn:=FV rs
  refine⟨r::rs,by rw[j1,List.append_assoc];rfl,?_⟩
  cases hh:(hdr&&acc.isEmpty)with
  | true=>
   rw[hh]at h1
   rw[Q9,h1]
   have hv:v'=v:=by
    obtain⟨v1,h3,h4⟩:=En h1
    have h3:v1=v:=by simpa using h3
    subst h3
    obtain⟨e,v2,ns2,ks,m,h2,h5,hw,hp⟩:=H7 h4
    simp only[Prod.mk.injEq]at hp
    obtain⟨rfl,rfl,rfl,rfl,rfl⟩:=hp
    exact recE_v1 _ h2
   subst hv
   simp only[EA,if_true,List.tail_cons,Bool.false_eq_true,if_false]at j2 j3 j4⊢
   exact⟨j2,j3,j4⟩
  | false=>
   rw[hh]at h1
   have hc:v'=v+Mj r:=Ra h1
   obtain⟨k0,k1,k2,k3⟩:=Sb (d':=d') (n':=n') h1
   simp only[EA,Bool.false_eq_true,if_false,Im]at j2 j3 j4⊢
   refine⟨fun g1 g2=>?_,fun g0 g1 g2=>?_,fun g0 g1 g2=>?_⟩
   ·have:3<=d':=by rcases g1 with g1 | g1;omega;exact g1
    rw[k1 this (by omega)]
    exact j2 (.inr this) (by omega)
   ·by_cases hv:n'<v'
    ·obtain⟨o,ho⟩:=k2 g1 hv
     rw[ho];exact⟨_,rfl⟩
    ·rw[k1 g1 (by omega)]
     by_cases h0:0<Im rs
     ·exact j3 h0 g1 (by omega)
     ·omega
   ·obtain⟨o,ho⟩:=k3 g1 (by omega)
    rw[ho];exact⟨_,rfl⟩
def EZ (x:Cx) (hd:Bool) (l2 l3 l4:Int):Except (Nat×Int) Nd:=
 if dOk x.a x.q=false then .error (0,1)else if lOk x.dep x.nod l2 l3 l4=false then .error (0,1)else if l2<x.s.length then .error (0,10)else if A8 x.s≠x.s.length then .error (A8 x.s,5)
 else match DN x hd (x.s.length+1) [] 0 1 [] 0 with
  | .error e=> .error e
  | .ok rs=> .ok (.mk 1 [] [] rs [])
theorem Rq {s:B8} {i o:Nat} {c:Int} (h:CE s i= .error (o,c)):(o=i/\c=3)∨(o=s.length/\c=4):=by
 unfold CE at h
 repeat' split at h
 all_goals first | cases h | skip
 all_goals simp
theorem chk_ent {a q:Int} {k:Nd} (h:EntF a q k) {s:Int} (hs:s+3<=524288):∃s',chk k 3 s= .ok s'/\s<=s'/\s'<=s+3:=by
 obtain⟨c,mark,rfl,_,hm⟩:=h
 rcases hm with rfl | ⟨b,_,rfl⟩
 ·refine⟨s+1+1,?_,by omega,by omega⟩
  have l2:Jw 2=true:=by decide
  have l5:Jw 5=false:=by decide
  simp only[chk,La,l2,l5,List.length_nil]
  rw[if_neg (by omega),if_neg (by omega),if_neg (by omega),if_neg (by simp),if_neg (by omega),if_neg (by omega),if_neg (by omega),if_neg (by simp)]
 ·refine⟨s+1+1+1,?_,by omega,by omega⟩
  have l2:Jw 2=true:=by decide
  have l5:Jw 5=false:=by decide
  have l11:Jw 11=true:=by decide
  simp only[chk,La,l2,l5,l11,List.length_nil]
  rw[if_neg (by omega),if_neg (by omega),if_neg (by omega),if_neg (by simp),if_neg (by omega),if_neg (by omega),if_neg (by omega),if_neg (by simp)]
  simp only
  rw[if_neg (by omega),if_neg (by omega),if_neg (by omega),if_neg (by simp)]
theorem Mm {a q:Int}:∀(ks:List Nd) (h:∀k∈ks,EntF a q k) {s:Int} (hs:s+3*ks.length<=524288),∃s',La ks 3 s= .ok s'/\s<=s'/\s'<=s+3*ks.length
 | [],h,s,hs=>⟨s,rfl,by omega,by simp⟩
 | k::ks,h,s,hs=>by
  rw[List.length_cons]at hs
  obtain⟨s1,h1,h2,h3⟩:=chk_ent (h k (List.mem_cons_self ..)) (s:=s) (by omega)
  obtain⟨s2,h4,h5,h6⟩:=Mm ks (fun k hk=>h k (List.mem_cons_of_mem _ hk)) (s:=s1) (by omega)
  refine⟨s2,?_,by omega,by rw[List.length_cons];omega⟩
  simp only[La,h1,h4]
theorem RH {a q:Int} {src:B8} {i:Nat} {rs:List Nd} (h:Je a q src i rs):i<=src.length->∀{s:Int},s+7*(src.length-i:Nat)<=524288->∃s',La rs 2 s= .ok s'/\s<=s'/\s'<=s+7*(src.length-i:Nat):=by
 induction h with
 | nil h=>intro hi s hs;exact⟨s,rfl,by omega,by omega⟩
 | @cons i e n ks rs h1 h2 h3 ih=>
  intro hi s hs
  have hle:=h2.le hi
  have hpos:1<=e+n-i:=by
   have:=(GB (by omega) hle.2.2.2.2).2.1
   rcases Nat.eq_zero_or_pos n with h0 | h0
   ·have:=this h0;omega
   ·omega
  obtain⟨s1,j1,j2,j3⟩:=Mm ks (h2.form hi) (s:=s+1) (by omega)
  obtain⟨s2,j4,j5,j6⟩:=ih (by omega) (s:=s1) (by omega)
  have l8:Jw 8=false:=by decide
  refine⟨s2,?_,by omega,by omega⟩
  simp only[La,chk,l8]
  rw[if_neg (by omega),if_neg (by omega),if_neg (by omega),if_neg (by simp)]
  simp only[Int.reduceAdd]
  rw[j1]
  exact j4
theorem Do {x:Cx} {hd:Bool} {l2 l3 l4:Int} {n:Nd} (h:EZ x hd l2 l3 l4= .ok n):∃rs,n= .mk 1 [] [] rs []/\dOk x.a x.q=true/\lOk x.dep x.nod l2 l3 l4=true/\(x.s.length:Int)<=l2/\A8 x.s=x.s.length/\DN x hd (x.s.length+1) [] 0 1 [] 0= .ok rs/\
  Je x.a x.q x.s 0 rs/\(∀r∈rs,∀k∈A2 r,(txt x.q (Cy k)).length<=65536)/\(∃W:Int,∀r∈rs,((A2 r).length:Int)=W):=by
 unfold EZ at h
 split at h
 ·cases h
 rename_i h1
 split at h
 ·cases h
 rename_i h2
 split at h
 ·cases h
 rename_i h3
 split at h
 ·cases h
 rename_i h4
 split at h
 ·cases h
 rename_i rs hr
 cases h
 obtain⟨rs',j1,j2,j3,⟨W,j4,j5⟩,j6⟩:=KZ _ (by omega) hr
 rw[List.nil_append]at j1
 subst j1
 exact⟨_,rfl,by simpa using h1,by simpa using h2,by omega,Decidable.not_not.1 h4,hr,j2,j3,W,j5⟩
abbrev xU (s:B8) (a q:Int):Cx:=⟨s,a,q,48,65536⟩
abbrev MT (s:B8) (a q:Int) (hd:Bool):Except (Nat×Int) Nd:=EZ (xU s a q) hd 1048576 1024 65536
def Si (n:Nd) (a q:Int) (hd:Bool):Prop:=Ml n=0/\MT (Gw n) a q hd= .ok n
theorem S5 {n:Nd} (h:Ml n=0):Rl n<=1048576:=by
 unfold Ml at h
 split at h
 ·rename_i e he;exact absurd h (K9 n he)
 ·split at h
  ·cases h
  ·omega
def RowR {α:Type} (f:α->TV) (v:TV) (row:List α):Prop:=Rd 1 v row.length (row.map f)
section
def recsOf:Nd->List Nd | .mk _ _ _ ks _=>ks
def Ct (q:Int) (c:B8):Bool:=decide (¬(c=[]∨by_ c 0≠q))
section
variable {n:Nd} {cs:List TV} {a q:Int} {hd ty:Bool} {st:St}
end
end
section
theorem dOk_inv {a q:Int} (h:dOk a q=true):(a=9∨(32<=a/\a<=126))/\33<=q/\q<=126/\a≠q:=by
 unfold dOk at h
 exact(of_decide_eq_true h).1
section
variable {a q:Int} {hd ty:Bool} {st:St}
end
end
section
def JU (cs:List B8):Nat:=match cs with | []=>0 | c::r=>c.length+JU r
section
variable {a q:Int} {hd ty:Bool} {st:St}
end
end
section
def HW (l:List (List B8)):Nat:=match l with | []=>0 | r::rs=>JU r+HW rs
def G0 (l:List (List B8)):Nat:=match l with | []=>0 | r::rs=>r.length+G0 rs
theorem R2 {l:List (List B8)} {j:Nat} {r:List B8} (h:l[j]? =some r):JU r<=HW l/\r.length<=G0 l:=by
 induction l generalizing j with
 | nil=>simp at h
 | cons d rs ih=>
  cases j with
  | zero=>simp only[List.getElem?_cons_zero,Option.some.injEq]at h;subst h;simp[HW,G0]
  | succ j=>
   have:=ih (j:=j) (by simpa using h)
   simp only[HW,G0];omega
section
variable {a q:Int} {hd ty:Bool} {st:St}
end
end
section
theorem On {s:B8} {a q:Int} {hd:Bool} {n:Nd} (hl:s.length<=70000) (h:MT s a q hd= .ok n):Gw n=s/\Ml n=0/\Si n a q hd:=by
 obtain⟨rs,rfl,_,_,_,_,_,hr,_⟩:=Do h
 have ht:Gw (.mk 1 [] [] rs [])=s:=by
  have:=Je.text hr (Nat.zero_le _)
  simp only[Gw,List.nil_append,List.append_nil]
  rw[this];rfl
 have hlen:Rl (.mk 1 [] [] rs [])=s.length:=by rw[<-IT,ht]
 have hc:Ml (.mk 1 [] [] rs [])=0:=by
  have hs0:(xU s a q).s.length=s.length:=rfl
  obtain⟨s',h1,h2,h3⟩:=RH hr (Nat.zero_le _) (s:=1) (by rw[hs0];omega)
  have h4:chk (.mk 1 [] [] rs []) 1 0= .ok s':=by
   have l1:Jw 1=false:=by decide
   simp only[chk,l1]
   rw[if_neg (by omega),if_neg (by omega),if_neg (by omega),if_neg (by simp)]
   exact h1
  unfold Ml
  rw[h4]
  simp only
  rw[if_neg (by omega)]
 exact⟨ht,hc,hc,by rw[ht];exact h⟩
section
variable {a q:Int} {hd ty:Bool} {st:St}
end
end
section
theorem R1 {cs:List B8} {c:B8} (h:c∈cs):c.length<=JU cs:=by
 induction cs with
 | nil=>cases h
 | cons d r ih=>
  simp only[JU]
  rcases List.mem_cons.1 h with rfl | h
  ·omega
  ·have:=ih h;omega
section
variable {a q:Int} {hd ty:Bool} {st:St}
end
end
end Go.TVF
