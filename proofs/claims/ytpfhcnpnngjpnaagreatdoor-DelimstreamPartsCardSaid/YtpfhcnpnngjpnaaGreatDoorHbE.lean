/- What the laws below rest on: a framework for Go programs, and contracts of the functions that they reach. -/
import Derived.Test.YtpfhcnpnngjpnaaGreatDoorHbD
import Derived.WideShapes
import Derived.Shelf.Strings.Builder2
import Derived.Shelf.Strings.Replace
import Derived.Test.YtpfhcnpnngjpnaaGreatDoorProg
set_option maxRecDepth 20000
set_option linter.unusedVariables false
set_option linter.unusedSimpArgs false
namespace Go.TVF
open Go.IntKind(i64 u8)
open Go Go.Proofs
theorem Gz {α:Type} {K:α->St->Prop} {a b:α} {st:St} (h:a=b) (hk:K b st):K a st:=h▸hk
def rD (l:B8):Nat×Nat:=if ul l=0 then(0,0)else(ur l,ul l)
theorem VM (l:B8):A7 l<=l.length:=TO _ l (Nat.le_refl _)
theorem VL:A7 []=0:=Cg _ (by simp[ul])
theorem Rd.ldx {sz:Nat} {v:TV} {n:Nat} {xs:List TV} (h:Rd sz v n xs) (st:St) (i j:Nat) {x:TV} (hx:xs[i*sz+j]? =some x):Ab st [] (.t (ixT sz v i)) j=some x:=by
 obtain⟨hlt,hx⟩:=List.getElem?_eq_some_iff.1 hx
 rw[h.ld st i j hlt,hx]
theorem Rd.ldfx {sz:Nat} {v:TV} {n:Nat} {xs:List TV} (h:Rd sz v n xs) (st:St) (i j:Nat) {x:TV} (hx:xs[i*sz+j]? =some x):Ab st [] (.t (Ag (ixT sz v i) j)) 0=some x:=by
 obtain⟨hlt,hx⟩:=List.getElem?_eq_some_iff.1 hx
 rw[h.ldf st i j hlt,hx]
def hdS (b:Nat):Nat:=if b<128 then 1 else if 192<=b/\b<224 then 2 else if 224<=b/\b<240 then 3 else if 240<=b/\b<248 then 4 else 0
def hdB (b:Nat):Nat:=if b<128 then b else if 192<=b/\b<224 then b%32 else if 224<=b/\b<240 then b%16 else if 240<=b/\b<248 then b%8 else 0
def wid (r:Nat):Nat:=if r<128 then 1 else if r<2048 then 2 else if r<65536 then 3 else 4
theorem IG (a m:Nat) (ha:a<256) (hm:m<=8):Cz .and .u8 (a:Int) ((2^m-1:Nat):Int)=((a%2^m:Nat):Int):=by
 have:2^m<=2^8:=Nat.pow_le_pow_right (by decide) hm
 rw[W4 _ _ ha (by omega),Nat.and_two_pow_sub_one_eq_mod]
theorem head_ok {B:Int} {b:Nat} {st:St} {K:Int->Int->St->Prop} (hB:B=(b:Int)) (hb:b<256) (hk:K (hdS b:Nat) (hdB b:Nat) st):Ae PR Ij [.int .u8 B] [.one (.int .i64),.one (.int .i64)] st K:=by
 have m31:Cz .and .u8 B (31:Int)=((b%32:Nat):Int):=by rw[hB];exact IG b 5 hb (by decide)
 have m15:Cz .and .u8 B (15:Int)=((b%16:Nat):Int):=by rw[hB];exact IG b 4 hb (by decide)
 have m7:Cz .and .u8 B (7:Int)=((b%8:Nat):Int):=by rw[hB];exact IG b 3 hb (by decide)
 unfold hdS hdB at hk
 have kk:∀(x y x' y':Int),x=x'->y=y'->K x' y' st->K x y st:=fun x y x' y' h1 h2 hk=>by rw[h1,h2];exact hk
 refine QG B st K ?_
 rw[m31,m15,m7,As B (by omega) (by omega),As ((b%32:Nat):Int) (by omega) (by omega),As ((b%16:Nat):Int) (by omega) (by omega),As ((b%8:Nat):Int) (by omega) (by omega)]
 by_cases g1:b<128
 ·rw[if_pos g1,if_pos g1]at hk
  exact Ac (fun _=>kk _ _ _ _ rfl hB hk) fun h=>by omega
 rw[if_neg g1,if_neg g1]at hk
 refine Ac (fun h=>by omega) fun _=>?_
 by_cases g2:192<=b/\b<224
 ·rw[if_pos g2,if_pos g2]at hk
  exact Ac (fun _=>Ac (fun _=>hk) fun h=>by omega) fun h=>by omega
 rw[if_neg g2,if_neg g2]at hk
 by_cases g3:224<=b/\b<240
 ·rw[if_pos g3,if_pos g3]at hk
  refine Ac (fun _=>Ac (fun h=>by omega) fun _=>?_) fun h=>by omega
  exact Ac (fun _=>Ac (fun _=>hk) fun h=>by omega) fun h=>by omega
 rw[if_neg g3,if_neg g3]at hk
 by_cases g4:240<=b/\b<248
 ·rw[if_pos g4,if_pos g4]at hk
  refine Ac (fun _=>Ac (fun h=>by omega) fun _=>?_) fun h=>by omega
  refine Ac (fun _=>Ac (fun h=>by omega) fun _=>?_) fun h=>by omega
  exact Ac (fun _=>Ac (fun _=>hk) fun h=>by omega) fun h=>by omega
 rw[if_neg g4,if_neg g4]at hk
 repeat' first
  | exact hk
  | omega
  | refine Ac (fun _=>?_) fun _=>?_
theorem UT {R:Int} {r:Nat} {st:St} {K:Bool->St->Prop} (hR:R=(r:Int)) (hk:K (decide (Ci r)) st):Ae PR Gm [.int .i64 R] [.one (.bool)] st K:=by
 unfold Ci at hk
 refine N9 R st K (Ac (fun _=>Ac (fun h2=>Ac (fun h3=>?_) fun h3=>?_) fun h2=>?_) fun h1=>by omega)
 ·exact Gz (decide_eq_true (by omega)).symm hk
 ·exact Gz (decide_eq_decide.2 (by omega)) hk
 ·exact Gz (decide_eq_false (by omega)).symm hk
theorem VJ {R:Int} {r:Nat} {st:St} {K:Int->St->Prop} (hR:R=(r:Int)) (hk:K (wid r:Nat) st):Ae PR He [.int .i64 R] [.one (.int .i64)] st K:=by
 unfold wid at hk
 refine PD R st K (Ac (fun h1=>?_) fun h1=>Ac (fun h2=>?_) fun h2=>Ac (fun h3=>?_) fun h3=>?_)
 ·rw[if_pos (by omega)]at hk;exact hk
 ·rw[if_neg (by omega),if_pos (by omega)]at hk;exact hk
 ·rw[if_neg (by omega),if_neg (by omega),if_pos (by omega)]at hk;exact hk
 ·rw[if_neg (by omega),if_neg (by omega),if_neg (by omega)]at hk;exact hk
def P1 (l:B8):Prop:=hdS (bt l 0)≠0/\hdS (bt l 0)<=l.length/\(∀j,1<=j->j<hdS (bt l 0)->bt l j/64=2)/\Ci (CO l (hdB (bt l 0)) (hdS (bt l 0)-1))/\wid (CO l (hdB (bt l 0)) (hdS (bt l 0)-1))=hdS (bt l 0)
theorem pd_val (l:B8) (h:l≠ []) (hp:P1 l):ul l=hdS (bt l 0)/\ur l=CO l (hdB (bt l 0)) (hdS (bt l 0)-1):=by
 obtain⟨p1,p2,p3,p4,p5⟩:=hp
 have e:=G4 l h
 have h0:=D6 l 0
 have e0:(l.getD 0 0).toNat=bt l 0:=rfl
 have e1:(l.getD 1 0).toNat=bt l 1:=rfl
 have e2:(l.getD 2 0).toNat=bt l 2:=rfl
 have e3:(l.getD 3 0).toNat=bt l 3:=rfl
 have fin:∀n r,rsz (bt l 0)=n->rb0 (bt l 0)=r->n=hdS (bt l 0)->r=hdB (bt l 0)->Gv (CO l r (n-1))=l.take n->ul l=hdS (bt l 0)/\ur l=CO l (hdB (bt l 0)) (hdS (bt l 0)-1):=by
  intro n r hn hr hn2 hr2 henc
  unfold P0 at e
  simp only[hn,hr]at e
  rw[if_neg (by omega),if_pos ⟨by rw[hr2,hn2];exact p4,henc⟩]at e
  by_cases hz:ul l=0
  ·rw[if_pos hz]at e;simp only[Prod.mk.injEq]at e;omega
  ·rw[if_neg hz]at e;simp only[Prod.mk.injEq]at e
   exact⟨by omega,by rw[<-hr2,<-hn2];exact e.1.symm⟩
 have h1:=D6 l 1
 have h2:=D6 l 2
 have h3:=D6 l 3
 by_cases g1:bt l 0<128
 ·have hs:hdS (bt l 0)=1:=by unfold hdS;rw[if_pos g1]
  have hb:hdB (bt l 0)=bt l 0:=by unfold hdB;rw[if_pos g1]
  refine fin 1 (bt l 0) (by unfold rsz;rw[if_neg (by omega),if_neg (by omega),if_neg (by omega)]) (by unfold rb0;rw[if_neg (by omega),if_neg (by omega),if_neg (by omega)]) hs.symm hb.symm ?_
  rw[JR l (by omega)]
  simp only[Nat.sub_self,CO]
  unfold Gv
  rw[if_pos g1]
  simp only[CY,CS,e0,and_true]
  omega
 by_cases g2:192<=bt l 0/\bt l 0<224
 ·have hs:hdS (bt l 0)=2:=by unfold hdS;rw[if_neg g1,if_pos g2]
  have hb:hdB (bt l 0)=bt l 0%32:=by unfold hdB;rw[if_neg g1,if_pos g2]
  rw[hs]at p3 p5
  rw[hb]at p5
  have q1:=p3 1 (by omega) (by omega)
  refine fin 2 (bt l 0%32) (by unfold rsz;rw[if_neg (by omega),if_neg (by omega),if_pos (by omega)]) (by unfold rb0;rw[if_neg (by omega),if_neg (by omega),if_pos (by omega)]) hs.symm hb.symm ?_
  rw[JQ l (by omega)]
  simp only[Nat.reduceSub,CO,Nat.zero_add]at p5⊢
  generalize bt l 0=b0 at*
  generalize bt l 1=b1 at*
  unfold wid at p5
  unfold Gv
  by_cases k1:b0%32*64+b1%64<128
  ·rw[if_pos k1]at p5;omega
  rw[if_neg k1]at p5⊢
  by_cases k2:b0%32*64+b1%64<2048
  ·rw[if_pos k2]
   simp only[CY,CS,e0,e1,and_true]
   omega
  ·rw[if_neg k2]at p5;split at p5<;>omega
 by_cases g3:224<=bt l 0/\bt l 0<240
 ·have hs:hdS (bt l 0)=3:=by unfold hdS;rw[if_neg g1,if_neg g2,if_pos g3]
  have hb:hdB (bt l 0)=bt l 0%16:=by unfold hdB;rw[if_neg g1,if_neg g2,if_pos g3]
  rw[hs]at p3 p5
  rw[hb]at p5
  have q1:=p3 1 (by omega) (by omega)
  have q2:=p3 2 (by omega) (by omega)
  refine fin 3 (bt l 0%16) (by unfold rsz;rw[if_neg (by omega),if_pos (by omega)]) (by unfold rb0;rw[if_neg (by omega),if_pos (by omega)]) hs.symm hb.symm ?_
  rw[G1 l (by omega)]
  simp only[Nat.reduceSub,CO,Nat.zero_add,Nat.reduceAdd]at p5⊢
  generalize bt l 0=b0 at*
  generalize bt l 1=b1 at*
  generalize bt l 2=b2 at*
  generalize hr:(b0%16*64+b1%64)*64+b2%64=r at*
  unfold wid at p5
  unfold Gv
  by_cases k1:r<128
  ·rw[if_pos k1]at p5;omega
  rw[if_neg k1]at p5⊢
  by_cases k2:r<2048
  ·rw[if_pos k2]at p5;omega
  rw[if_neg k2]at p5⊢
  by_cases k3:r<65536
  ·rw[if_pos k3]
   simp only[CY,CS,e0,e1,e2,and_true]
   omega
  ·rw[if_neg k3]at p5;omega
 by_cases g4:240<=bt l 0/\bt l 0<248
 ·have hs:hdS (bt l 0)=4:=by unfold hdS;rw[if_neg g1,if_neg g2,if_neg g3,if_pos g4]
  have hb:hdB (bt l 0)=bt l 0%8:=by unfold hdB;rw[if_neg g1,if_neg g2,if_neg g3,if_pos g4]
  rw[hs]at p3 p4 p5
  rw[hb]at p4 p5
  have q1:=p3 1 (by omega) (by omega)
  have q2:=p3 2 (by omega) (by omega)
  have q3:=p3 3 (by omega) (by omega)
  refine fin 4 (bt l 0%8) (by unfold rsz;rw[if_pos (by omega)]) (by unfold rb0;rw[if_pos (by omega)]) hs.symm hb.symm ?_
  rw[KQ l (by omega)]
  simp only[Nat.reduceSub,CO,Nat.zero_add,Nat.reduceAdd]at p4 p5⊢
  generalize bt l 0=b0 at*
  generalize bt l 1=b1 at*
  generalize bt l 2=b2 at*
  generalize bt l 3=b3 at*
  generalize hr:((b0%8*64+b1%64)*64+b2%64)*64+b3%64=r at*
  unfold wid at p5
  unfold Gv
  by_cases k1:r<128
  ·rw[if_pos k1]at p5;omega
  rw[if_neg k1]at p5⊢
  by_cases k2:r<2048
  ·rw[if_pos k2]at p5;omega
  rw[if_neg k2]at p5⊢
  by_cases k3:r<65536
  ·rw[if_pos k3]at p5;omega
  rw[if_neg k3]
  have:=p4.1
  simp only[CY,CS,e0,e1,e2,e3,and_true]
  omega
 ·exfalso
  unfold hdS at p1
  rw[if_neg g1,if_neg g2,if_neg g3,if_neg g4]at p1
  exact p1 rfl
theorem pd_iff (l:B8) (h:l≠ []):ul l≠0->P1 l:=by
 intro hu
 have e:=G4 l h
 rw[if_neg hu]at e
 have h0:=D6 l 0
 have e0:(l.getD 0 0).toNat=bt l 0:=rfl
 have e1:(l.getD 1 0).toNat=bt l 1:=rfl
 have e2:(l.getD 2 0).toNat=bt l 2:=rfl
 have e3:(l.getD 3 0).toNat=bt l 3:=rfl
 have h1:=D6 l 1
 have h2:=D6 l 2
 have h3:=D6 l 3
 have hc:¬l.length<rsz (bt l 0)/\Ci (CO l (rb0 (bt l 0)) (rsz (bt l 0)-1))/\Gv (CO l (rb0 (bt l 0)) (rsz (bt l 0)-1))=l.take (rsz (bt l 0)):=by
  unfold P0 at e
  simp only at e
  split at e
  ·simp only[Prod.mk.injEq]at e;omega
  ·split at e
   ·rename_i a b;exact⟨a,b⟩
   ·simp only[Prod.mk.injEq]at e;omega
 obtain⟨hl,hch,henc⟩:=hc
 by_cases g4:240<=bt l 0
 ·have r4:rsz (bt l 0)=4:=by unfold rsz;rw[if_pos g4]
  have rb:rb0 (bt l 0)=bt l 0%8:=by unfold rb0;rw[if_pos g4]
  rw[r4,rb]at henc hch
  rw[r4]at hl
  rw[KQ l (by omega)]at henc
  unfold P1 hdS hdB
  simp only[Nat.reduceSub,CO,Nat.zero_add,Nat.reduceAdd]at henc hch
  generalize hb0:bt l 0=b0 at*
  generalize hb1:bt l 1=b1 at*
  generalize hb2:bt l 2=b2 at*
  generalize hb3:bt l 3=b3 at*
  have hr0:∃r,r=((b0%8*64+b1%64)*64+b2%64)*64+b3%64:=⟨_,rfl⟩
  obtain⟨r,hr⟩:=hr0
  rw[<-hr]at henc hch
  have hmax:=hch.1
  unfold Gv at henc
  have hw:wid r=4/\b0=240+r/262144/\b1/64=2/\b2/64=2/\b3/64=2:=by
   unfold wid
   split at henc
   ·simp at henc
   ·split at henc
    ·simp at henc
    ·split at henc
     ·simp at henc
     ·simp only[CY,CS,e0,e1,e2,e3,and_true]at henc
      refine⟨by rw[if_neg ‹_›,if_neg ‹_›,if_neg ‹_›],by omega,by omega,by omega,by omega⟩
  rw[if_neg (show ¬b0<128 by omega),if_neg (show ¬(192<=b0/\b0<224) by omega),if_neg (show ¬(224<=b0/\b0<240) by omega),if_pos (show 240<=b0/\b0<248 by omega),if_neg (show ¬b0<128 by omega),if_neg (show ¬(192<=b0/\b0<224) by omega),if_neg (show ¬(224<=b0/\b0<240) by omega),if_pos (show 240<=b0/\b0<248 by omega)]
  simp only[Nat.reduceSub,CO,Nat.zero_add,Nat.reduceAdd,hb1,hb2,hb3]
  rw[<-hr]
  refine⟨by omega,by omega,fun j j1 j2=>?_,hch,hw.1⟩
  have:j=1∨j=2∨j=3:=by omega
  rcases this with rfl | rfl | rfl<;>omega
 by_cases g3:224<=bt l 0
 ·have r4:rsz (bt l 0)=3:=by unfold rsz;rw[if_neg g4,if_pos g3]
  have rb:rb0 (bt l 0)=bt l 0%16:=by unfold rb0;rw[if_neg g4,if_pos g3]
  rw[r4,rb]at henc hch
  rw[r4]at hl
  rw[G1 l (by omega)]at henc
  unfold P1 hdS hdB
  simp only[Nat.reduceSub,CO,Nat.zero_add,Nat.reduceAdd]at henc hch
  generalize hb0:bt l 0=b0 at*
  generalize hb1:bt l 1=b1 at*
  generalize hb2:bt l 2=b2 at*
  have hr0:∃r,r=(b0%16*64+b1%64)*64+b2%64:=⟨_,rfl⟩
  obtain⟨r,hr⟩:=hr0
  rw[<-hr]at henc hch
  unfold Gv at henc
  have hw:wid r=3/\b1/64=2/\b2/64=2:=by
   unfold wid
   split at henc
   ·simp at henc
   ·split at henc
    ·simp at henc
    ·split at henc
     ·simp only[CY,CS,e0,e1,e2,and_true]at henc
      refine⟨by rw[if_neg ‹_›,if_neg ‹_›,if_pos ‹_›],by omega,by omega⟩
     ·simp at henc
  rw[if_neg (show ¬b0<128 by omega),if_neg (show ¬(192<=b0/\b0<224) by omega),if_pos (show 224<=b0/\b0<240 by omega),if_neg (show ¬b0<128 by omega),if_neg (show ¬(192<=b0/\b0<224) by omega),if_pos (show 224<=b0/\b0<240 by omega)]
  simp only[Nat.reduceSub,CO,Nat.zero_add,Nat.reduceAdd,hb1,hb2]
  rw[<-hr]
  refine⟨by omega,by omega,fun j j1 j2=>?_,hch,hw.1⟩
  have:j=1∨j=2:=by omega
  rcases this with rfl | rfl<;>omega
 by_cases g2:192<=bt l 0
 ·have r4:rsz (bt l 0)=2:=by unfold rsz;rw[if_neg g4,if_neg g3,if_pos g2]
  have rb:rb0 (bt l 0)=bt l 0%32:=by unfold rb0;rw[if_neg g4,if_neg g3,if_pos g2]
  rw[r4,rb]at henc hch
  rw[r4]at hl
  rw[JQ l (by omega)]at henc
  unfold P1 hdS hdB
  simp only[Nat.reduceSub,CO,Nat.zero_add,Nat.reduceAdd]at henc hch
  generalize hb0:bt l 0=b0 at*
  generalize hb1:bt l 1=b1 at*
  have hr0:∃r,r=b0%32*64+b1%64:=⟨_,rfl⟩
  obtain⟨r,hr⟩:=hr0
  rw[<-hr]at henc hch
  unfold Gv at henc
  have hw:wid r=2/\b1/64=2:=by
   unfold wid
   split at henc
   ·simp at henc
   ·split at henc
    ·simp only[CY,CS,e0,e1,and_true]at henc
     refine⟨by rw[if_neg ‹_›,if_pos ‹_›],by omega⟩
    ·split at henc<;>simp at henc
  rw[if_neg (show ¬b0<128 by omega),if_pos (show 192<=b0/\b0<224 by omega),if_neg (show ¬b0<128 by omega),if_pos (show 192<=b0/\b0<224 by omega)]
  simp only[Nat.reduceSub,CO,Nat.zero_add,hb1]
  rw[<-hr]
  refine⟨by omega,by omega,fun j j1 j2=>?_,hch,hw.1⟩
  have:j=1:=by omega
  subst this;omega
 ·have r4:rsz (bt l 0)=1:=by unfold rsz;rw[if_neg g4,if_neg g3,if_neg g2]
  have rb:rb0 (bt l 0)=bt l 0:=by unfold rb0;rw[if_neg g4,if_neg g3,if_neg g2]
  rw[r4,rb]at henc hch
  rw[r4]at hl
  rw[JR l (by omega)]at henc
  unfold P1 hdS hdB
  simp only[Nat.sub_self,CO]at henc hch
  generalize hb0:bt l 0=b0 at*
  have hlt:b0<128:=by
   unfold Gv at henc
   split at henc
   ·assumption
   ·split at henc
    ·simp at henc
    ·split at henc<;>simp at henc
  rw[if_pos hlt,if_pos hlt]
  simp only[Nat.sub_self,CO]
  refine⟨by omega,by omega,fun j j1 j2=>by omega,hch,by unfold wid;rw[if_pos hlt]⟩
theorem My {s:B8} {I:Int} {i:Nat} {st:St} {K:Int->Int->St->Prop} (hI:I=(i:Int)) (hl:s.length<=2000000) (hi:i<=s.length) (hk:K ((rD (s.drop i)).1:Nat) ((rD (s.drop i)).2:Nat) st):
  Ae PR El [.str s,.int .i64 I] [.one (.int .i64),.one (.int .i64)] st K:=by
 have no:¬P1 (s.drop i)->s.drop i≠ []->K 0 0 st:=fun h hne=>by
  have:ul (s.drop i)=0:=Decidable.byContradiction fun h0=>h (pd_iff _ hne h0)
  unfold rD at hk
  rw[if_pos this]at hk;exact hk
 have yes:P1 (s.drop i)->s.drop i≠ []->K (CO (s.drop i) (hdB (bt (s.drop i) 0)) (hdS (bt (s.drop i) 0)-1):Nat) (hdS (bt (s.drop i) 0):Nat) st:=fun h hne=>by
  have hv:=pd_val _ hne h
  unfold rD at hk
  rw[if_neg (by rw[hv.1];exact h.1),hv.1,hv.2]at hk
  exact hk
 have hlen:(s.drop i).length=s.length-i:=by simp
 have hb:∀j,bt (s.drop i) j=(s.getD (i+j) 0).toNat:=bt_drop s i
 refine Oa s I st K (Ac (fun h=>by omega) fun _=>Ac (fun h=>?_) fun h=>⟨⟨by omega,by omega⟩,?_⟩)
 ·have:s.drop i=[]:=List.drop_of_length_le (by omega)
  have h0:rD (s.drop i)=(0,0):=by rw[this];simp[rD,ul]
  rw[h0]at hk;exact hk
 have hne:s.drop i≠ []:=by
  intro h0
  have:=congrArg List.length h0
  rw[hlen]at this;simp only[List.length_nil]at this;omega
 have hb0:(List.getD s (Int.toNat I) 0).toNat=bt (s.drop i) 0:=by rw[hb,hI];rfl
 have hlt:=D6 (s.drop i) 0
 rw[hb0]
 refine head_ok rfl hlt ?_
 have hsz:hdS (bt (s.drop i) 0)<=4:=by unfold hdS;(repeat' split)<;>omega
 have hbz:hdB (bt (s.drop i) 0)<256:=by unfold hdB;(repeat' split)<;>omega
 unfold P1 at no yes
 generalize hdS (bt (s.drop i) 0)=n at*
 generalize hdB (bt (s.drop i) 0)=r0 at*
 rw[As _ (by omega) (by omega)]
 refine Ac (fun g=>no (fun hh=>hh.1 (by omega)) hne) fun g1=>Ac (fun g=>no (fun hh=>by omega) hne) fun g2=>?_
 have hra:=Ub (s.drop i) r0 hbz
 refine⟨fun r j s' at' sz st2=>s=s'/\I=at'/\st=st2/\((n:Nat):Int)=sz/\∃k:Nat,j=((k+1:Nat):Int)/\k+1<=n/\r=((CO (s.drop i) r0 k:Nat):Int)/\∀m,1<=m->m<=k->bt (s.drop i) m/64=2,fun _ j _ _ sz _=>(sz-j).toNat,⟨rfl,rfl,rfl,rfl,0,rfl,by omega,rfl,fun m h1 h2=>by omega⟩,?_⟩
 rintro _ _ _ _ _ _ ⟨rfl,rfl,rfl,rfl,k,rfl,hk1,rfl,hall⟩
 have hrk:=hra k
 have h64:64^k<=64^3:=Nat.pow_le_pow_right (by decide) (by omega)
 refine Ac (fun h2=>?_) fun h2=>?_
 ·rw[As (I+((k+1:Nat):Int)) (by omega) (by omega)]
  have hbk:(List.getD s (Int.toNat (I+((k+1:Nat):Int))) 0).toNat=bt (s.drop i) (k+1):=by
   rw[hb,show Int.toNat (I+((k+1:Nat):Int))=i+(k+1) by omega]
  have hbl:=D6 (s.drop i) (k+1)
  have h192:Cz .and .u8 ((bt (s.drop i) (k+1):Nat):Int) (192:Int)=((bt (s.drop i) (k+1)&&&192:Nat):Int):=W4 _ 192 hbl (by decide)
  have hand:i64.wrap (Cz .and .u8 ((bt (s.drop i) (k+1):Nat):Int) (63:Int))=((bt (s.drop i) (k+1)%64:Nat):Int):=by
   rw[show(63:Int)=((2^6-1:Nat):Int) by decide,IG _ 6 hbl (by decide),As _ (by omega) (by omega)]
  have hmul:i64.wrap (((CO (s.drop i) r0 k:Nat):Int)*2^(min (Int.toNat (6:Int)) (IntKind.bits .i64)))=((CO (s.drop i) r0 k*2^6:Nat):Int):=by
   rw[show(2:Int)^(min (Int.toNat (6:Int)) (IntKind.bits .i64))=64 by decide,As _ (by omega) (by omega)];omega
  have hc:(bt (s.drop i) (k+1)&&&192)=128↔bt (s.drop i) (k+1)/64=2:=by
   have:∀x,x<256->((x&&&192)=128↔x/64=2):=by decide+kernel
   exact this _ hbl
  refine⟨⟨by omega,by omega⟩,?_⟩
  rw[hbk,h192,hand,hmul,or_add _ _ 6 (by omega) (by omega),As _ (by omega) (by omega)]
  refine Ac (fun h3=>no (fun hh=>h3 ?_) hne) fun h3=>?_
  ·have:=hh.2.2.1 (k+1) (by omega) (by omega)
   rw[hc.2 this];rfl
  ·have h4:bt (s.drop i) (k+1)/64=2:=hc.1 (by omega)
   refine⟨⟨rfl,rfl,rfl,rfl,k+1,by omega,by omega,by simp only[CO],fun m m1 m2=>?_⟩,by dsimp only;omega⟩
   by_cases hm:m=k+1
   ·rw[hm];exact h4
   ·exact hall m m1 (by omega)
 ·have hks:k=n-1:=by omega
  subst hks
  refine UT rfl (Au (fun h3=>no (fun hh=>?_) hne) fun h3=>VJ rfl (Ac (fun h4=>no (fun hh=>?_) hne) fun h4=>?_))
  ·simp only[Bool.not_eq_true',decide_eq_false_iff_not]at h3
   exact h3 hh.2.2.2.1
  ·rw[hh.2.2.2.2]at h4;exact h4 rfl
  ·simp only[Bool.not_eq_false',decide_eq_true_eq]at h3
   exact yes ⟨by omega,by omega,fun m m1 m2=>hall m m1 (by omega),h3,by omega⟩ hne
theorem PL {l:B8} {c:UInt8} (hc:c.toNat<128) (hl:l.length<=9223372036854775807) {st:St} {K:B8->St->Prop} (hk:K (Lib.trimRightB l c) st):Ae PR Et [.str l,.str [c]] [.one .str] st K:=by
 refine E5 (fun _ _=>by kernel_rfl) fun g w vargs s hr=>?_
 obtain⟨v,u,rfl,hv,hu⟩:=Rf hr
 rw[CQ hv,CQ hu]
 refine Calls.mono (Tryz.strings_TrimRight_one ⟨l.toArray⟩ c hc w (by simpa [ByteArray.size]using hl)) ?_
 rintro e w' ⟨rfl,rfl⟩
 exact⟨_,rfl,.str _,st,g,hk,s,Rel.str _,Ext.refl _ _⟩
theorem MA (l:B8):(Lib.trimRightB l 48).length+Du l=l.length:=by
 unfold Lib.trimRightB Du
 have:=congrArg List.length (List.takeWhile_append_dropWhile (p:=fun x:UInt8=>x==48) (l:=l.reverse))
 rw[List.length_append,List.length_reverse]at this
 rw[List.length_reverse];omega
theorem Kh {l:B8} {n:Nat} (h:n<l.length):List.getD l n 0∈l:=by
 rw[List.getD_eq_getElem?_getD,List.getElem?_eq_getElem h,Option.getD_some]
 exact List.getElem_mem h
theorem W5 {P:UInt8->Prop} {l:B8} {n:Nat} (h:n<l.length) (h1:∀c,c∈l.take n->P c) (h2:P (List.getD l n 0)):∀c,c∈l.take (n+1)->P c:=by
 intro c hc
 rw[Db _ _ 0 h]at hc
 rcases List.mem_append.1 hc with hc | hc
 ·exact h1 c hc
 ·rw[List.mem_singleton.1 hc];exact h2
theorem all_ok {l:B8} (hl:l.length<=2000000) {st:St} {K:Bool->St->Prop} (hk:K (decide (∀c,c∈l->B1 c)) st):Ae PR Gr [.str l] [.one .bool] st K:=by
 refine Og l st K ⟨fun i s m st'=>l=s/\(l.length:Int)=m/\st=st'/\∃n:Nat,i=n/\n<=l.length/\∀c,c∈l.take n->B1 c,fun i _ _ _=>(l.length-i).toNat,⟨rfl,rfl,rfl,0,rfl,Nat.zero_le _,fun c hc=>by simp at hc⟩,?_⟩
 rintro _ _ _ _ ⟨rfl,rfl,rfl,n,rfl,hn,hall⟩
 refine Ac (fun g=>?_) fun g=>?_
 ·have hm:=Kh (l:=l) (n:=n) (by omega)
  have bad:¬B1 (List.getD l n 0)->K false st:=fun hb=>by
   rw[decide_eq_false fun h=>hb (h _ hm)]at hk;exact hk
  rw[Int.toNat_natCast]
  refine⟨⟨by omega,by omega⟩,Ac (fun g2=>bad (by unfold B1;omega)) fun g2=>⟨⟨by omega,by omega⟩,Ac (fun g3=>bad (by unfold B1;omega)) fun g3=>?_⟩⟩
  rw[As _ (by omega) (by omega)]
  exact⟨⟨rfl,rfl,rfl,n+1,by omega,by omega,W5 (by omega) hall (by unfold B1;omega)⟩,by dsimp only;omega⟩
 ·have:n=l.length:=by omega
  subst this
  rw[List.take_length]at hall
  rw[decide_eq_true hall]at hk;exact hk
def Sh (l:B8):Prop:=l.length<=600/\(∀c,c∈l->B1 c)/\(l≠ []->l.getD 0 0≠48)
instance (l:B8):Decidable (Sh l):=inferInstanceAs (Decidable (_/\_/\(_->_)))
theorem ne48 (c:UInt8):decide ((c.toNat:Int)≠48)=decide (c≠48):=by
 have:((c.toNat:Int)≠48)↔c≠48:=by rw[ne_eq,ne_eq,<-UInt8.toNat_inj];exact not_congr ⟨fun h=>Int.ofNat.inj h,fun h=>by rw[h];rfl⟩
 exact decide_eq_decide.2 this
theorem Vr {l:B8} (hl:l.length<=2000000) {st:St} {K:Bool->St->Prop} (hk:K (decide (Sh l)) st):Ae PR EJ [.str l] [.one .bool] st K:=by
 have no:¬Sh l->K false st:=fun h=>by rw[decide_eq_false h]at hk;exact hk
 refine LV l st K (Ac (fun g=>all_ok hl (Ac (fun g2=>Ac (fun g3=>?_) fun g3=>⟨⟨by omega,by have:=List.length_pos_iff.2 g3;omega⟩,?_⟩) fun g2=>no fun h=>g2 h.2.1)) fun g=>no fun h=>g (by have:=h.1;omega))
 ·rw[decide_eq_true (show Sh l from⟨by omega,g2,fun h=>absurd g3 h⟩)]at hk;exact hk
 ·rw[ne48]
  refine Gz (decide_eq_decide.2 ?_) hk
  exact⟨fun h=>⟨by omega,g2,fun _=>h⟩,fun h=>h.2.2 g3⟩
def exB (s:Sc) (l:List Vl) (f:List Fd):Bool:=
 (decide (s.kind≠1)&&s.b) || ((decide (s.kind≠2)&& !((s.neg==false)&&(decide (s.dg=[])&&(decide (s.ex=0)&&true)))) || ((decide (s.kind≠3)&& !(decide (s.tk=0)&&(decide (s.td=0)&&(decide (s.tn=0)&&(decide (s.tz=0)&&true))))) ||
  ((decide (s.kind≠4)&&decide (s.text≠ [])) || ((decide (s.kind≠5)&&decide (0<(s.bytes.length:Int))) || ((decide (s.kind≠6)&&decide (0<(l.length:Int))) || (decide (s.kind≠7)&&decide (0<(f.length:Int))))))))
theorem Jv (k k':B8) (v:TV):∀es:List (B8×TV),Cn k (Gg k' v es)=if k=k' then some v else Cn k es
 | []=>by
  simp only[Gg,Cn]
  by_cases h:k=k'<;>simp[h]
 | (k1,v1)::es=>by
  simp only[Gg]
  by_cases h1:k'=k1
  ·simp only[h1,decide_true,Cn]
   by_cases h:k=k1<;>simp[h]
  ·simp only[h1,decide_false,Cn,Jv k k' v es]
   by_cases h:k=k1
   ·simp[h,Ne.symm h1]
   ·simp[h]
def MapN (es:List (B8×TV)) (ns:List B8):Prop:=∀t,Cn t es=if t∈ns then some (.bool true)else none
theorem MapN.add {es:List (B8×TV)} {ns:List B8} (h:MapN es ns) (t:B8):MapN (Gg t (.bool true) es) (t::ns):=by
 intro k
 rw[Jv]
 by_cases hk:k=t
 ·simp[hk]
 ·rw[if_neg hk,h k];simp[hk]
theorem VsR.snoc {st:St} {v:Vl} {cv:List TV}:∀{l:List Vl} {xs:List TV},VsR st l xs->VlR st v cv->VsR st (l++[v]) (xs++cv)
 | [],xs,h,hv=>by
  unfold VsR at h
  subst h
  show VsR st [v] _
  unfold VsR
  exact⟨cv,[],by simp,hv,by unfold VsR;rfl⟩
 | w::r,xs,h,hv=>by
  unfold VsR at h
  obtain⟨a,b,rfl,h1,h2⟩:=h
  show VsR st (w::(r++[v])) _
  unfold VsR
  exact⟨a,b++cv,by simp,h1,VsR.snoc h2 hv⟩
theorem VlR.cells {st:St} {s:Sc} {l:List Vl} {f:List Fd} {cs:List TV} (h:VlR st (.mk s l f) cs):∃ub ul uf xl xf,cs=Ba s ub ul uf/\SlR st 1 ub s.bytes.length (AQ s.bytes)/\SlR st 13 ul l.length xl/\VsR st l xl/\SlR st 14 uf f.length xf/\FsR st f xf:=by
 unfold VlR at h
 obtain⟨ub,ul,uf,xl,xf,rfl,h⟩:=h
 exact⟨ub,ul,uf,xl,xf,rfl,h⟩
theorem szs (s:Sc) (l:List Vl) (f:List Fd):(Vl.mk s l f).sz=1+s.bytes.length+s.text.length+s.dg.length+BM l+Cl f:=by unfold Vl.sz;rfl
theorem szd (k:B8) (v:Vl):(Fd.mk k v).sz=k.length+v.sz:=by unfold Fd.sz;rfl
theorem Ul {st0 st:St} {uf:TV} {xf:List TV} {l:List Fd} (hke:DF st0 st) (h2:SlR st0 14 uf l.length xf) (h3:FsR st0 l xf) {k:Nat} {d:Fd} (hd:l[k]? =some d):Ab st [] (.t (Ag (ixT 14 uf k) 0)) 0=some (.str d.key):=by
 obtain⟨hk,_⟩:=List.getElem?_eq_some_iff.1 hd
 obtain⟨cw,hw,hcw,hcl⟩:=h3.get hd
 have hx:xf[k*14+0]? =some (.str d.key):=by
  cases d with
  | mk key w=>
   unfold FdR at hw
   obtain⟨cs,rfl,_⟩:=hw
   have:=congrArg (fun z=>z[0]?) hcw
   simpa [Fd.key]using this
 exact(h2.keep hke).ldf h3.len hk (by omega) hx
def AZ (s:B8):B8:=s.takeWhile fun c=>decide (B1 c)
def FW (n:Nat) (l:B8):Nat:=l.foldl (fun n c=>10*n+(c.toNat-48)) n
def CN (l:B8):Nat:=FW 0 l
def B7 (l:B8):B8:=l.dropWhile (·==48)
def dcN (neg:Bool) (s:B8) (ex:Int):Bool×B8×Int×Int:=
 if s=[]then(false,[],0,0)else if 400<ex+Du s∨ex+Du s< -400∨120<s.length-Du s then(false,[],0,2)else(neg,s.take (s.length-Du s),ex+Du s,0)
def LL:Bool×B8×Int×Int:=(false,[],0,3)
def dcX (neg:Bool) (all:B8) (ex:Int) (less:Bool) (r:B8):Bool×B8×Int×Int:=
 if r=[]∨(AZ r).length≠r.length then LL else dcN neg (B7 all) (if less then ex-CN r else ex+CN r)
def dcE (neg:Bool) (all:B8) (ex:Int) (r:B8):Bool×B8×Int×Int:=
 if r=[]then dcN neg (B7 all) ex else if r.getD 0 0=101∨r.getD 0 0=69 then
  (if (r.drop 1).getD 0 0=45 then dcX neg all ex true (r.drop 2)else if (r.drop 1).getD 0 0=43 then dcX neg all ex false (r.drop 2)else dcX neg all ex false (r.drop 1))
 else LL
def dcF (neg:Bool) (a:B8) (r:B8):Bool×B8×Int×Int:=
 if r.getD 0 0=46 then(if AZ (r.drop 1)=[]then LL else dcE neg (a++AZ (r.drop 1)) (-(AZ (r.drop 1)).length) (r.drop (1+(AZ (r.drop 1)).length)))
 else dcE neg a 0 r
def dcQ (neg:Bool) (s:B8):Bool×B8×Int×Int:=
 if AZ s=[]∨(1<(AZ s).length/\s.getD 0 0=48)then LL else dcF neg (AZ s) (s.drop (AZ s).length)
def dcP (s:B8):Bool×B8×Int×Int:=if s.getD 0 0=45 then dcQ true (s.drop 1)else dcQ false s
theorem NH (s:B8):∀c,c∈AZ s->B1 c:=by
 induction s with
 | nil=>intro c h;cases h
 | cons a s ih=>
  intro c h
  unfold AZ at h ih
  rw[List.takeWhile_cons]at h
  split at h
  ·rename_i hd
   rcases List.mem_cons.1 h with rfl | h
   ·exact of_decide_eq_true hd
   ·exact ih c h
  ·cases h
theorem ID (s:B8):(AZ s).length<=s.length:=(List.takeWhile_sublist _).length_le
theorem Ph (s:B8):s=AZ s++s.drop (AZ s).length:=by
 induction s with
 | nil=>rfl
 | cons a s ih=>
  unfold AZ at ih⊢
  rw[List.takeWhile_cons]
  split
  ·rw[List.length_cons,List.drop_succ_cons,List.cons_append,<-ih]
  ·rfl
theorem Jy (s:B8):s.take (AZ s).length=AZ s:=by
 have h:=Ph s
 have:s.take (AZ s).length=(AZ s++s.drop (AZ s).length).take (AZ s).length:=by rw[<-h]
 rw[this,List.take_left]
theorem Sk (l:B8):Du l<=l.length:=by
 unfold Du
 have:=(List.takeWhile_sublist (l:=l.reverse) (fun x:UInt8=>x==48)).length_le
 rwa [List.length_reverse]at this
theorem Lu {c:UInt8} {l:B8} (h:c≠48):B7 (c::l)=c::l:=by
 unfold B7;rw[List.dropWhile_cons,if_neg (by simpa using h)]
theorem ME (k:Nat) (l:B8):B7 (List.replicate k 48++l)=B7 l:=by
 induction k with
 | zero=>rfl
 | succ k ih=>rw[List.replicate_succ,List.cons_append];unfold B7 at ih⊢;rw[List.dropWhile_cons,if_pos (by simp),ih]
theorem QM (n:Nat) (a b:B8):FW n (a++b)=FW (FW n a) b:=by
 unfold FW;rw[List.foldl_append]
def b0 (s:B8) (k:Nat):UInt8:=s.getD k 0
def dv (s:B8) (k:Nat):Nat:=(b0 s k).toNat-48
def d2 (s:B8) (k:Nat):Nat:=dv s k*10+dv s (k+1)
def dd (s:B8) (k:Nat):Prop:=B1 (b0 s k)/\B1 (b0 s (k+1))
instance (s:B8) (k:Nat):Decidable (dd s k):=inferInstanceAs (Decidable (_/\_))
def LF (s:B8):Prop:=dd s 0/\b0 s 2=58/\dd s 3/\b0 s 5=58/\dd s 6
instance (s:B8):Decidable (LF s):=inferInstanceAs (Decidable (_/\_/\_/\_/\_))
def D2 (s:B8):Prop:=dd s 0/\dd s 2/\b0 s 4=45/\dd s 5/\b0 s 7=45/\dd s 8
instance (s:B8):Decidable (D2 s):=inferInstanceAs (Decidable (_/\_/\_/\_/\_/\_))
def WC (f:B8):Nat:=CN (f++List.replicate (9-f.length) 48)
def Kt (s:B8):Option (Nat×Nat×Nat×Nat×B8):=
 if LF s then
  (if b0 s 8=46 then(if AZ (s.drop 9)=[]∨9<(AZ (s.drop 9)).length then none else some (d2 s 0,d2 s 3,d2 s 6,WC (AZ (s.drop 9)),s.drop (9+(AZ (s.drop 9)).length)))
  else some (d2 s 0,d2 s 3,d2 s 6,0,s.drop 8))
 else none
def P3 (s:B8):Option (Bool×Nat×Nat):=
 if s=[90]∨s=[122]then some (false,0,0)else if s.length=6/\(b0 s 0=43∨b0 s 0=45)/\dd s 1/\b0 s 3=58/\dd s 4 then some (decide (b0 s 0=45),d2 s 1,d2 s 4)else none
def okD (y m d:Nat):Prop:=1<=y/\y<=9999/\1<=m/\m<=12/\1<=d/\d<=Rx y m
instance (y m d:Nat):Decidable (okD y m d):=inferInstanceAs (Decidable (_/\_/\_/\_/\_/\_))
def L7 (y m d:Nat):Nat:=yrS y+Rw y m+(d-1)
abbrev TmR:=Int×Int×Int×Int×Int
def Hu:TmR:=(0,0,0,0,3)
def Ht:TmR:=(0,0,0,0,2)
def okC (h m s:Nat):Prop:=h<=23/\m<=59/\s<=59
instance (h m s:Nat):Decidable (okC h m s):=inferInstanceAs (Decidable (_/\_/\_))
def GM (h m s f:Nat):Nat:=((h*60+m)*60+s)*1000000000+f
def tmO (y mo d h m s f:Nat) (r:B8):TmR:=
 if r=[]then(if okD y mo d/\okC h m s then(3,(L7 y mo d:Nat),(GM h m s f:Nat),0,0)else Ht)
 else match P3 r with
  | none=>Hu
  | some (ls,oh,om)=>if okD y mo d/\okC h m s/\oh<=23/\om<=59 then(4,(L7 y mo d:Nat),(GM h m s f:Nat),if ls then-((oh*60+om:Nat):Int)else((oh*60+om:Nat):Int),0)else Ht
def tmD (y mo d:Nat) (r:B8):TmR:=
 if r=[]then(if okD y mo d then(1,(L7 y mo d:Nat),0,0,0)else Ht)
 else if b0 r 0=84∨b0 r 0=116∨b0 r 0=32 then
  match Kt (r.drop 1)with
  | none=>Hu
  | some (h,m,s,f,r')=>tmO y mo d h m s f r'
 else Hu
def tmP (s:B8):TmR:=
 if D2 s then tmD (d2 s 0*100+d2 s 2) (d2 s 5) (d2 s 8) (s.drop 10)
 else match Kt s with
  | none=>Hu
  | some (h,m,sc,f,r)=>if r=[]then(if okC h m sc then(2,0,(GM h m sc f:Nat),0,0)else Ht)else Hu
theorem JO:∀(l:B8) (a:Nat),FW a l=a*10^l.length+FW 0 l
 | [],a=>by simp[FW]
 | c::l,a=>by
  have h1:=JO l (10*a+(c.toNat-48))
  have h2:=JO l (10*0+(c.toNat-48))
  show FW (10*a+(c.toNat-48)) l=_+FW (10*0+(c.toNat-48)) l
  rw[h1,h2,List.length_cons,Nat.pow_succ,Nat.add_mul,Nat.add_mul]
  have:10*a*10^l.length=a*(10^l.length*10):=by rw[Nat.mul_comm 10 a,Nat.mul_assoc,Nat.mul_comm 10]
  omega
theorem Ui (y m:Nat):Rx y m<=31:=by
 have ite:∀{p:Prop} [Decidable p] {a b:Nat},a<=31->b<=31->(if p then a else b)<=31:=fun h1 h2=>by split<;>assumption
 unfold Rx
 exact ite (ite (by omega) (by omega)) (ite (by omega) (by omega))
theorem JN:∀(l:B8),(∀c,c∈l->B1 c)->CN l<10^l.length
 | [],_=>by decide
 | c::l,h=>by
  have ih:=JN l fun x hx=>h x (.tail _ hx)
  have hc:=(h c (.head _)).2
  unfold CN at ih⊢
  rw[show FW 0 (c::l)=FW (c.toNat-48) l by simp[FW],JO,List.length_cons,Nat.pow_succ]
  have:(c.toNat-48)*10^l.length<=9*10^l.length:=Nat.mul_le_mul_right _ (by omega)
  omega
theorem valN_ge {c:UInt8} {l:B8} (hc:B1 c) (h0:c≠48):10^l.length<=CN (c::l):=by
 unfold CN
 rw[show FW 0 (c::l)=FW (c.toNat-48) l by simp[FW],JO]
 have h1:=hc.1
 have h2:c.toNat≠48:=fun e=>h0 (UInt8.toNat_inj.1 (by simpa using e))
 have:1*10^l.length<=(c.toNat-48)*10^l.length:=Nat.mul_le_mul_right _ (by omega)
 omega
theorem G0:∀l:B8,CN (B7 l)=CN l
 | []=>rfl
 | c::l=>by
  by_cases h:c=48
  ·subst h
   have:=ME 1 l
   rw[show List.replicate 1 (48:UInt8)++l=48::l from rfl]at this
   rw[this,G0 l]
   unfold CN
   rw[show FW 0 (48::l)=FW 0 l by simp[FW]]
  ·rw[Lu h]
theorem Jl (l:B8):∀c,c∈B7 l->c∈l:=fun c h=>(List.dropWhile_sublist (l:=l) (fun x:UInt8=>x==48)).subset h
theorem G2 (l:B8):(B7 l).length<=l.length:=(List.dropWhile_sublist (l:=l) (fun x:UInt8=>x==48)).length_le
theorem Lt (l:B8):(B7 l).getD 0 0≠48:=by
 induction l with
 | nil=>decide
 | cons c l ih=>
  by_cases h:c=48
  ·subst h
   have:=ME 1 l
   rw[show List.replicate 1 (48:UInt8)++l=48::l from rfl]at this
   rw[this];exact ih
  ·rw[Lu h];exact h
theorem VN {l:B8} {k:Nat} (h:∀c,c∈l->B1 c) (hk:k<(B7 l).length):10^k<=CN l:=by
 rw[<-G0 l]
 have h0:=Lt l
 have hs:=Jl l
 generalize B7 l=m at*
 cases m with
 | nil=>exact absurd hk (Nat.not_lt_zero _)
 | cons c m=>
  have:=valN_ge (l:=m) (h c (hs c (.head _))) h0
  rw[List.length_cons]at hk
  exact Nat.le_trans (Nat.pow_le_pow_right (by decide) (by omega)) this
theorem UJ {l:B8} {k:Nat} (h:∀c,c∈l->B1 c) (hk:(B7 l).length<=k):CN l<10^k:=by
 rw[<-G0 l]
 exact Nat.lt_of_lt_of_le (JN _ fun c hc=>h c (Jl l c hc)) (Nat.pow_le_pow_right (by decide) hk)
theorem dcN_far {neg:Bool} {s:B8} {ex n m:Int} (hl:s.length<=100000000) (h1: -100000000<=ex) (h2:ex<=100000000) (hn:1000000000<=n) (hm:1000000000<=m) (less:Bool):
  dcN neg s (if less then ex-n else ex+n)=dcN neg s (if less then ex-m else ex+m):=by
 unfold dcN
 have hz:=Sk s
 by_cases h:s=[]
 ·rw[if_pos h,if_pos h]
 ·rw[if_neg h,if_neg h]
  cases less with
  | true=>
   simp only[if_true]
   rw[if_pos (by omega),if_pos (by omega)]
  | false=>
   simp only[Bool.false_eq_true,if_false]
   rw[if_pos (by omega),if_pos (by omega)]
theorem Uy (neg:Bool) (s:B8) (ex:Int):(dcN neg s ex).2.1.length<=s.length:=by
 unfold dcN
 split
 ·simp
 split
 ·simp
 ·show(s.take _).length<=_
  rw[List.length_take];omega
theorem Ql (neg:Bool) (all:B8) (ex:Int) (less:Bool) (r:B8):(dcX neg all ex less r).2.1.length<=all.length:=by
 unfold dcX
 split
 ·simp[LL]
 ·exact Nat.le_trans (Uy _ _ _) (G2 all)
theorem Uz (neg:Bool) (all:B8) (ex:Int) (r:B8):(dcE neg all ex r).2.1.length<=all.length:=by
 unfold dcE
 split
 ·exact Nat.le_trans (Uy _ _ _) (G2 all)
 split
 ·split
  ·exact Ql _ _ _ _ _
  split
  ·exact Ql _ _ _ _ _
  ·exact Ql _ _ _ _ _
 ·simp[LL]
theorem dcF_len (neg:Bool) (a r:B8):(dcF neg a r).2.1.length<=a.length+r.length:=by
 unfold dcF
 split
 ·split
  ·simp[LL]
  ·refine Nat.le_trans (Uz _ _ _ _) ?_
   rw[List.length_append]
   have:=ID (r.drop 1)
   rw[List.length_drop]at this
   omega
 ·exact Nat.le_trans (Uz _ _ _ _) (Nat.le_add_right _ _)
theorem Ux (neg:Bool) (s:B8):(dcQ neg s).2.1.length<=s.length:=by
 unfold dcQ
 split
 ·simp[LL]
 ·refine Nat.le_trans (dcF_len _ _ _) ?_
  have:=ID s
  rw[List.length_drop];omega
theorem dcP_len (s:B8):(dcP s).2.1.length<=s.length:=by
 unfold dcP
 split
 ·refine Nat.le_trans (Ux _ _) ?_
  rw[List.length_drop];omega
 ·exact Ux _ _
theorem Lr {l:B8} {c:UInt8} (hc:c.toNat<128) {st:St} {K:B8->St->Prop} (hk:K (l.dropWhile (·==c)) st):Ae PR Dg [.str l,.str [c]] [.one .str] st K:=by
 refine E5 (fun _ _=>by kernel_rfl) fun g w vargs s hr=>?_
 obtain⟨v,u,rfl,hv,hu⟩:=Rf hr
 rw[CQ hv,CQ hu]
 refine Calls.mono (Tryz.strings_TrimLeft_one ⟨l.toArray⟩ c hc w) ?_
 rintro e w' ⟨rfl,rfl⟩
 exact⟨_,rfl,.str _,st,g,hk,s,Rel.str _,Ext.refl _ _⟩
theorem Qc {s p:B8} {st:St} {K:Bool->St->Prop} (hk:K (decide (s.take p.length=p)) st):Ae PR A8 [.str s,.str p] [.one (.bool)] st K:=by
 refine HU s p st K (Ge s p st _ (Ac (fun h=>⟨⟨by omega,h⟩,?_⟩) fun h=>?_))
 ·exact hk
 ·have:¬s.take p.length=p:=fun h0=>by
   have:=congrArg List.length h0
   rw[List.length_take]at this
   omega
  rw[decide_eq_false this]at hk
  exact hk
theorem u8i {c k:UInt8}:((c.toNat:Int)=(k.toNat:Int))↔c=k:=⟨fun h=>UInt8.toNat_inj.1 (by omega),fun h=>by rw[h]⟩
theorem take1 {s:B8} {c:UInt8} (hc:c≠0):s.take [c].length=[c]↔s.getD 0 0=c:=by
 cases s with
 | nil=>exact⟨fun h=>absurd h (by simp),fun h=>absurd (show(0:UInt8)=c from h).symm hc⟩
 | cons a s=>show [a]=[c]↔a=c;simp
theorem IA {s:B8} {c:UInt8} (hc:c≠0) {st:St} {K:Bool->St->Prop} (hk:K (decide (s.getD 0 0=c)) st):Ae PR A8 [.str s,.str [c]] [.one (.bool)] st K:=
 Qc (by rw[decide_eq_decide.2 (take1 hc)];exact hk)
theorem NI:∀(s:B8) (k:Nat),k<=s.length->(∀j,j<k->B1 (s.getD j 0))->(k=s.length∨¬B1 (s.getD k 0))->(AZ s).length=k
 | [],k,h,_,_=>by
  have:k=0:=by simpa using h
  subst this;rfl
 | a::s,0,_,_,h=>by
  have h2:¬B1 a:=by
   rcases h with h | h
   ·simp at h
   ·exact h
  unfold AZ
  rw[List.takeWhile_cons_of_neg (by simpa using h2)];rfl
 | a::s,k+1,h1,h2,h3=>by
  have ha:B1 a:=h2 0 (by omega)
  have ih:=NI s k (by simpa using h1) (fun j hj=>h2 (j+1) (by omega)) (by
   rcases h3 with h3 | h3
   ·exact .inl (by simpa using h3)
   ·exact .inr h3)
  unfold AZ at ih⊢
  rw[List.takeWhile_cons_of_pos (by simpa using ha),List.length_cons,ih]
theorem SE {s:B8} (hl:s.length<=1000000000) {st:St} {K:Int->St->Prop} (hk:K ((AZ s).length:Nat) st):Ae PR CV [.str s] [.one (.int .i64)] st K:=by
 refine Mt s st K ⟨fun n s' st'=>s=s'/\st=st'/\∃k:Nat,n=k/\k<=s.length/\∀j,j<k->B1 (s.getD j 0),fun n _ _=>(s.length-n).toNat,⟨rfl,rfl,0,rfl,Nat.zero_le _,fun j h=>absurd h (Nat.not_lt_zero _)⟩,?_⟩
 rintro _ _ _ ⟨rfl,rfl,k,rfl,hk1,hd⟩
 rw[Int.toNat_natCast]
 have fin:(k=s.length∨¬B1 (s.getD k 0))->K ((k:Nat):Int) st:=fun h=>by rw[NI s k hk1 hd h]at hk;exact hk
 refine Ac (fun g=>⟨⟨by omega,g⟩,Ac (fun g1=>⟨⟨by omega,g⟩,Ac (fun g2=>?_) fun g2=>fin (.inr fun h=>g2 (by have:=h.2;omega))⟩) fun g1=>fin (.inr fun h=>g1 (by have:=h.1;omega))⟩) fun g=>fin (.inl (by omega))
 rw[As _ (by omega) (by omega)]
 refine⟨⟨rfl,rfl,k+1,by omega,by omega,fun j hj=>?_⟩,by dsimp only;omega⟩
 by_cases hjk:j=k
 ·subst hjk;exact⟨by omega,by omega⟩
 ·exact hd j (by omega)
theorem KL {l:B8} {k:Nat} (h:k<l.length):CN (l.take (k+1))=10*CN (l.take k)+((List.getD l k 0).toNat-48):=by
 rw[List.take_succ_eq_append_getElem h]
 unfold CN
 rw[QM]
 have:l[k]=List.getD l k 0:=by simp[List.getD,h]
 rw[<-this];rfl
theorem PK {l:B8} (hd:∀c,c∈l->B1 c) (h:l.length<=18) (k:Nat) (hk:k<l.length):CN (l.take k)<100000000000000000:=by
 have h1:=JN (l.take k) fun c hc=>hd c (List.mem_of_mem_take hc)
 rw[List.length_take,Nat.min_eq_left (by omega)]at h1
 have:(10:Nat)^k<=10^17:=Nat.pow_le_pow_right (by decide) (by omega)
 omega
theorem VP {l:B8} (hl:l.length<=18) (hd:∀c,c∈l->B1 c) (h0:l.getD 0 0≠48) {st:St} {K:Int->Int->St->Prop} (hk:K (CN l:Nat) 0 st):Ae PR EK [.str l] [.one (.int .i64),.one (.int .i64)] st K:=by
 refine LW l st K (Vr (by omega) ?_)
 have hno:decide (Sh l)=true:=decide_eq_true ⟨by omega,hd,fun _=>h0⟩
 rw[hno]
 refine Au (fun h=>by cases h) fun _=>?_
 refine⟨fun n i l' m st'=>l=l'/\st=st'/\(l.length:Int)=m/\∃k:Nat,i=k/\k<=l.length/\n=(CN (l.take k):Nat),fun _ i _ _ _=>(l.length-i).toNat,⟨rfl,rfl,rfl,0,rfl,Nat.zero_le _,rfl⟩,?_⟩
 rintro _ _ _ _ _ ⟨rfl,rfl,rfl,k,rfl,hkl,rfl⟩
 rw[Int.toNat_natCast]
 refine Ac (fun g=>⟨⟨by omega,g⟩,?_⟩) fun g=>?_
 ·have hk':k<l.length:=by omega
  have hv:=PK hd hl k hk'
  have hs:=KL hk'
  have hc:=hd _ (Kh hk')
  obtain⟨c1,c2⟩:=hc
  rw[PB _ (by omega) (by omega),As (((List.getD l k 0).toNat:Int)-48) (by omega) (by omega),As (9223372036854775807-_) (by omega) (by omega),Int.tdiv_eq_ediv_of_nonneg (by omega),As _ (by omega) (by omega)]
  refine Ac (fun g2=>by omega) fun g2=>?_
  rw[As (((CN (l.take k):Nat):Int)*10) (by omega) (by omega),As _ (by omega) (by omega),As _ (by omega) (by omega)]
  exact⟨⟨rfl,rfl,rfl,k+1,by omega,by omega,by rw[hs];omega⟩,by dsimp only;omega⟩
 ·have:k=l.length:=by omega
  subst this
  rw[List.take_length];exact hk
theorem Wl {ex:Int} {less:Bool} {l:B8} (h1: -100000000<=ex) (h2:ex<=100000000) (hd:∀c,c∈l->B1 c) (h0:l.getD 0 0≠48) {st:St} {K:Int->St->Prop}
  (hk:K (if less then ex-((if l.length<=12 then CN l else 1099511627776:Nat):Int)else ex+((if l.length<=12 then CN l else 1099511627776:Nat):Int)) st):Ae PR Eh [.int .i64 ex,.bool less,.str l] [.one (.int .i64)] st K:=by
 refine KI ex less l st K (Ac (fun g=>?_) fun g=>?_)
 ·have g':l.length<=12:=by omega
  rw[if_pos g']at hk
  have hv:=JN l hd
  have:(10:Nat)^l.length<=10^12:=Nat.pow_le_pow_right (by decide) g'
  refine VP (by omega) hd h0 (Au (fun e=>?_) fun e=>?_)
  ·rw[As _ (by omega) (by omega)];rw[if_pos e]at hk;exact hk
  ·rw[As _ (by omega) (by omega)];rw[e]at hk;exact hk
 ·rw[if_neg (show ¬l.length<=12 by omega)]at hk
  refine Au (fun e=>?_) fun e=>?_
  ·rw[As _ (by omega) (by omega)];rw[if_pos e]at hk;exact hk
  ·rw[As _ (by omega) (by omega)];rw[e]at hk;exact hk
abbrev KD (K:Bool->B8->Int->Int->St->Prop) (r:Bool×B8×Int×Int) (st:St):Prop:=K r.1 r.2.1 r.2.2.1 r.2.2.2 st
theorem norm_ok {neg:Bool} {s:B8} {ex:Int} (hl:s.length<=2000000) (h1: -3000000000000<=ex) (h2:ex<=3000000000000) {st:St} {K:Bool->B8->Int->Int->St->Prop} (hk:KD K (dcN neg s ex) st):
  Ae PR EN [.bool neg,.str s,.int .i64 ex] [.agg [.bool,.str,.int .i64],.one (.int .i64)] st K:=by
 unfold KD dcN at hk
 refine LZ neg s ex st K (Ac (fun g=>by rw[if_pos g]at hk;exact hk) fun g=>PL (by decide) (by omega) ?_)
 rw[if_neg g]at hk
 have ht:=MA s
 have e1:i64.wrap ((s.length:Int)-((Lib.trimRightB s 48).length:Int))=(Du s:Nat):=by rw[As _ (by omega) (by omega)];omega
 rw[e1]
 have e2:i64.wrap ((s.length:Int)-(Du s:Nat))=((s.length-Du s:Nat):Int):=by rw[As _ (by omega) (by omega)];omega
 rw[e2,Int.toNat_natCast,As (400-_) (by omega) (by omega),As (-400-_) (by omega) (by omega),As (ex+_) (by omega) (by omega)]
 have hlen:(s.take (s.length-Du s)).length=s.length-Du s:=by rw[List.length_take];omega
 rw[hlen]
 refine⟨⟨by omega,by omega⟩,Ac (fun g1=>?_) fun g1=>Ac (fun g2=>?_) fun g2=>Ac (fun g3=>?_) fun g3=>?_⟩
 ·rw[if_pos (by omega)]at hk;exact hk
 ·rw[if_pos (by omega)]at hk;exact hk
 ·rw[if_pos (by omega)]at hk;exact hk
 ·rw[if_neg (by omega)]at hk;exact hk
theorem Qa {neg:Bool} {s:B8} {ex:Int} (hl:s.length<=2000000) (hd:∀c,c∈s->B1 c) (h1: -3000000000000<=ex) (h2:ex<=3000000000000) {st:St} {K:Bool->B8->Int->Int->St->Prop} (hk:KD K (dcN neg (B7 s) ex) st):
  Ae PR Cy [.bool neg,.str s,.int .i64 ex] [.agg [.bool,.str,.int .i64],.one (.int .i64)] st K:=by
 refine L0 neg s ex st K ⟨fun i neg' s' ex' n _ _ _ st'=>neg=neg'/\s=s'/\ex=ex'/\(s.length:Int)=n/\st=st'/\0<=i,fun i _ _ _ _ _ _ _ _=>(s.length-i).toNat,⟨rfl,rfl,rfl,rfl,rfl,by omega⟩,?_⟩
 rintro i _ _ _ _ _ _ _ _ ⟨rfl,rfl,rfl,rfl,rfl,hi⟩
 refine Ac (fun g=>?_) fun g=>?_
 ·have hc:=hd _ (Kh (show i.toNat<s.length by omega))
  obtain⟨c1,c2⟩:=hc
  refine⟨⟨hi,g⟩,Ac (fun g1=>by omega) fun _=>⟨⟨hi,g⟩,Ac (fun g1=>by omega) fun _=>?_⟩⟩
  rw[As _ (by omega) (by omega)]
  exact⟨⟨rfl,rfl,rfl,rfl,rfl,by omega⟩,by dsimp only;omega⟩
 ·refine Lr (by decide) (norm_ok (Nat.le_trans (G2 s) hl) h1 h2 hk)
theorem dP_ok {s:B8} (hl:s.length<=1000000) {st:St} {K:Bool->B8->Int->Int->St->Prop} (hk:KD K (dcP s) st):Ae PR Ck [.str s] [.agg [.bool,.str,.int .i64],.one (.int .i64)] st K:=by
 refine KJ s st K (IA (by decide) ?_)
 refine⟨fun s1 neg _ _ _ st'=>st=st'/\dcP s=dcQ neg s1/\s1.length<=s.length,Ac (fun g=>?_) fun g=>?_,?_⟩
 ·refine⟨⟨by omega,?_⟩,rfl,?_,?_⟩
  ·cases s with
   | nil=>exact absurd g (by decide)
   | cons a s=>rw[List.length_cons];omega
  ·unfold dcP;rw[if_pos g,decide_eq_true g];rfl
  ·rw[List.length_drop];omega
 ·refine⟨rfl,?_,Nat.le_refl _⟩
  unfold dcP;rw[if_neg g,decide_eq_false g]
 rintro s1 neg _ _ _ _ ⟨rfl,h1,hl1⟩
 rw[h1]at hk
 refine SE (by omega) ?_
 have hrl:=ID s1
 refine⟨fun s2 neg2 n _ _ _ st'=>s1=s2/\neg=neg2/\n=((AZ s1).length:Nat)/\st=st'/\dcQ neg s1=dcF neg (AZ s1) (s1.drop (AZ s1).length),Ac (fun g=>?_) fun g=>Ac (fun g2=>?_) fun g2=>?_,?_⟩
 ·have:AZ s1=[]:=List.length_eq_zero_iff.1 (by omega)
  unfold KD dcQ at hk
  rw[if_pos (.inl this)]at hk;exact hk
 ·refine⟨⟨by omega,by omega⟩,Ac (fun g3=>?_) fun g3=>⟨rfl,rfl,rfl,rfl,?_⟩⟩
  ·have:s1.getD 0 0=48:=u8i.1 g3
   unfold KD dcQ at hk
   rw[if_pos (.inr ⟨by omega,this⟩)]at hk;exact hk
  ·unfold dcQ
   rw[if_neg]
   rintro(h | ⟨_,h⟩)
   ·exact g (by rw[h];rfl)
   ·exact g3 (by show((s1.getD 0 0).toNat:Int)=48;rw[h];rfl)
 ·refine⟨rfl,rfl,rfl,rfl,?_⟩
  unfold dcQ
  rw[if_neg]
  rintro(h | ⟨h,_⟩)
  ·exact g (by rw[h];rfl)
  ·omega
 rintro _ _ _ _ _ _ _ ⟨rfl,rfl,rfl,rfl,h2⟩
 rw[h2]at hk
 rw[Int.toNat_natCast,Jy]
 refine⟨⟨by omega,by omega⟩,⟨by omega,by omega⟩,?_⟩
 have hdg:=NH s1
 generalize hr:s1.drop (AZ s1).length=r at*
 generalize ha:AZ s1=a at*
 have hrl2:a.length+r.length<=1000000:=by
  have:r.length=s1.length-a.length:=by rw[<-hr,List.length_drop]
  omega
 clear hr ha h1 h2
 refine⟨fun s3 all ex neg3 _ _ _ st'=>neg=neg3/\st=st'/\dcF neg a r=dcE neg all ex s3/\ -1000000<=ex/\ex<=0/\all.length<=1000000/\s3.length<=1000000/\∀c,c∈all->B1 c,IA (by decide) (Ac (fun g=>?_) fun g=>?_),?_⟩
 ·have hr1:1<=r.length:=by
   cases r with
   | nil=>exact absurd g (by decide)
   | cons c r=>rw[List.length_cons];omega
  refine⟨⟨by omega,by omega⟩,SE (by show(r.drop 1).length<=_;rw[List.length_drop];omega) ?_⟩
  rw[show Int.toNat (1:Int)=1 from rfl]
  have hd1:=ID (r.drop 1)
  have hd2:=NH (r.drop 1)
  have hd3:=Jy (r.drop 1)
  rw[List.length_drop]at hd1
  generalize hf:AZ (r.drop 1)=f at*
  refine Ac (fun g2=>?_) fun g2=>?_
  ·have:f=[]:=List.length_eq_zero_iff.1 (by omega)
   unfold KD dcF at hk
   rw[if_pos g,hf,if_pos this]at hk;exact hk
  ·rw[As (((f.length:Nat):Int)+1) (by omega) (by omega),As (0-_) (by omega) (by omega),show((((f.length:Nat):Int)+1).toNat)=1+f.length by omega]
   have hdt:(r.take (1+f.length)).drop 1=f:=by rw[List.drop_take,Nat.add_sub_cancel_left];exact hd3
   refine⟨⟨by omega,by omega,by omega⟩,?_⟩
   show(a.length+((r.take (1+f.length)).drop 1).length<=_)/\_
   rw[hdt]
   refine⟨by omega,⟨by omega,by omega⟩,rfl,rfl,?_,by omega,by omega,by rw[List.length_append];omega,by rw[List.length_drop];omega,fun c hc=>?_⟩
   ·unfold dcF
    rw[if_pos g,hf,if_neg (fun e=>g2 (by rw[e];rfl))]
    rw[show(0:Int)-(f.length:Nat)= -(f.length:Nat) by omega]
   ·rcases List.mem_append.1 hc with hc | hc
    ·exact hdg c hc
    ·exact hd2 c hc
 ·refine⟨rfl,rfl,?_,by omega,by omega,by omega,by omega,hdg⟩
  unfold dcF;rw[if_neg g]
 rintro s3 all ex _ _ _ _ _ ⟨rfl,rfl,h3,x1,x2,x3,x4,x5⟩
 rw[h3]at hk
 clear h3 hdg hrl2
 refine Ac (fun g=>?_) fun g=>?_
 ·have hpos:1<=s3.length:=List.length_pos_iff.2 g
  refine⟨fun s4 neg4 all4 ex4 _ _ _ st'=>s3=s4/\neg=neg4/\all=all4/\ex=ex4/\st=st'/\(s3.getD 0 0=101∨s3.getD 0 0=69),?_,?_⟩
  ·have n101:((s3.getD 0 0).toNat:Int)≠101↔s3.getD 0 0≠101:=not_congr (u8i (k:=101))
   have n69:((s3.getD 0 0).toNat:Int)≠69↔s3.getD 0 0≠69:=not_congr (u8i (k:=69))
   refine⟨⟨by omega,by omega⟩,Ac (fun g1=>⟨⟨by omega,by omega⟩,Ac (fun g2=>?_) fun g2=>⟨rfl,rfl,rfl,rfl,rfl,.inr (Decidable.not_not.1 fun h=>g2 (n69.2 h))⟩⟩) fun g1=>⟨rfl,rfl,rfl,rfl,rfl,.inl (Decidable.not_not.1 fun h=>g1 (n101.2 h))⟩⟩
   unfold KD dcE at hk
   rw[if_neg g,if_neg (by rintro(h | h);exact n101.1 g1 h;exact n69.1 g2 h)]at hk
   exact hk
  rintro _ _ _ _ _ _ _ _ ⟨rfl,rfl,rfl,rfl,rfl,he⟩
  unfold KD dcE at hk
  rw[if_neg g,if_pos he]at hk
  refine⟨⟨by omega,by omega⟩,IA (by decide) ?_⟩
  show ∃_,_
  refine⟨fun s5 neg5 all5 ex5 less _ _ _ st'=>neg=neg5/\all=all5/\ex=ex5/\st=st'/\s5.length<=1000000/\KD K (dcX neg all ex less s5) st,Ac (fun g1=>?_) fun g1=>IA (by decide) (Ac (fun g2=>?_) fun g2=>?_),?_⟩
  ·have g1':(s3.drop 1).getD 0 0=45:=g1
   rw[if_pos g1']at hk
   refine⟨⟨by omega,?_⟩,rfl,rfl,rfl,rfl,?_,?_⟩
   ·have:1<=(s3.drop 1).length:=by
     cases hc:s3.drop 1 with
     | nil=>rw[hc]at g1';exact absurd g1' (by decide)
     | cons c r=>rw[List.length_cons];omega
    exact Int.ofNat_le.2 this
   ·show((s3.drop 1).drop 1).length<=_;rw[List.length_drop,List.length_drop];omega
   ·rw[decide_eq_true g1]
    show KD K (dcX neg all ex true ((s3.drop 1).drop 1)) st
    rw[List.drop_drop];exact hk
  ·have g1':¬(s3.drop 1).getD 0 0=45:=g1
   have g2':(s3.drop 1).getD 0 0=43:=g2
   rw[if_neg g1',if_pos g2']at hk
   refine⟨⟨by omega,?_⟩,rfl,rfl,rfl,rfl,?_,?_⟩
   ·have:1<=(s3.drop 1).length:=by
     cases hc:s3.drop 1 with
     | nil=>rw[hc]at g2';exact absurd g2' (by decide)
     | cons c r=>rw[List.length_cons];omega
    exact Int.ofNat_le.2 this
   ·show((s3.drop 1).drop 1).length<=_;rw[List.length_drop,List.length_drop];omega
   ·rw[decide_eq_false g1]
    show KD K (dcX neg all ex false ((s3.drop 1).drop 1)) st
    rw[List.drop_drop];exact hk
  ·have g1':¬(s3.drop 1).getD 0 0=45:=g1
   have g2':¬(s3.drop 1).getD 0 0=43:=g2
   rw[if_neg g1',if_neg g2']at hk
   refine⟨rfl,rfl,rfl,rfl,?_,?_⟩
   ·show(s3.drop 1).length<=_;rw[List.length_drop];omega
   ·rw[decide_eq_false g1];exact hk
  rintro s5 _ _ _ less _ _ _ _ ⟨rfl,rfl,rfl,rfl,hl5,hk5⟩
  unfold KD dcX at hk5
  refine Ac (fun g1=>by rw[if_pos (.inl g1)]at hk5;exact hk5) fun g1=>SE (by omega) (Ac (fun g2=>?_) fun g2=>?_)
  ·rw[if_pos (.inr (by omega))]at hk5;exact hk5
  ·have hall:AZ s5=s5:=by
    have:=Ph s5
    have h0:s5.drop (AZ s5).length=[]:=List.drop_of_length_le (by omega)
    rw[h0,List.append_nil]at this
    exact this.symm
   have hd5:∀c,c∈s5->B1 c:=by rw[<-hall];exact NH s5
   rw[if_neg (by rintro(h | h);exact g1 h;exact h (by rw[hall]))]at hk5
   refine Lr (by decide) (Wl (by omega) (by omega) (fun c hc=>hd5 c (Jl s5 c hc)) (Lt s5) ?_)
   show Ae PR Cy [.bool neg,.str all,.int .i64 (if less=true then ex-((if (B7 s5).length<=12 then CN (B7 s5)else 1099511627776:Nat):Int)else ex+((if (B7 s5).length<=12 then CN (B7 s5)else 1099511627776:Nat):Int))] _ _ _
   rw[G0]
   have sm:=G2 all
   by_cases h12:(B7 s5).length<=12
   ·have hn:=UJ hd5 h12
    rw[if_pos h12]
    refine Qa (by omega) x5 ?_ ?_ hk5
    ·split<;>omega
    ·split<;>omega
   ·have hf:=VN (k:=12) hd5 (by omega)
    rw[if_neg h12]
    refine Qa (by omega) x5 ?_ ?_ ?_
    ·split<;>omega
    ·split<;>omega
    ·have:=dcN_far (neg:=neg) (s:=B7 all) (ex:=ex) (n:=((1099511627776:Nat):Int)) (m:=(CN s5:Nat)) (by omega) (by omega) (by omega) (by omega) (by omega) less
     unfold KD
     rw[this];exact hk5
 ·have g0:s3=[]:=Decidable.not_not.1 g
  unfold KD dcE at hk
  rw[if_pos g0]at hk
  exact Qa (by omega) x5 (by omega) (by omega) hk
theorem JS {α:Type} {l m:List α} {k:Nat} {x y:α} (h:l.take k=m.take k) (hx:l[k]? =some x) (hy:m[k]? =some y) (e:x=y):l.take (k+1)=m.take (k+1):=by
 rw[OC hx,OC hy,h,e]
theorem sc_eq {s t:Sc} (h1:s.kind=t.kind) (h2:s.b=t.b) (h3:s.neg=t.neg) (h4:s.dg=t.dg) (h5:s.ex=t.ex) (h6:s.tk=t.tk) (h7:s.td=t.td) (h8:s.tn=t.tn) (h9:s.tz=t.tz) (h10:s.text=t.text) (h11:s.bytes=t.bytes):s=t:=by
 cases s;cases t;simp_all
theorem Same_ok:∀(N:Nat) (v w:Vl),v.sz<=N->w.sz<=2000000->N<=2000000->∀{st0 st:St} {cs ds:List TV} {K:Bool->St->Prop},VlR st0 v cs->VlR st0 w ds->DF st0 st->(∀r,(r=true↔v=w)->K r st)->
  Ae PR BC [.agg cs,.agg ds] [.one .bool] st K:=by
 intro N
 induction N with
 | zero=>intro v w h;have:=v.sz_pos;omega
 | succ N ih=>
 intro v w hN hW hN2 st0 st cs ds K h h' hke hk
 cases v with
 | mk s l f=>
 cases w with
 | mk t m g=>
 have hsz:=szs s l f
 have hll:=HR l
 have hfl:=Ih f
 have hsz':=szs t m g
 have hll':=HR m
 have hfl':=Ih g
 obtain⟨ub,ul,uf,xl,xf,rfl,h1,h2,h3,h4,h5⟩:=h.cells
 obtain⟨wb,wl,wf,yl,yf,rfl,k1,k2,k3,k4,k5⟩:=h'.cells
 have no:(Vl.mk s l f≠Vl.mk t m g)->K false st:=fun hne=>hk false ⟨fun h=>(by cases h),fun h=>absurd h hne⟩
 have inj:Vl.mk s l f=Vl.mk t m g↔s=t/\l=m/\f=g:=by simp
 refine HZ _ _ _ _ _ _ _ _ _ _ _ _ _ _ _ _ _ _ _ _ _ _ _ _ _ _ st K ?_
 refine Ac (fun e=>no fun h=>e (by rw[(inj.1 h).1])) fun e1=>Au (fun e=>no fun h=>?_) fun e2=>Au (fun e=>no fun h=>?_) fun e3=>Au (fun e=>no fun h=>?_) fun e4=>Ac (fun e=>no fun h=>e (by rw[(inj.1 h).1])) fun e5=>?_
 ·rw[(inj.1 h).1]at e;simp at e
 ·rw[(inj.1 h).1]at e;simp at e
 ·rw[(inj.1 h).1]at e;simp at e
 refine Ad (x:= .str s.bytes) (by rw[(h1.keep hke).toBytes];rfl) (Al (Ad (x:=TV.str t.bytes) (by rw[(k1.keep hke).toBytes];rfl) (Al ?_)))
 refine Ac (fun e=>no fun h=>e (by rw[(inj.1 h).1])) fun e6=>?_
 have hst:s=t:=by
  simp only[Bool.not_eq_false',Bool.and_eq_true,beq_iff_eq,decide_eq_true_eq,and_true]at e2 e3 e4
  exact sc_eq (Decidable.not_not.1 e1) e2 e3.1 e3.2.1 e3.2.2 e4.1 e4.2.1 e4.2.2.1 e4.2.2.2 (Decidable.not_not.1 e5) (Decidable.not_not.1 e6)
 subst hst
 refine Aa h2.isSl (Aa k2.isSl ?_)
 rw[h2.lenS,k2.lenS]
 refine Ac (fun e=>no fun h=>e (by rw[(inj.1 h).2.1])) fun e7=>Aa h4.isSl (Aa k4.isSl ?_)
 rw[h4.lenS,k4.lenS]
 refine Ac (fun e=>no fun h=>e (by rw[(inj.1 h).2.2])) fun e8=>?_
 have ell:l.length=m.length:=by omega
 have efl:f.length=g.length:=by omega
 refine⟨fun i a1 a2 a3 a4 a5 a6 a7 a8 a9 a10 a11 a12 a13 b1 b2 b3 b4 b5 b6 b7 b8 b9 b10 b11 b12 b13 st'=>ul=a12/\uf=a13/\wl=b12/\wf=b13/\st=st'/\∃k:Nat,i=k/\k<=l.length/\l.take k=m.take k,fun i _ _ _ _ _ _ _ _ _ _ _ _ _ _ _ _ _ _ _ _ _ _ _ _ _ _ _=>(l.length-i).toNat,
  ⟨rfl,rfl,rfl,rfl,rfl,0,rfl,Nat.zero_le _,rfl⟩,?_⟩
 rintro _ a1 a2 a3 a4 a5 a6 a7 a8 a9 a10 a11 _ _ b1 b2 b3 b4 b5 b6 b7 b8 b9 b10 b11 _ _ _ ⟨rfl,rfl,rfl,rfl,rfl,k,rfl,hkl,hE⟩
 refine Aa h2.isSl (Ac (fun q=>?_) fun q=>?_)
 ·rw[h2.lenS]at q
  refine el13 hke h2 h3 rfl (by omega) fun s1 l1 f1 ub1 ul1 uf1 gw hw on=>el13 hke k2 k3 rfl (by omega) fun s2 l2 f2 ub2 ul2 uf2 gw2 hw2 on2=>?_
  have hwsz:=HS gw
  have hwsz2:=HS gw2
  refine ih _ (.mk s2 l2 f2) (by omega) (by omega) (by omega) hw hw2 hke fun r hr=>Au (fun hb=>no fun h=>?_) fun hb=>?_
  ·rw[(inj.1 h).2.1,gw2]at gw
   rw[hr.2 (Option.some.inj gw).symm]at hb;cases hb
  ·rw[As _ (by omega) (by omega)]
   exact⟨⟨rfl,rfl,rfl,rfl,rfl,k+1,by omega,by omega,JS hE gw gw2 (hr.1 (by simpa using hb))⟩,by dsimp only;omega⟩
 ·rw[h2.lenS]at q
  have hlm:l=m:=by
   have:k=l.length:=by omega
   rw[this,List.take_length,ell,List.take_length]at hE;exact hE
  subst hlm
  refine⟨fun i a1 a2 a3 a4 a5 a6 a7 a8 a9 a10 a11 a12 a13 b1 b2 b3 b4 b5 b6 b7 b8 b9 b10 b11 b12 b13 st'=>uf=a13/\wf=b13/\st=st'/\∃k:Nat,i=k/\k<=f.length/\f.take k=g.take k,fun i _ _ _ _ _ _ _ _ _ _ _ _ _ _ _ _ _ _ _ _ _ _ _ _ _ _ _=>(f.length-i).toNat,
   ⟨rfl,rfl,rfl,0,rfl,Nat.zero_le _,rfl⟩,?_⟩
  rintro _ a1 a2 a3 a4 a5 a6 a7 a8 a9 a10 a11 a12 _ b1 b2 b3 b4 b5 b6 b7 b8 b9 b10 b11 b12 _ _ ⟨rfl,rfl,rfl,k,rfl,hkl,hF⟩
  refine Aa h4.isSl (Ac (fun q=>?_) fun q=>?_)
  ·rw[h4.lenS]at q
   have gd:f[k]? =some f[k]:=List.getElem?_eq_getElem (by omega)
   have gd2:g[k]? =some g[k]:=List.getElem?_eq_getElem (by omega)
   generalize f[k]=d at gd
   generalize g[k]=d2 at gd2
   refine key14 hke h4 h5 rfl gd (key14 hke k4 k5 rfl gd2 (Ac (fun e=>?_) fun e=>?_))
   ·refine⟨Ul hke k4 k5 gd2,Ul hke h4 h5 gd,no fun h=>e ?_⟩
    rw[(inj.1 h).2.2,gd2]at gd
    rw[Option.some.inj gd]
   ·refine val14 hke h4 h5 rfl (by omega) fun key1 s1 l1 f1 ub1 ul1 uf1 gw hw on=>val14 hke k4 k5 rfl (by omega) fun key2 s2 l2 f2 ub2 ul2 uf2 gw2 hw2 on2=>?_
    have hwsz:=Ii gw
    have hwsz2:=Ii gw2
    have hwk:=szd key1 (.mk s1 l1 f1)
    have hwk2:=szd key2 (.mk s2 l2 f2)
    refine ih (.mk s1 l1 f1) (.mk s2 l2 f2) (by omega) (by omega) (by omega) hw hw2 hke fun r hr=>⟨Ul hke k4 k5 gd2,Ul hke h4 h5 gd,Au (fun hb=>no fun h=>?_) fun hb=>?_⟩
    ·rw[(inj.1 h).2.2,gw2]at gw
     have:=Option.some.inj gw
     simp only[Fd.mk.injEq]at this
     rw[hr.2 this.2.symm]at hb;cases hb
    ·rw[As _ (by omega) (by omega)]
     refine⟨⟨rfl,rfl,rfl,k+1,by omega,by omega,JS hF gw gw2 ?_⟩,by dsimp only;omega⟩
     rw[gd]at gw
     rw[gd2]at gw2
     have q1:=Option.some.inj gw
     have q2:=Option.some.inj gw2
     subst q1 q2
     have:=hr.1 (by simpa using hb)
     simp only[Fd.key,Decidable.not_not]at e
     rw[e,this]
  ·rw[h4.lenS]at q
   have hfg:f=g:=by
    have:k=f.length:=by omega
    rw[this,List.take_length,efl,List.take_length]at hF;exact hF
   exact hk true ⟨fun _=>by rw[hfg],fun _=>rfl⟩
def zs (n:Nat):B8:=List.replicate n 48
theorem Eo (st:St) (b:Nat) (o:IM):(st.put b o).box b=o:=by simp[St.put]
theorem Ir (st:St) (o:IM) (t:Option Nat):(st.push o t).box st.nb=o:=by simp[St.push]
def monX (y m:Nat):Nat:=if 1<=y/\y<=9999/\1<=m/\m<=12 then Rx y m else 0
theorem P8 {y m:Nat} (h1:1<=y) (h2:y<=9999) (h3:1<=m) (h4:m<=12):monX y m=Rx y m:=if_pos ⟨h1,h2,h3,h4⟩
theorem LO {y:Nat} {st:St} {K:Bool->St->Prop} (hk:K (decide (1<=y/\y<=9999)) st):Ae PR CK [.int .i64 (y:Int)] [.one .bool] st K:=by
 refine JK _ st K (Ac (fun g=>?_) fun g=>?_)
 ·exact Gz (decide_eq_decide.2 ⟨fun h=>by omega,fun h=>by omega⟩) hk
 ·rw[decide_eq_false (by omega)]at hk;exact hk
theorem Tx {y:Nat} (h1:1<=y) (h2:y<=9999) {st:St} {K:Bool->St->Prop} (hk:K (decide (Uk y)) st):Ae PR Ei [.int .i64 (y:Int)] [.one .bool] st K:=by
 refine KK _ st K (LO ?_)
 rw[decide_eq_true ⟨h1,h2⟩,Int.tmod_eq_emod_of_nonneg (by omega),Int.tmod_eq_emod_of_nonneg (by omega),Int.tmod_eq_emod_of_nonneg (by omega)]
 unfold Uk at hk
 refine Ac (p:=True) (fun _=>Ac (fun g=>Ac (fun g2=>?_) fun g2=>?_) fun g=>?_) (fun h=>absurd trivial h)
 ·exact Gz (decide_eq_true (show y%4=0/\(y%100≠0∨y%400=0)from⟨by omega,.inl (by omega)⟩) |>.symm) hk
 ·exact Gz (decide_eq_decide.2 ⟨fun h=>⟨by omega,.inr (by omega)⟩,fun h=>by omega⟩) hk
 ·exact Gz (decide_eq_false (show ¬(y%4=0/\(y%100≠0∨y%400=0))from fun h=>by omega) |>.symm) hk
theorem days_ix:∀k:Nat,k<12->k≠1->(([.int .i64 31,.int .i64 28,.int .i64 31,.int .i64 30,.int .i64 31,.int .i64 30,.int .i64 31,.int .i64 31,.int .i64 30,.int .i64 31,.int .i64 30,.int .i64 31]:List TV)[(0+k*1)+0]?)=some (.int .i64 (if k+1=4∨k+1=6∨k+1=9∨k+1=11 then 30 else 31))
 | 0,_,_=>rfl
 | 1,_,h=>absurd rfl h
 | 2,_,_=>rfl
 | 3,_,_=>rfl
 | 4,_,_=>rfl
 | 5,_,_=>rfl
 | 6,_,_=>rfl
 | 7,_,_=>rfl
 | 8,_,_=>rfl
 | 9,_,_=>rfl
 | 10,_,_=>rfl
 | 11,_,_=>rfl
 | k+12,h,_=>by omega
theorem LP {y m:Nat} (hm:m<=1000000) {st:St} {K:Int->St->Prop} (hk:K (monX y m:Nat) st):Ae PR CL [.int .i64 (y:Int),.int .i64 (m:Int)] [.one (.int .i64)] st K:=by
 unfold monX at hk
 refine JM _ _ st K (LO ?_)
 by_cases hy:1<=y/\y<=9999
 ·rw[decide_eq_true hy]
  refine Ac (p:=False) (fun h=>h.elim) fun _=>Ac (fun g=>?_) fun g=>Ac (fun g2=>?_) fun g2=>?_
  ·rw[if_neg (by omega)]at hk;exact hk
  ·rw[if_neg (by omega)]at hk;exact hk
  ·rw[if_pos (by omega)]at hk
   unfold Rx at hk
   rw[As _ (by omega) (by omega)]
   refine Ac (fun g3=>Tx hy.1 hy.2 (Ac (fun g4=>?_) fun g4=>?_)) fun g3=>⟨⟨by omega,by omega⟩,?_⟩
   ·rw[if_pos (by omega),if_pos g4]at hk;exact hk
   ·rw[if_pos (by omega),if_neg g4]at hk
    refine⟨⟨by omega,by omega⟩,?_⟩
    have:m=2:=by omega
    subst this
    exact Ad (x:= .int .i64 28) rfl (Ao hk)
   ·rw[if_neg (by omega)]at hk
    obtain⟨k,rfl⟩:∃k,m=k+1:=⟨m-1,by omega⟩
    rw[show(((k+1:Nat):Int)-1)=(k:Int) by omega,Int.toNat_natCast]
    refine Ad (days_ix k (by omega) (by omega)) (Ao ?_)
    split
    ·rename_i h;rw[if_pos h]at hk;exact hk
    ·rename_i h;rw[if_neg h]at hk;exact hk
 ·rw[decide_eq_false hy]
  refine Ac (p:=True) (fun _=>?_) fun h=>absurd trivial h
  rw[if_neg (fun h=>hy ⟨h.1,h.2.1⟩)]at hk;exact hk
theorem R7 {y:Nat} (h1:1<=y) (h2:y<=1000000) {st:St} {K:Int->St->Prop} (hk:K (yrS y:Nat) st):Ae PR DR [.int .i64 (y:Int)] [.one (.int .i64)] st K:=by
 refine JL _ st K ?_
 obtain⟨k,rfl⟩:∃k,y=k+1:=⟨y-1,by omega⟩
 unfold yrS at hk
 rw[Nat.add_sub_cancel]at hk
 rw[show(((k+1:Nat):Int)-1)=(k:Int) by omega,As (k:Int) (by omega) (by omega),Int.tdiv_eq_ediv_of_nonneg (by omega),Int.tdiv_eq_ediv_of_nonneg (by omega),Int.tdiv_eq_ediv_of_nonneg (by omega)]
 rw[As (365*(k:Int)) (by omega) (by omega),As ((k:Int)/4) (by omega) (by omega),As ((k:Int)/100) (by omega) (by omega),As ((k:Int)/400) (by omega) (by omega),As (365*(k:Int)+(k:Int)/4) (by omega) (by omega),As (365*(k:Int)+(k:Int)/4-(k:Int)/100) (by omega) (by omega),As _ (by omega) (by omega)]
 have e:(((365*k+k/4-k/100+k/400:Nat):Nat):Int)=365*(k:Int)+(k:Int)/4-(k:Int)/100+(k:Int)/400:=by omega
 rw[e]at hk;exact hk
theorem Uh (y:Nat):∀m,Rw y m<=31*m
 | 0=>Nat.le_refl _
 | 1=>Nat.zero_le _
 | m+2=>by
  have:=Uh y (m+1)
  have:=Ui y (m+1)
  simp only[Rw];omega
def TR (r:Nat) (st:St):Option B8->Prop
 | some s=>r<st.nb/\st.box r= .cells [.str s,.bool false]/\s.length<=1000000
 | none=>r<st.nb/\∃s,st.box r= .cells [.str s,.bool true]/\s.length<=1000000
theorem TR.get {r:Nat} {st:St} {S:Option B8} (h:TR r st S):r<st.nb/\∃s,st.box r= .cells [.str s,.bool S.isNone]/\s.length<=1000000/\(∀x,S=some x->s=x):=by
 cases S with
 | none=>obtain⟨h1,s,h2,h3⟩:=h;exact⟨h1,s,h2,h3,fun x hx=>by cases hx⟩
 | some s=>obtain⟨h1,h2,h3⟩:=h;exact⟨h1,s,h2,h3,fun x hx=>by cases hx;rfl⟩
def TM (r f:Nat) (st:St) (S:Option B8) (l:List TV):Prop:=TR r st S/\f<st.nb/\st.box f= .cells l/\r≠f
theorem Jk {r:Nat} {st:St} {s:B8} {b:Bool} (h:st.box r= .cells [.str s,.bool b]) (hr:r<st.nb) (hl:s.length<=1000000) {K:St->Prop} (hk:∀st',StX (·=r) st st'->TR r st' none->K st'):
  stB st (.box r 1) [.bool true] K:=
 ⟨_,h,by simp,hk _ (StX.put (S:=(·=r)) rfl _) ⟨hr,s,by simp[St.put,setAll],hl⟩⟩
theorem KN {r:Nat} {st:St} {s t:B8} {S:Option B8} (h:TR r st S) (ht:t.length<=1000000) {K:St->Prop} (hk:∀st',StX (·=r) st st'->TR r st' (S.map fun _=>t)->K st'):
  stB st (.box r 0) [.str t] K:=by
 obtain⟨hr,s,hb,hl,_⟩:=h.get
 refine⟨_,hb,by simp,hk _ (StX.put (S:=(·=r)) rfl _) ?_⟩
 cases S with
 | none=>exact⟨hr,t,by simp[St.put,setAll],ht⟩
 | some x=>exact⟨hr,by simp[St.put,setAll],ht⟩
def Kb (w:Nat) (s:B8):Prop:=w<=s.length/\∀i,i<w->B1 (s.getD i 0)
instance (w:Nat) (s:B8):Decidable (Kb w s):=inferInstanceAs (Decidable (_/\_))
def IL (w:Nat) (S:Option B8) (n:Nat) (T:Option B8):Prop:=match S with
 | none=>T=none
 | some s=>if Kb w s then T=some (s.drop w)/\n=CN (s.take w)else T=none
theorem Oz {l:B8} {w:Nat} (hw:w<=l.length) (h:∀i,i<w->B1 (l.getD i 0)):CN (l.take w)<10^w:=by
 have h1:=JN (l.take w) fun c hc=>by
  obtain⟨i,hi⟩:=List.getElem?_of_mem hc
  have hl:=(List.getElem?_eq_some_iff.1 hi).1
  rw[List.length_take]at hl
  rw[List.getElem?_take,if_pos (by omega)]at hi
  have:=h i (by omega)
  rwa [List.getD,hi]at this
 rwa [List.length_take,Nat.min_eq_left hw]at h1
theorem FZ {r:Nat} {w:Nat} (hw:w<=9) {st:St} {S:Option B8} (h:TR r st S) {K:Int->St->Prop} (hk:∀(n:Nat) st' T,n<10^w->StX (·=r) st st'->TR r st' T->IL w S n T->K (n:Nat) st'):
  Ae PR AC [.box r 0,.int .i64 (w:Nat)] [.one (.int .i64)] st K:=by
 obtain⟨hr,s,hb,hl,hx⟩:=h.get
 have hs:Ab st [] (.t (.box r 0)) 0=some (.str s):=by simp[Ab,hb]
 have p10:0<10^w:=Nat.pow_pos (by decide)
 have p18:10^w<=10^9:=Nat.pow_le_pow_right (by decide) hw
 have bad:¬Kb w s->∀st',StX (·=r) st st'->TR r st' none->K ((0:Nat):Int) st':=fun hn st' e h'=>hk 0 st' none p10 e h' (by
  cases S with
  | none=>rfl
  | some x=>rw[<-hx x rfl];show(if Kb w s then _ else _);rw[if_neg hn])
 refine GE r _ st K (Ad hs (Al (Ac (fun g=>Jk hb hr hl (bad fun h=>by have:=h.1;omega)) fun g=>?_)))
 refine⟨fun n i p w' m st'=> .box r 0=p/\((w:Nat):Int)=w'/\((w:Nat):Int)=m/\st=st'/\∃k:Nat,i=k/\k<=w/\n=(CN (s.take k):Nat)/\∀j,j<k->B1 (s.getD j 0),fun _ i _ _ _ _=>(w-i).toNat,⟨rfl,rfl,rfl,rfl,0,rfl,Nat.zero_le _,rfl,fun j h=>absurd h (Nat.not_lt_zero _)⟩,?_⟩
 rintro _ _ _ _ _ _ ⟨rfl,rfl,rfl,rfl,k,rfl,hkw,rfl,hd⟩
 rw[Int.toNat_natCast]
 have hv:=Oz (l:=s) (w:=k) (by omega) hd
 have p1:10^k<=10^9:=Nat.pow_le_pow_right (by decide) (by omega)
 refine Ac (fun g1=>Aa rfl (Aa rfl (Ad hs (Al ⟨⟨by omega,by omega⟩,Ac (fun g2=>?_) fun g2=>Aa rfl (Aa rfl (Ad hs (Al ⟨⟨by omega,by omega⟩,Ac (fun g3=>?_) fun g3=>?_⟩)))⟩)))) fun g1=>?_
 ·exact Aa rfl (Aa rfl (Jk hb hr hl (bad fun h=>by have:=(h.2 k (by omega)).1;omega)))
 ·exact Aa rfl (Aa rfl (Jk hb hr hl (bad fun h=>by have:=(h.2 k (by omega)).2;omega)))
 ·refine Aa rfl (Aa rfl (Ad hs (Al ⟨⟨by omega,by omega⟩,?_⟩)))
  have hsn:=KL (l:=s) (k:=k) (by omega)
  rw[PB _ (by omega) (by omega),As (10*_) (by omega) (by omega),As (((s.getD k 0).toNat:Int)-48) (by omega) (by omega),As (_+_) (by omega) (by omega),As _ (by omega) (by omega)]
  refine⟨⟨rfl,rfl,rfl,rfl,k+1,by omega,by omega,by rw[hsn];omega,fun j hj=>?_⟩,by dsimp only;omega⟩
  by_cases hjk:j=k
  ·subst hjk;exact⟨by omega,by omega⟩
  ·exact hd j (by omega)
 ·have hkk:k=w:=by omega
  subst hkk
  refine Aa rfl (Aa rfl (Ad hs (Al ⟨⟨by omega,by omega⟩,Aa rfl (Aa rfl (KN (s:=s) h (by rw[List.length_drop];omega) fun st' e h'=>hk _ st' _ hv e h' ?_))⟩)))
  cases S with
  | none=>rfl
  | some x=>
   obtain rfl:=hx x rfl
   show(if Kb k s then _ else _)
   rw[if_pos ⟨by omega,hd⟩]
   exact⟨rfl,rfl⟩
def L9 (of:B8) (S:Option B8) (c:Nat) (T:Option B8):Prop:=match S with
 | none=>T=none
 | some s=>if s.getD 0 0∈of then T=some (s.drop 1)/\c=(s.getD 0 0).toNat else T=none
theorem FY {r:Nat} {of:B8} (hof:(0:UInt8)∉of) (hlo:of.length<=100) {st:St} {S:Option B8} (h:TR r st S) {K:Int->St->Prop} (hk:∀(n:Nat) st' T,n<256->StX (·=r) st st'->TR r st' T->L9 of S n T->K (n:Nat) st'):
  Ae PR AK [.box r 0,.str of] [.one (.int .u8)] st K:=by
 obtain⟨hr,s,hb,hl,hx⟩:=h.get
 have hs:Ab st [] (.t (.box r 0)) 0=some (.str s):=by simp[Ab,hb]
 have bad:s.getD 0 0∉of->∀st',StX (·=r) st st'->TR r st' none->K ((0:Nat):Int) st':=fun hn st' e h'=>hk 0 st' none (by decide) e h' (by
  cases S with
  | none=>rfl
  | some x=>rw[<-hx x rfl];show(if s.getD 0 0∈of then _ else _);rw[if_neg hn])
 refine HV r of st K (Ad hs (Al (Ac (fun g=>?_) fun g=>?_)))
 ·have hpos:0<s.length:=List.length_pos_iff.2 g
  refine⟨fun i p of' m st'=> .box r 0=p/\of=of'/\(of.length:Int)=m/\st=st'/\∃k:Nat,i=k/\k<=of.length/\∀j,j<k->of.getD j 0≠s.getD 0 0,fun i _ _ _ _=>(of.length-i).toNat,⟨rfl,rfl,rfl,rfl,0,rfl,Nat.zero_le _,fun j h=>absurd h (Nat.not_lt_zero _)⟩,?_⟩
  rintro _ _ _ _ _ ⟨rfl,rfl,rfl,rfl,k,rfl,hkw,hd⟩
  rw[Int.toNat_natCast]
  refine Ac (fun g1=>Aa rfl (Aa rfl (Ad hs (Al ⟨⟨by omega,by omega⟩,⟨by omega,g1⟩,Ac (fun g2=>?_) fun g2=>?_⟩)))) fun g1=>?_
  ·have g2':s.getD 0 0=of.getD k 0:=UInt8.toNat_inj.1 (Int.ofNat.inj g2)
   have hmem:s.getD 0 0∈of:=by rw[g2'];exact Kh (by omega)
   refine Aa rfl (Aa rfl (Ad hs (Al ⟨⟨by omega,by omega⟩,Aa rfl (Aa rfl (KN (s:=s) h (by rw[List.length_drop];omega) fun st' e h'=>⟨⟨by omega,g1⟩,hk _ st' _ (UInt8.toNat_lt _) e h' ?_⟩))⟩)))
   cases S with
   | none=>rfl
   | some x=>
    obtain rfl:=hx x rfl
    show(if s.getD 0 0∈of then _ else _)
    rw[if_pos hmem]
    exact⟨rfl,by rw[g2']⟩
  ·rw[As _ (by omega) (by omega)]
   refine⟨⟨rfl,rfl,rfl,rfl,k+1,by omega,by omega,fun j hj=>?_⟩,by dsimp only;omega⟩
   by_cases hjk:j=k
   ·subst hjk;exact fun e=>g2 (by rw[e];rfl)
   ·exact hd j (by omega)
  ·refine Aa rfl (Aa rfl (Jk hb hr hl (bad fun hm=>?_)))
   obtain⟨i,hi,he⟩:=List.getElem_of_mem hm
   exact hd i (by omega) (by rw[<-he];simp[List.getD,hi])
 ·have g0:s=[]:=Decidable.not_not.1 g
  exact Jk hb hr hl (bad (by rw[g0];exact hof))
def FracS (S:Option B8) (n:Nat) (T:Option B8):Prop:=match S with
 | none=>T=none
 | some s=>if AZ s=[]∨9<(AZ s).length then T=none else T=some (s.drop (AZ s).length)/\n=WC (AZ s)
theorem QK (l:B8):∀k,CN (l++List.replicate k 48)=CN l*10^k
 | 0=>by simp
 | k+1=>by
  rw[List.replicate_succ',<-List.append_assoc]
  have:=QK l k
  unfold CN at this⊢
  rw[QM,this,Nat.pow_succ]
  show 10*(FW 0 l*10^k)+(48-48)=_
  have e:10*(FW 0 l*10^k)=FW 0 l*(10^k*10):=by rw[Nat.mul_left_comm,Nat.mul_comm 10]
  rw[e];rfl
theorem MW {n k:Nat} (hk:k<=9) (hn:n<10^k) {st:St} {K:Int->St->Prop} (h:K (n*10^(9-k):Nat) st):
  ∃(I:Int->Int->St->Prop) (M:Int->Int->St->Nat),I (n:Nat) (k:Nat) st/\∀(n2 k2:Int) (st5:St),I n2 k2 st5->BIf (decide (k2<9)) (I (i64.wrap (n2*10)) (i64.wrap (k2+1)) st5/\M (i64.wrap (n2*10)) (i64.wrap (k2+1)) st5<M n2 k2 st5) (K n2 st5):=by
 refine⟨fun n2 k2 st5=>st=st5/\∃j:Nat,k2=j/\j<=9/\∃m:Nat,n2=m/\m<10^j/\m*10^(9-j)=n*10^(9-k),fun _ k2 _=>(9-k2).toNat,⟨rfl,k,rfl,hk,n,rfl,hn,rfl⟩,?_⟩
 rintro _ _ _ ⟨rfl,j,rfl,hj,m,rfl,hm,he⟩
 have p9:10^j<=10^9:=Nat.pow_le_pow_right (by decide) hj
 refine Ac (fun g=>?_) fun g=>?_
 ·rw[As _ (by omega) (by omega),As _ (by omega) (by omega)]
  refine⟨⟨rfl,j+1,by omega,by omega,m*10,by omega,by rw[Nat.pow_succ];omega,?_⟩,by dsimp only;omega⟩
  rw[<-he,Nat.mul_assoc,show 9-j=(9-(j+1))+1 by omega,Nat.pow_succ,Nat.mul_comm 10]
 ·have:j=9:=by omega
  subst this
  rw[Nat.sub_self,Nat.pow_zero,Nat.mul_one]at he
  rw[<-he]at h;exact h
theorem VQ {r:Nat} {st:St} {S:Option B8} (h:TR r st S) {K:Int->St->Prop} (hk:∀(n:Nat) st' T,n<1000000000->StX (·=r) st st'->TR r st' T->FracS S n T->K (n:Nat) st'):
  Ae PR BY [.box r 0] [.one (.int .i64)] st K:=by
 obtain⟨hr,s,hb,hl,hx⟩:=h.get
 have hs:Ab st [] (.t (.box r 0)) 0=some (.str s):=by simp[Ab,hb]
 have bad:(AZ s=[]∨9<(AZ s).length)->∀st',StX (·=r) st st'->TR r st' none->K ((0:Nat):Int) st':=fun hn st' e h'=>hk 0 st' none (by decide) e h' (by
  cases S with
  | none=>rfl
  | some x=>rw[<-hx x rfl];show(if AZ s=[]∨9<(AZ s).length then _ else _);rw[if_pos hn])
 refine FU r st K ⟨fun n i p st'=> .box r 0=p/\st=st'/\∃k:Nat,i=k/\k<=s.length/\n=(CN (s.take (min k 9)):Nat)/\∀j,j<k->B1 (s.getD j 0),fun _ i _ _=>(s.length-i).toNat,⟨rfl,rfl,0,rfl,Nat.zero_le _,rfl,fun j h=>absurd h (Nat.not_lt_zero _)⟩,?_⟩
 rintro _ _ _ _ ⟨rfl,rfl,k,rfl,hkl,rfl,hd⟩
 rw[Int.toNat_natCast]
 have p18:10^(min k 9)<=10^9:=Nat.pow_le_pow_right (by decide) (by omega)
 have hv:=Oz (l:=s) (w:=min k 9) (by omega) fun i hi=>hd i (by omega)
 have run:(k=s.length∨¬B1 (s.getD k 0))->(AZ s).length=k:=fun hs=>NI s k hkl hd hs
 have bad0:(k=s.length∨¬B1 (s.getD k 0))->((k:Nat):Int)<1->stB st (.box r 1) [.bool true] fun st'=>K ((0:Nat):Int) st':=fun hs g=>Jk hb hr hl (bad (.inl (List.length_eq_zero_iff.1 (by rw[run hs];omega))))
 have bad9:(k=s.length∨¬B1 (s.getD k 0))->(9:Int)<((k:Nat):Int)->stB st (.box r 1) [.bool true] fun st'=>K ((0:Nat):Int) st':=fun hs g=>Jk hb hr hl (bad (.inr (by rw[run hs];omega)))
 have good:(k=s.length∨¬B1 (s.getD k 0))->¬((k:Nat):Int)<1->¬(9:Int)<((k:Nat):Int)->∀st',StX (·=r) st st'->TR r st' (S.map fun _=>s.drop k)->K ((CN (s.take (min k 9))*10^(9-k):Nat):Int) st':=fun hs g1 g2 st' e h'=>by
  have hrun:=run hs
  have htk:=Jy s
  rw[hrun]at htk
  have hm:min k 9=k:=by omega
  rw[hm]at hv⊢
  have hp:10^9=10^k*10^(9-k):=by rw[<-Nat.pow_add];congr 1;omega
  have hlt:CN (s.take k)*10^(9-k)<1000000000:=by
   have:=Nat.mul_lt_mul_of_pos_right hv (Nat.pow_pos (n:=9-k) (show 0<10 by decide))
   rw[<-hp]at this;exact this
  refine hk _ st' _ hlt e h' ?_
  cases S with
  | none=>rfl
  | some x=>
   obtain rfl:=hx x rfl
   show(if AZ s=[]∨9<(AZ s).length then _ else _)
   rw[if_neg (by rintro(h0 | h0);rw[h0]at hrun;simp at hrun;omega;omega),hrun]
   refine⟨rfl,?_⟩
   unfold WC
   rw[hrun,QK,htk]
 refine Aa rfl (Aa rfl (Ad hs (Al (Ac (fun g=>Aa rfl (Aa rfl (Ad hs (Al ⟨⟨by omega,g⟩,Ac (fun g1=>Aa rfl (Aa rfl (Ad hs (Al ⟨⟨by omega,g⟩,Ac (fun g2=>?_) fun g2=>?_⟩)))) fun g1=>?_⟩)))) fun g=>?_))))
 ·have hdk:∀j,j<k+1->B1 (s.getD j 0):=fun j hj=>by
   by_cases hjk:j=k
   ·subst hjk;exact⟨by omega,by omega⟩
   ·exact hd j (by omega)
  refine Ac (fun g3=>Aa rfl (Aa rfl (Ad hs (Al ⟨⟨by omega,g⟩,?_⟩)))) fun g3=>?_
  ·have hsn:=KL (l:=s) (k:=k) (by omega)
   have hm:min k 9=k:=by omega
   have hm1:min (k+1) 9=k+1:=by omega
   rw[hm]at hv⊢
   rw[hm]at p18
   rw[PB _ (by omega) (by omega),As (10*_) (by omega) (by omega),As (((s.getD k 0).toNat:Int)-48) (by omega) (by omega),As (_+_) (by omega) (by omega),As _ (by omega) (by omega)]
   exact⟨⟨rfl,rfl,k+1,by omega,by omega,by rw[hm1,hsn];omega,hdk⟩,by dsimp only;omega⟩
  ·rw[As _ (by omega) (by omega)]
   exact⟨⟨rfl,rfl,k+1,by omega,by omega,by rw[show min (k+1) 9=min k 9 by omega],hdk⟩,by dsimp only;omega⟩
 ·have hs':k=s.length∨¬B1 (s.getD k 0):= .inr fun h=>g2 (by have:=h.2;omega)
  exact Ac (fun g3=>Aa rfl (Aa rfl (bad0 hs' g3))) fun g3=>Ac (fun g4=>Aa rfl (Aa rfl (bad9 hs' g4))) fun g4=>Aa rfl (Aa rfl (Ad hs (Al ⟨⟨by omega,by omega⟩,Aa rfl (Aa rfl (KN (s:=s) h (by rw[List.length_drop];omega) fun st' e h'=>MW (by omega) (by rw[show min k 9=k by omega]at*;exact hv) (good hs' g3 g4 st' e h')))⟩)))
 ·have hs':k=s.length∨¬B1 (s.getD k 0):= .inr fun h=>g1 (by have:=h.1;omega)
  exact Ac (fun g3=>Aa rfl (Aa rfl (bad0 hs' g3))) fun g3=>Ac (fun g4=>Aa rfl (Aa rfl (bad9 hs' g4))) fun g4=>Aa rfl (Aa rfl (Ad hs (Al ⟨⟨by omega,by omega⟩,Aa rfl (Aa rfl (KN (s:=s) h (by rw[List.length_drop];omega) fun st' e h'=>MW (by omega) (by rw[show min k 9=k by omega]at*;exact hv) (good hs' g3 g4 st' e h')))⟩)))
 ·have hs':k=s.length∨¬B1 (s.getD k 0):= .inl (by omega)
  exact Ac (fun g3=>Aa rfl (Aa rfl (bad0 hs' g3))) fun g3=>Ac (fun g4=>Aa rfl (Aa rfl (bad9 hs' g4))) fun g4=>Aa rfl (Aa rfl (Ad hs (Al ⟨⟨by omega,by omega⟩,Aa rfl (Aa rfl (KN (s:=s) h (by rw[List.length_drop];omega) fun st' e h'=>MW (by omega) (by rw[show min k 9=k by omega]at*;exact hv) (good hs' g3 g4 st' e h')))⟩)))
abbrev rfS (r f:Nat):Nat->Prop:=fun b=>b=r∨b=f
theorem TM.step {r f:Nat} {st st':St} {S T:Option B8} {l:List TV} (h:TM r f st S l) (e:StX (·=r) st st') (h':TR r st' T):TM r f st' T l:=
 ⟨h',Nat.lt_of_lt_of_le h.2.1 e.nb,(e.box f h.2.1 fun g=>h.2.2.2 g.symm).trans h.2.2.1,h.2.2.2⟩
theorem TM.put {r f i:Nat} {st:St} {S:Option B8} {l:List TV} {v:TV} (h:TM r f st S l) (hi:i<l.length) {K:St->Prop} (hk:∀st',StX (rfS r f) st st'->TM r f st' S (l.set i v)->K st'):stB st (.box f i) [v] K:=by
 obtain⟨h1,h2,h3,h4⟩:=h
 refine⟨_,h3,by simp;omega,hk _ (StX.put (S:=rfS r f) (.inr rfl) _) ⟨?_,h2,by simp[St.put,setAll],h4⟩⟩
 have hne:((st.put f (.cells (setAll l i [v]))).box r)=st.box r:=by simp only[St.put];rw[if_neg h4]
 cases S with
 | none=>obtain⟨a1,s,a2,a3⟩:=h1;exact⟨a1,s,hne.trans a2,a3⟩
 | some s=>obtain⟨a1,a2,a3⟩:=h1;exact⟨a1,hne.trans a2,a3⟩
theorem HN {r f:Nat} {a b:St} (e:StX (·=r) a b):StX (rfS r f) a b:=e.mono fun _ h=> .inl h
def fcT (y mo d h mi sc nn sg oh om:Nat):List TV:=[.int .i64 (y:Nat),.int .i64 (mo:Nat),.int .i64 (d:Nat),.int .i64 (h:Nat),.int .i64 (mi:Nat),.int .i64 (sc:Nat),.int .i64 (nn:Nat),.int .u8 (sg:Nat),.int .i64 (oh:Nat),.int .i64 (om:Nat)]
theorem IL.pos {w n:Nat} {s:B8} {T:Option B8} (h:IL w (some s) n T) (f:Kb w s):T=some (s.drop w)/\n=CN (s.take w):=by
 change (if Kb w s then _ else _)at h
 rwa [if_pos f]at h
theorem IL.neg {w n:Nat} {s:B8} {T:Option B8} (h:IL w (some s) n T) (f:¬Kb w s):T=none:=by
 change (if Kb w s then _ else _)at h
 rwa [if_neg f]at h
theorem L9.pos {of:B8} {n:Nat} {s:B8} {T:Option B8} (h:L9 of (some s) n T) (f:s.getD 0 0∈of):T=some (s.drop 1)/\n=(s.getD 0 0).toNat:=by
 change (if s.getD 0 0∈of then _ else _)at h
 rwa [if_pos f]at h
theorem L9.neg {of:B8} {n:Nat} {s:B8} {T:Option B8} (h:L9 of (some s) n T) (f:s.getD 0 0∉of):T=none:=by
 change (if s.getD 0 0∈of then _ else _)at h
 rwa [if_neg f]at h
theorem Ho (s:B8) (k i:Nat):b0 (s.drop k) i=b0 s (k+i):=by simp[b0,List.getD]
theorem dd_drop (s:B8) (k i:Nat):dd (s.drop k) i↔dd s (k+i):=by
 unfold dd
 rw[Ho,Ho,Nat.add_assoc]
theorem d2_drop (s:B8) (k i:Nat):d2 (s.drop k) i=d2 s (k+i):=by
 unfold d2 dv
 rw[Ho,Ho,Nat.add_assoc]
theorem W3 {s:B8} {k:Nat} (h:B1 (b0 s k)):k<s.length:=by
 by_cases hk:k<s.length
 ·exact hk
 ·rw[show b0 s k=0 by simp[b0,List.getD,Nat.le_of_not_lt hk]]at h
  exact absurd h (by decide)
theorem numF2 (s:B8):Kb 2 s↔dd s 0:=by
 constructor
 ·intro h;exact⟨h.2 0 (by omega),h.2 1 (by omega)⟩
 ·intro h
  have:=W3 h.2
  exact⟨by omega,fun i hi=>by
   rcases (by omega:i=0∨i=1)with rfl | rfl
   ·exact h.1
   ·exact h.2⟩
theorem Ug (s:B8):Kb 4 s↔dd s 0/\dd s 2:=by
 constructor
 ·intro h;exact⟨⟨h.2 0 (by omega),h.2 1 (by omega)⟩,⟨h.2 2 (by omega),h.2 3 (by omega)⟩⟩
 ·intro h
  have:=W3 h.2.2
  exact⟨by omega,fun i hi=>by
   rcases (by omega:i=0∨i=1∨i=2∨i=3)with rfl | rfl | rfl | rfl
   ·exact h.1.1
   ·exact h.1.2
   ·exact h.2.1
   ·exact h.2.2⟩
theorem val2 {s:B8} (h:Kb 2 s):CN (s.take 2)=d2 s 0:=by
 rcases s with _ | ⟨a,_ | ⟨b,r⟩⟩
 ·exact absurd h.1 (by simp)
 ·exact absurd h.1 (by simp)
 ·show 10*(10*0+(a.toNat-48))+(b.toNat-48)=(a.toNat-48)*10+(b.toNat-48)
  omega
theorem val4 {s:B8} (h:Kb 4 s):CN (s.take 4)=d2 s 0*100+d2 s 2:=by
 rcases s with _ | ⟨a,_ | ⟨b,_ | ⟨c,_ | ⟨d,r⟩⟩⟩⟩
 ·exact absurd h.1 (by simp)
 ·exact absurd h.1 (by simp)
 ·exact absurd h.1 (by simp)
 ·exact absurd h.1 (by simp)
 ·show 10*(10*(10*(10*0+(a.toNat-48))+(b.toNat-48))+(c.toNat-48))+(d.toNat-48)=((a.toNat-48)*10+(b.toNat-48))*100+((c.toNat-48)*10+(d.toNat-48))
  omega
theorem one1 {s:B8} {c:UInt8}:s.getD 0 0∈ [c]↔b0 s 0=c:=by rw[List.mem_singleton];rfl
theorem F0 {s:B8} {k m n:Nat} {T:Option B8} (hm:k+2=m) (h:IL 2 (some (s.drop k)) n T):(dd s k->T=some (s.drop m)/\n=d2 s k)/\(¬dd s k->T=none):=by
 have e:Kb 2 (s.drop k)↔dd s k:=by rw[numF2,dd_drop];rfl
 constructor
 ·intro f
  have f':=e.2 f
  obtain⟨h1,h2⟩:=h.pos f'
  exact⟨by rw[h1,List.drop_drop,hm],by rw[h2,val2 f',d2_drop];rfl⟩
 ·intro f;exact h.neg fun g=>f (e.1 g)
theorem IO {s:B8} {k m n:Nat} {c:UInt8} {T:Option B8} (hm:k+1=m) (h:L9 [c] (some (s.drop k)) n T):(b0 s k=c->T=some (s.drop m))/\(b0 s k≠c->T=none):=by
 have e:(s.drop k).getD 0 0∈ [c]↔b0 s k=c:=by rw[one1,Ho];rfl
 exact⟨fun f=>by rw[(h.pos (e.2 f)).1,List.drop_drop,hm],fun f=>h.neg fun g=>f (e.1 g)⟩
theorem step4 {s:B8} {n:Nat} {T:Option B8} (h:IL 4 (some s) n T):(dd s 0/\dd s 2->T=some (s.drop 4)/\n=d2 s 0*100+d2 s 2)/\(¬(dd s 0/\dd s 2)->T=none):=
 ⟨fun f=>⟨(h.pos ((Ug s).2 f)).1,by rw[(h.pos ((Ug s).2 f)).2,val4 ((Ug s).2 f)]⟩,fun f=>h.neg fun g=>f ((Ug s).1 g)⟩
theorem Vq {s:B8} {y c m c' d:Nat} {T1 T2 T3 T4 T5:Option B8} (s1:IL 4 (some s) y T1) (s2:L9 [45] T1 c T2) (s3:IL 2 T2 m T3) (s4:L9 [45] T3 c' T4) (s5:IL 2 T4 d T5):
  (D2 s->T5=some (s.drop 10)/\y=d2 s 0*100+d2 s 2/\m=d2 s 5/\d=d2 s 8)/\(¬D2 s->T5=none):=by
 by_cases f1:dd s 0/\dd s 2
 ·obtain⟨rfl,v1⟩:=(step4 s1).1 f1
  by_cases f2:b0 s 4=45
  ·obtain rfl:=(IO (m:=5) rfl s2).1 f2
   by_cases f3:dd s 5
   ·obtain⟨rfl,v3⟩:=(F0 (m:=7) rfl s3).1 f3
    by_cases f4:b0 s 7=45
    ·obtain rfl:=(IO (m:=8) rfl s4).1 f4
     by_cases f5:dd s 8
     ·obtain⟨rfl,v5⟩:=(F0 (m:=10) rfl s5).1 f5
      exact⟨fun _=>⟨rfl,v1,v3,v5⟩,fun h=>absurd ⟨f1.1,f1.2,f2,f3,f4,f5⟩ h⟩
     ·exact⟨fun h=>absurd h.2.2.2.2.2 f5,fun _=>(F0 (m:=10) rfl s5).2 f5⟩
    ·obtain rfl:=(IO (m:=8) rfl s4).2 f4
     exact⟨fun h=>absurd h.2.2.2.2.1 f4,fun _=>s5⟩
   ·obtain rfl:=(F0 (m:=7) rfl s3).2 f3
    obtain rfl:T4=none:=s4
    exact⟨fun h=>absurd h.2.2.2.1 f3,fun _=>s5⟩
  ·obtain rfl:=(IO (m:=5) rfl s2).2 f2
   obtain rfl:T3=none:=s3
   obtain rfl:T4=none:=s4
   exact⟨fun h=>absurd h.2.2.1 f2,fun _=>s5⟩
 ·obtain rfl:=(step4 s1).2 f1
  obtain rfl:T2=none:=s2
  obtain rfl:T3=none:=s3
  obtain rfl:T4=none:=s4
  exact⟨fun h=>absurd ⟨h.1,h.2.1⟩ f1,fun _=>s5⟩
def DateS (S:Option B8) (y m d:Nat) (T:Option B8):Prop:=match S with
 | none=>T=none
 | some s=>(D2 s->T=some (s.drop 10)/\y=d2 s 0*100+d2 s 2/\m=d2 s 5/\d=d2 s 8)/\(¬D2 s->T=none)
theorem QW {r f:Nat} {st:St} {S:Option B8} {h mi sc nn sg oh om:Nat} (hm:TM r f st S (fcT 0 0 0 h mi sc nn sg oh om)) {K:St->Prop}
  (hk:∀y mo d st' T,y<10000->mo<100->d<100->StX (rfS r f) st st'->TM r f st' T (fcT y mo d h mi sc nn sg oh om)->DateS S y mo d T->K st'):Ae PR BV [.box r 0,.box f 0] [] st K:=by
 refine HE r f st K (FZ (w:=4) (by decide) hm.1 fun y st1 T1 b1 e1 h1 s1=>(hm.step e1 h1).put (by simp[fcT]) fun st2 e2 m2=>?_)
 refine FY (of:=[45]) (by decide) (by decide) m2.1 fun c st3 T3 b3 e3 h3 s3=>FZ (w:=2) (by decide) h3 fun mo st4 T4 b4 e4 h4 s4=>((m2.step e3 h3).step e4 h4).put (by simp[fcT]) fun st5 e5 m5=>?_
 refine FY (of:=[45]) (by decide) (by decide) m5.1 fun c' st6 T6 b6 e6 h6 s6=>FZ (w:=2) (by decide) h6 fun d st7 T7 b7 e7 h7 s7=>((m5.step e6 h6).step e7 h7).put (by simp[fcT]) fun st8 e8 m8=>?_
 refine hk y mo d st8 T7 b1 b4 b7 ((((((((HN e1).trans e2).trans (HN e3)).trans (HN e4)).trans e5).trans (HN e6)).trans (HN e7)).trans e8) m8 ?_
 cases S with
 | some s=>exact Vq s1 s3 s4 s6 s7
 | none=>
  have:=(show T1=none from s1)
  subst this
  have:=(show T3=none from s3)
  subst this
  have:=(show T4=none from s4)
  subst this
  have:=(show T6=none from s6)
  subst this
  exact s7
theorem Tq {s:B8} {h c m c' d:Nat} {T1 T2 T3 T4 T5:Option B8} (s1:IL 2 (some s) h T1) (s2:L9 [58] T1 c T2) (s3:IL 2 T2 m T3) (s4:L9 [58] T3 c' T4) (s5:IL 2 T4 d T5):
  (LF s->T5=some (s.drop 8)/\h=d2 s 0/\m=d2 s 3/\d=d2 s 6)/\(¬LF s->T5=none):=by
 have s1':IL 2 (some (s.drop 0)) h T1:=by rw[List.drop_zero];exact s1
 by_cases f1:dd s 0
 ·obtain⟨rfl,v1⟩:=(F0 (m:=2) rfl s1').1 f1
  by_cases f2:b0 s 2=58
  ·obtain rfl:=(IO (m:=3) rfl s2).1 f2
   by_cases f3:dd s 3
   ·obtain⟨rfl,v3⟩:=(F0 (m:=5) rfl s3).1 f3
    by_cases f4:b0 s 5=58
    ·obtain rfl:=(IO (m:=6) rfl s4).1 f4
     by_cases f5:dd s 6
     ·obtain⟨rfl,v5⟩:=(F0 (m:=8) rfl s5).1 f5
      exact⟨fun _=>⟨rfl,v1,v3,v5⟩,fun h=>absurd ⟨f1,f2,f3,f4,f5⟩ h⟩
     ·exact⟨fun h=>absurd h.2.2.2.2 f5,fun _=>(F0 (m:=8) rfl s5).2 f5⟩
    ·obtain rfl:=(IO (m:=6) rfl s4).2 f4
     exact⟨fun h=>absurd h.2.2.2.1 f4,fun _=>s5⟩
   ·obtain rfl:=(F0 (m:=5) rfl s3).2 f3
    obtain rfl:T4=none:=s4
    exact⟨fun h=>absurd h.2.2.1 f3,fun _=>s5⟩
  ·obtain rfl:=(IO (m:=3) rfl s2).2 f2
   obtain rfl:T3=none:=s3
   obtain rfl:T4=none:=s4
   exact⟨fun h=>absurd h.2.1 f2,fun _=>s5⟩
 ·obtain rfl:=(F0 (m:=2) rfl s1').2 f1
  obtain rfl:T2=none:=s2
  obtain rfl:T3=none:=s3
  obtain rfl:T4=none:=s4
  exact⟨fun h=>absurd h.1 f1,fun _=>s5⟩
def Si (S:Option B8) (h mi sc nn:Nat) (T:Option B8):Prop:=match S with
 | none=>T=none
 | some s=>match Kt s with
  | none=>T=none
  | some (h',mi',sc',f',r')=>T=some r'/\h=h'/\mi=mi'/\sc=sc'/\nn=f'
theorem TR.src {r:Nat} {st:St} {S:Option B8} (h:TR r st S):∃s,Ab st [] (.t (.box r 0)) 0=some (.str s)/\s.length<=1000000/\∀x,S=some x->s=x:=by
 obtain⟨_,s,hb,hl,hx⟩:=h.get
 exact⟨s,by simp[Ab,hb],hl,hx⟩
theorem KP {r f:Nat} {st:St} {S:Option B8} {y mo d sg oh om:Nat} (hm:TM r f st S (fcT y mo d 0 0 0 0 sg oh om)) {K:St->Prop}
  (hk:∀h mi sc nn st' T,h<100->mi<100->sc<100->nn<1000000000->StX (rfS r f) st st'->TM r f st' T (fcT y mo d h mi sc nn sg oh om)->Si S h mi sc nn T->K st'):Ae PR Bo [.box r 0,.box f 0] [] st K:=by
 refine GX r f st K (FZ (w:=2) (by decide) hm.1 fun y st1 T1 b1 e1 h1 s1=>(hm.step e1 h1).put (by simp[fcT]) fun st2 e2 m2=>?_)
 refine FY (of:=[58]) (by decide) (by decide) m2.1 fun c st3 T3 b3 e3 h3 s3=>FZ (w:=2) (by decide) h3 fun mo st4 T4 b4 e4 h4 s4=>((m2.step e3 h3).step e4 h4).put (by simp[fcT]) fun st5 e5 m5=>?_
 refine FY (of:=[58]) (by decide) (by decide) m5.1 fun c' st6 T6 b6 e6 h6 s6=>FZ (w:=2) (by decide) h6 fun d st7 T7 b7 e7 h7 s7=>((m5.step e6 h6).step e7 h7).put (by simp[fcT]) fun st8 e8 m8=>?_
 have E:=(((((((HN e1).trans e2).trans (HN e3)).trans (HN e4)).trans e5).trans (HN e6)).trans (HN e7)).trans e8
 have comb:∀s,S=some s->(LF s->T7=some (s.drop 8)/\y=d2 s 0/\mo=d2 s 3/\d=d2 s 6)/\(¬LF s->T7=none):=fun s hs=>by
  subst hs;exact Tq s1 s3 s4 s6 s7
 have nn:S=none->T7=none:=fun hs=>by
  subst hs
  obtain rfl:T1=none:=s1
  obtain rfl:T3=none:=s3
  obtain rfl:T4=none:=s4
  obtain rfl:T6=none:=s6
  exact s7
 clear s1 s3 s4 s6 s7 m2 m5
 obtain⟨t,ht,hl,hx⟩:=m8.1.src
 have plain:(∀x,T7=some x->b0 x 0≠46)->K st8:=fun hp=>hk y mo d 0 st8 T7 b1 b4 b7 (by decide) E m8 (by
  cases S with
  | none=>exact nn rfl
  | some s=>
   unfold Si;dsimp only
   obtain⟨c1,c2⟩:=comb s rfl
   unfold Kt
   by_cases fc:LF s
   ·obtain⟨rfl,v1,v2,v3⟩:=c1 fc
    rw[if_pos fc,if_neg (by have:=hp _ rfl;rw[Ho]at this;exact this)]
    exact⟨rfl,v1,v2,v3,rfl⟩
   ·rw[if_neg fc];exact c2 fc)
 refine Ad ht (Al (Ac (fun g=>Ad ht (Al ⟨⟨by omega,by have:=List.length_pos_iff.2 g;omega⟩,Ac (fun g1=>?_) fun g1=>?_⟩)) fun g=>?_))
 ·have hpos:=List.length_pos_iff.2 g
  refine Ad ht (Al ⟨⟨by omega,by omega⟩,KN (s:=t) m8.1 (by rw[List.length_drop];omega) fun st9 e9 h9=>?_⟩)
  refine VQ h9 fun n st10 T10 b10 e10 h10 s10=>((m8.step e9 h9).step e10 h10).put (by simp[fcT]) fun st11 e11 m11=>?_
  refine hk y mo d n st11 T10 b1 b4 b7 b10 (((E.trans (HN e9)).trans (HN e10)).trans e11) m11 ?_
  have g46:b0 t 0=46:=(u8i (k:=46)).1 g1
  cases S with
  | none=>
   obtain rfl:=nn rfl
   exact s10
  | some s=>
   unfold Si;dsimp only
   obtain⟨c1,c2⟩:=comb s rfl
   unfold Kt
   by_cases fc:LF s
   ·obtain⟨rfl,v1,v2,v3⟩:=c1 fc
    obtain rfl:=hx _ rfl
    rw[Ho]at g46
    rw[if_pos fc,if_pos g46]
    have hd9:(s.drop 8).drop (Int.toNat 1)=s.drop 9:=by rw[List.drop_drop];rfl
    have s11:FracS (some (s.drop 9)) n T10:=by rw[<-hd9];exact s10
    change (if _ then _ else _)at s11
    by_cases hf:AZ (s.drop 9)=[]∨9<(AZ (s.drop 9)).length
    ·rw[if_pos hf]at s11
     rw[if_pos hf];exact s11
    ·rw[if_neg hf]at s11
     rw[if_neg hf]
     refine⟨?_,v1,v2,v3,s11.2⟩
     rw[s11.1,List.drop_drop]
   ·obtain rfl:=c2 fc
    rw[if_neg fc];exact s10
 ·exact plain fun x hx'=>by
   obtain rfl:=hx x hx'
   exact fun h=>g1 ((u8i (k:=46)).2 h)
 ·have g0:t=[]:=Decidable.not_not.1 g
  exact plain fun x hx'=>by
   obtain rfl:=hx x hx'
   rw[g0];decide
def TI (S:Option B8) (sg oh om:Nat) (T:Option B8):Prop:=match S with
 | none=>T=none
 | some s=>(T=some []->∃ls,P3 s=some (ls,oh,om)/\(ls=true↔sg=45))/\(T≠some []->P3 s=none)
theorem ST {s:B8} {sg oh om:Nat} {c:Nat} {T1 T2 T3 T:Option B8} (hsg:sg=(b0 s 0).toNat) (h0:b0 s 0=43∨b0 s 0=45) (hT:T1=some (s.drop 1)) (s1:IL 2 T1 oh T2) (s2:L9 [58] T2 c T3) (s3:IL 2 T3 om T):TI (some s) sg oh om T:=by
 subst hT
 have nz:¬(s=[90]∨s=[122]):=by
  rintro(h | h)<;>rw[h]at h0<;>revert h0<;>decide
 have no:T=none->(dd s 1->b0 s 3=58->dd s 4->False)->TI (some s) sg oh om T:=fun ht hf=>by
  subst ht
  refine⟨fun h=>(by cases h),fun _=>?_⟩
  unfold P3
  rw[if_neg nz,if_neg fun h=>hf h.2.2.1 h.2.2.2.1 h.2.2.2.2]
 by_cases f1:dd s 1
 ·obtain⟨rfl,rfl⟩:=(F0 (m:=3) rfl s1).1 f1
  by_cases f2:b0 s 3=58
  ·obtain rfl:=(IO (m:=4) rfl s2).1 f2
   by_cases f3:dd s 4
   ·obtain⟨rfl,rfl⟩:=(F0 (m:=6) rfl s3).1 f3
    have hl:=W3 f3.2
    refine⟨fun h=>⟨decide (b0 s 0=45),?_,?_⟩,fun h=>?_⟩
    ·have h6:s.drop 6=[]:=Option.some.inj h
     have:=congrArg List.length h6
     rw[List.length_drop]at this
     simp at this
     unfold P3
     rw[if_neg nz,if_pos ⟨by omega,h0,f1,f2,f3⟩]
    ·rw[decide_eq_true_eq,hsg]
     exact⟨fun h=>by rw[h];rfl,fun h=>UInt8.toNat_inj.1 h⟩
    ·unfold P3
     rw[if_neg nz,if_neg]
     intro h'
     exact h (by rw[List.drop_of_length_le (by omega)])
   ·exact no ((F0 (m:=6) rfl s3).2 f3) fun _ _ h=>f3 h
  ·obtain rfl:=(IO (m:=4) rfl s2).2 f2
   exact no s3 fun _ h _=>f2 h
 ·obtain rfl:=(F0 (m:=3) rfl s1).2 f1
  obtain rfl:T3=none:=s2
  exact no s3 fun h _ _=>f1 h
theorem TI.none {S T1 T:Option B8} {sg oh om:Nat} (h:L9 [90,122,43,45] S sg T1) (h1:T1=none) (ht:T=none):TI S sg oh om T:=by
 subst h1 ht
 cases S with
 | none=>rfl
 | some s=>
  refine⟨fun h=>(by cases h),fun _=>?_⟩
  have hn:s.getD 0 0∉ [90,122,43,45]:=fun hm=>by have:=(h.pos hm).1;cases this
  unfold P3
  rw[if_neg,if_neg]
  ·rintro⟨_,h | h,_⟩
   ·exact hn (by rw[show s.getD 0 0=43 from h];decide)
   ·exact hn (by rw[show s.getD 0 0=45 from h];decide)
  ·rintro(h | h)<;>rw[h]at hn<;>revert hn<;>decide
theorem MB {r f:Nat} {st:St} {S:Option B8} {y mo d h mi sc nn:Nat} (hm:TM r f st S (fcT y mo d h mi sc nn 0 0 0)) {K:St->Prop}
  (hk:∀sg oh om st' T,sg<256->oh<100->om<100->StX (rfS r f) st st'->TM r f st' T (fcT y mo d h mi sc nn sg oh om)->TI S sg oh om T->K st'):Ae PR BF [.box r 0,.box f 0] [] st K:=by
 refine GD r f st K (FY (of:=[90,122,43,45]) (by decide) (by decide) hm.1 fun sg st1 T1 b1 e1 h1 s1=>(hm.step e1 h1).put (by simp[fcT]) fun st2 e2 m2=>?_)
 have hld:Ab st2 [] (.t (.box f 7)) 0=some (.int .u8 (sg:Nat)):=by simp[Ab,m2.2.2.1,fcT]
 have E2:=(HN e1).trans e2
 refine Ad hld (Ao (Ac (fun g=>?_) fun g=>Ad hld (Ao (Ac (fun g2=>?_) fun g2=>?_))))
 iterate 2
  ·refine FZ (w:=2) (by decide) m2.1 fun oh st3 T3 b3 e3 h3 s3=>(m2.step e3 h3).put (by simp[fcT]) fun st4 e4 m4=>?_
   refine FY (of:=[58]) (by decide) (by decide) m4.1 fun c st5 T5 b5 e5 h5 s5=>FZ (w:=2) (by decide) h5 fun om st6 T6 b6 e6 h6 s6=>((m4.step e5 h5).step e6 h6).put (by simp[fcT]) fun st7 e7 m7=>?_
   refine hk sg oh om st7 T6 b1 b3 b6 (((((E2.trans (HN e3)).trans e4).trans (HN e5)).trans (HN e6)).trans e7) m7 ?_
   cases T1 with
   | none=>
    obtain rfl:T3=none:=s3
    obtain rfl:T5=none:=s5
    exact TI.none s1 rfl s6
   | some x=>
    cases S with
    | none=>cases (show some x=none from s1)
    | some s=>
     by_cases hmem:s.getD 0 0∈ [90,122,43,45]
     ·obtain⟨hT,hs⟩:=s1.pos hmem
      refine ST hs ?_ hT s3 s5 s6
      have hc:((b0 s 0).toNat:Int)=sg:=by rw[hs];rfl
      first
       | exact .inl (UInt8.toNat_inj.1 (by rw[show((43:UInt8).toNat)=43 from rfl];omega))
       | exact .inr (UInt8.toNat_inj.1 (by rw[show((45:UInt8).toNat)=45 from rfl];omega))
     ·cases s1.neg hmem
 ·refine hk sg 0 0 st2 T1 b1 (by decide) (by decide) E2 m2 ?_
  cases T1 with
  | none=>exact TI.none s1 rfl rfl
  | some x=>
   cases S with
   | none=>cases (show some x=none from s1)
   | some s=>
    by_cases hmem:s.getD 0 0∈ [90,122,43,45]
    ·obtain⟨hT,hs⟩:=s1.pos hmem
     rw[hT]
     have h43:b0 s 0≠43:=fun h=>g (by rw[hs,show s.getD 0 0=43 from h];rfl)
     have h45:b0 s 0≠45:=fun h=>g2 (by rw[hs,show s.getD 0 0=45 from h];rfl)
     refine⟨fun h=>⟨false,?_,⟨fun h=>(by cases h),fun h=>absurd (by omega) g2⟩⟩,fun h=>?_⟩
     ·have h1:s.drop 1=[]:=Option.some.inj h
      unfold P3
      rw[if_pos]
      rcases s with _ | ⟨a,_ | ⟨b,s⟩⟩
      ·exact absurd hmem (by decide)
      ·have ha:a∈ [90,122,43,45]:=hmem
       simp only[List.mem_cons,List.not_mem_nil,or_false]at ha
       rcases ha with rfl | rfl | rfl | rfl
       ·exact .inl rfl
       ·exact .inr rfl
       ·exact absurd rfl h43
       ·exact absurd rfl h45
      ·cases h1
     ·unfold P3
      rw[if_neg,if_neg]
      ·rintro⟨_,h | h,_⟩
       ·exact h43 h
       ·exact h45 h
      ·rintro(h' | h')<;>exact h (by rw[h'];rfl)
    ·cases s1.neg hmem
theorem cday_ok {y m d:Nat} (hy:y<=100000) (hm:m<=1000) (hd:d<=1000) {st:St} {K:Int->Int->St->Prop} (hk:K (if okD y m d then(L7 y m d:Nat)else 0) (if okD y m d then 0 else 2) st):
  Ae PR EO [.int .i64 (y:Nat),.int .i64 (m:Nat),.int .i64 (d:Nat)] [.one (.int .i64),.one (.int .i64)] st K:=by
 refine L3 _ _ _ st K (Ac (fun g=>?_) fun g=>LP (by omega) (Ac (fun g2=>?_) fun g2=>?_))
 ·have hn:¬okD y m d:=fun h=>by have:=h.2.2.2.2.1;omega
  rw[if_neg hn,if_neg hn]at hk;exact hk
 ·have hn:¬okD y m d:=fun h=>by
   obtain⟨a1,a2,a3,a4,a5,a6⟩:=h
   rw[P8 a1 a2 a3 a4]at g2
   omega
  rw[if_neg hn,if_neg hn]at hk;exact hk
 ·have hr:1<=y/\y<=9999/\1<=m/\m<=12:=by
   by_cases h:1<=y/\y<=9999/\1<=m/\m<=12
   ·exact h
   ·rw[show monX y m=0 from if_neg h]at g2
    omega
  obtain⟨a1,a2,a3,a4⟩:=hr
  rw[P8 a1 a2 a3 a4]at g2
  have ok:okD y m d:=⟨a1,a2,a3,a4,by omega,by omega⟩
  rw[if_pos ok,if_pos ok]at hk
  have hyr:yrS y<=4000000:=by unfold yrS;omega
  refine R7 a1 (by omega) ⟨fun n i y' m' st'=>((y:Nat):Int)=y'/\((m:Nat):Int)=m'/\st=st'/\∃j:Nat,i=j/\1<=j/\j<=m/\n=((yrS y+Rw y j+(d-1):Nat):Int),fun _ i _ _ _=>(m-i).toNat,⟨rfl,rfl,rfl,1,rfl,by omega,by omega,?_⟩,?_⟩
  ·rw[As (((yrS y:Nat):Int)+((d:Nat):Int)) (by omega) (by omega),As _ (by omega) (by omega),show Rw y 1=0 from rfl];omega
  ·rintro _ _ _ _ _ ⟨rfl,rfl,rfl,j,rfl,hj1,hj2,rfl⟩
   have hms:=Uh y j
   refine Ac (fun g3=>LP (by omega) ?_) fun g3=>?_
   ·have hmd:=Ui y j
    rw[P8 a1 a2 hj1 (by omega),As _ (by omega) (by omega),As _ (by omega) (by omega)]
    exact⟨⟨rfl,rfl,rfl,j+1,by omega,by omega,by omega,by rw[U7 y hj1];omega⟩,by dsimp only;omega⟩
   ·have:j=m:=by omega
    subst this
    exact hk
def Ns (n1 y mo d h mi sc nn sg oh om:Nat):TmR:=
 if (n1≠2->okD y mo d)/\okC h mi sc/\oh<=23/\om<=59 then((n1:Nat),(if n1=2 then 0 else(L7 y mo d:Nat)),(GM h mi sc nn:Nat),(if sg=45 then-((oh*60+om:Nat):Int)else((oh*60+om:Nat):Int)),0)else Ht
def FinS (s:B8) (n1:Nat) (T:Option B8) (y mo d h mi sc nn sg oh om:Nat):Prop:=(T=some []->tmP s=Ns n1 y mo d h mi sc nn sg oh om)/\(T≠some []->tmP s=Hu)
theorem BT {s:B8} {n1 y mo d h mi sc nn sg oh om:Nat} (e:tmP s=Hu):FinS s n1 none y mo d h mi sc nn sg oh om:=⟨fun h=>(by cases h),fun _=>e⟩
theorem Nr {s:B8} (n1:Nat) {y mo d h mi sc nn sg oh om:Nat} {r:B8} (hn:n1<=4) (e:tmP s=Ns n1 y mo d h mi sc nn sg oh om) (hr:r=[]):FinS s n1 (some r) y mo d h mi sc nn sg oh om:=⟨fun _=>e,fun h=>absurd (by rw[hr]) h⟩
theorem okC0:okC 0 0 0:=by decide
theorem fin1 (y mo d:Nat):(if okD y mo d then((1:Int),((L7 y mo d:Nat):Int),(0:Int),(0:Int),(0:Int))else Ht)=Ns 1 y mo d 0 0 0 0 0 0 0:=by
 unfold Ns
 by_cases h:okD y mo d
 ·rw[if_pos h,if_pos ⟨fun _=>h,okC0,by decide,by decide⟩];rfl
 ·rw[if_neg h,if_neg fun g=>h (g.1 (by decide))]
theorem fin2 (h mi sc nn:Nat):(if okC h mi sc then((2:Int),(0:Int),((GM h mi sc nn:Nat):Int),(0:Int),(0:Int))else Ht)=Ns 2 0 0 0 h mi sc nn 0 0 0:=by
 unfold Ns
 by_cases g:okC h mi sc
 ·rw[if_pos g,if_pos ⟨fun h=>absurd rfl h,g,by decide,by decide⟩];rfl
 ·rw[if_neg g,if_neg fun k=>g k.2.1]
theorem fin3 (y mo d h mi sc nn:Nat):(if okD y mo d/\okC h mi sc then((3:Int),((L7 y mo d:Nat):Int),((GM h mi sc nn:Nat):Int),(0:Int),(0:Int))else Ht)=Ns 3 y mo d h mi sc nn 0 0 0:=by
 unfold Ns
 by_cases g:okD y mo d/\okC h mi sc
 ·rw[if_pos g,if_pos ⟨fun _=>g.1,g.2,by decide,by decide⟩];rfl
 ·rw[if_neg g,if_neg fun k=>g ⟨k.1 (by decide),k.2.1⟩]
theorem fin4 (y mo d h mi sc nn sg oh om:Nat) (ls:Bool) (hl:ls=true↔sg=45):(if okD y mo d/\okC h mi sc/\oh<=23/\om<=59 then((4:Int),((L7 y mo d:Nat):Int),((GM h mi sc nn:Nat):Int),(if ls=true then-((oh*60+om:Nat):Int)else((oh*60+om:Nat):Int)),(0:Int))else Ht)=Ns 4 y mo d h mi sc nn sg oh om:=by
 unfold Ns
 by_cases g:okD y mo d/\okC h mi sc/\oh<=23/\om<=59
 ·have hp:(4≠2->okD y mo d)/\okC h mi sc/\oh<=23/\om<=59:=⟨fun _=>g.1,g.2⟩
  rw[if_pos g,if_pos hp]
  by_cases k:sg=45
  ·rw[if_pos k,if_pos (hl.2 k)];rfl
  ·rw[if_neg k,if_neg fun h=>k (hl.1 h)];rfl
 ·rw[if_neg g,if_neg fun k=>g ⟨k.1 (by decide),k.2⟩]
theorem KO {s:B8} (hc:b0 s 2≠58) (h:¬D2 s):tmP s=Hu:=by
 unfold tmP
 rw[if_neg h]
 have:Kt s=none:=by unfold Kt;rw[if_neg fun g=>hc g.2.1]
 rw[this]
theorem WD {s:B8}:s.getD 0 0∈ [84,116,32]↔(b0 s 0=84∨b0 s 0=116∨b0 s 0=32):=by
 simp only[List.mem_cons,List.not_mem_nil,or_false];rfl
theorem PO {s:B8} (fd:D2 s) (hne:s.drop 10≠ []) (fo:(s.drop 10).getD 0 0∈ [84,116,32]):tmP s=match Kt (s.drop (10+1))with
  | none=>Hu
  | some (h,m,sc,f,r')=>tmO (d2 s 0*100+d2 s 2) (d2 s 5) (d2 s 8) h m sc f r':=by
 unfold tmP tmD
 rw[if_pos fd,if_neg hne,if_pos (WD.1 fo),List.drop_drop]<;>rfl
theorem PN {s:B8} (fd:D2 s) (hne:s.drop 10≠ []) (fo:(s.drop 10).getD 0 0∉ [84,116,32]):tmP s=Hu:=by
 unfold tmP tmD
 rw[if_pos fd,if_neg hne,if_neg fun h=>fo (WD.2 h)]
theorem at_pos' {s:B8} {k:Nat} {c:UInt8} (hc:c≠0) (h:b0 s k=c):k<s.length:=by
 by_cases hk:k<s.length
 ·exact hk
 ·rw[show b0 s k=0 by simp[b0,List.getD,Nat.le_of_not_lt hk]]at h
  exact absurd h.symm hc
theorem VR {r f:Nat} {st:St} {s:B8} (hm:TM r f st (some s) (fcT 0 0 0 0 0 0 0 0 0 0)) {K:Int->St->Prop}
  (hk:∀(n1 y mo d h mi sc nn sg oh om:Nat) st' T,n1<=4->y<10000->mo<100->d<100->h<100->mi<100->sc<100->nn<1000000000->sg<256->oh<100->om<100->StX (rfS r f) st st'->TM r f st' T (fcT y mo d h mi sc nn sg oh om)->FinS s n1 T y mo d h mi sc nn sg oh om->K (n1:Nat) st'):
  Ae PR CG [.box r 0,.box f 0] [.one (.int .i64)] st K:=by
 obtain⟨x,hx,hl,hsx⟩:=hm.1.src
 have hxs:x=s:=hsx s rfl
 rw[hxs]at hx hl
 clear hsx hxs
 refine HD r f st K (Ad hx (Al (Ac (fun g=>Ad hx (Al ⟨⟨by omega,g⟩,Ac (fun g1=>?_) fun g1=>?_⟩)) fun g=>?_)))
 ·have h58:b0 s 2=58:=(u8i (k:=58)).1 g1
  have nfd:¬D2 s:=fun h=>absurd h.2.1.1 (by rw[h58];decide)
  refine KP hm fun h mi sc nn st1 T c1 c2 c3 c4 e1 m1 s1=>hk 2 0 0 0 h mi sc nn 0 0 0 st1 T (by omega) (by decide) (by decide) (by decide) c1 c2 c3 c4 (by decide) (by decide) (by decide) e1 m1 ?_
  unfold Si at s1
  dsimp only at s1
  have e:tmP s=match Kt s with
   | none=>Hu
   | some (h,m,sc,f,r)=>if r=[]then(if okC h m sc then(2,0,(GM h m sc f:Nat),0,0)else Ht)else Hu:=by unfold tmP;rw[if_neg nfd]<;>rfl
  cases hc:Kt s with
  | none=>rw[hc]at s1 e;exact s1▸BT e
  | some p=>
   obtain⟨h',mi',sc',f',r'⟩:=p
   rw[hc]at s1 e
   dsimp only at s1 e
   obtain⟨rfl,rfl,rfl,rfl,rfl⟩:=s1
   by_cases hr:r'=[]
   ·rw[if_pos hr]at e
    exact Nr _ (by decide) (by rw[e];exact fin2 _ _ _ _) hr
   ·rw[if_neg hr]at e
    exact⟨fun h=>absurd (Option.some.inj h) hr,fun _=>e⟩
 ·have hnc:b0 s 2≠58:=fun h=>g1 ((u8i (k:=58)).2 h)
  refine QW hm fun y mo d st2 T2 b1 b2 b3 e2 m2 s2=>?_
  obtain⟨x3,hx3,_,hs3⟩:=m2.1.src
  refine Ad hx3 (Al (Ac (fun g=>?_) fun g=>FY (of:=[84,116,32]) (by decide) (by decide) m2.1 fun c st3 T3 bc e3 h3 s3=>KP (m2.step e3 h3) fun h mi sc nn st4 T4 c1 c2 c3 c4 e4 m4 s4=>?_))
  ·refine hk 1 y mo d 0 0 0 0 0 0 0 st2 T2 (by omega) b1 b2 b3 (by decide) (by decide) (by decide) (by decide) (by decide) (by decide) (by decide) e2 m2 ?_
   by_cases fd:D2 s
   ·obtain⟨rfl,rfl,rfl,rfl⟩:=s2.1 fd
    have h10:s.drop 10=[]:=by rw[<-hs3 _ rfl];exact g
    have e:tmP s=if okD (d2 s 0*100+d2 s 2) (d2 s 5) (d2 s 8)then((1:Int),((L7 (d2 s 0*100+d2 s 2) (d2 s 5) (d2 s 8):Nat):Int),(0:Int),(0:Int),(0:Int))else Ht:=by unfold tmP tmD;rw[if_pos fd,if_pos h10]
    exact Nr _ (by decide) (by rw[e];exact fin1 _ _ _) h10
   ·obtain rfl:=s2.2 fd
    exact BT (by rw[KO hnc fd])
  ·obtain⟨x4,hx4,_,hs4⟩:=m4.1.src
   have nofd:¬D2 s->T4=none:=fun fd=>by
    obtain rfl:=s2.2 fd
    obtain rfl:T3=none:=s3
    exact s4
   have E4:=(e2.trans (HN e3)).trans e4
   refine Ad hx4 (Al (Ac (fun g4=>?_) fun g4=>MB m4 fun sg oh om st5 T5 d1 d2 d3 e5 m5 s5=>?_))
   ·refine hk 3 y mo d h mi sc nn 0 0 0 st4 T4 (by omega) b1 b2 b3 c1 c2 c3 c4 (by decide) (by decide) (by decide) E4 m4 ?_
    by_cases fd:D2 s
    ·obtain⟨rfl,rfl,rfl,rfl⟩:=s2.1 fd
     have hne:s.drop 10≠ []:=fun e=>g (by rw[hs3 _ rfl];exact e)
     by_cases fo:(s.drop 10).getD 0 0∈ [84,116,32]
     ·obtain⟨rfl,_⟩:=s3.pos fo
      have e:=PO fd hne fo
      unfold Si at s4
      dsimp only at s4
      rw[List.drop_drop]at s4
      cases hc:Kt (s.drop (10+1))with
      | none=>rw[hc]at s4 e;exact s4▸BT e
      | some p=>
       obtain⟨h',mi',sc',f',r'⟩:=p
       rw[hc]at s4 e
       dsimp only at s4 e
       obtain⟨rfl,rfl,rfl,rfl,rfl⟩:=s4
       have hr:r'=[]:=by rw[<-hs4 _ rfl];exact g4
       unfold tmO at e
       rw[if_pos hr]at e
       exact Nr _ (by decide) (by rw[e];exact fin3 _ _ _ _ _ _ _) hr
     ·obtain rfl:=s3.neg fo
      obtain rfl:T4=none:=s4
      exact BT (PN fd hne fo)
    ·obtain rfl:=nofd fd
     exact BT (by rw[KO hnc fd])
   ·refine hk 4 y mo d h mi sc nn sg oh om st5 T5 (by omega) b1 b2 b3 c1 c2 c3 c4 d1 d2 d3 (E4.trans e5) m5 ?_
    by_cases fd:D2 s
    ·obtain⟨rfl,rfl,rfl,rfl⟩:=s2.1 fd
     have hne:s.drop 10≠ []:=fun e=>g (by rw[hs3 _ rfl];exact e)
     by_cases fo:(s.drop 10).getD 0 0∈ [84,116,32]
     ·obtain⟨rfl,_⟩:=s3.pos fo
      have e:=PO fd hne fo
      unfold Si at s4
      dsimp only at s4
      rw[List.drop_drop]at s4
      cases hc:Kt (s.drop (10+1))with
      | none=>
       rw[hc]at s4 e
       dsimp only at s4
       subst s4
       obtain rfl:T5=none:=s5
       exact BT e
      | some p=>
       obtain⟨h',mi',sc',f',r'⟩:=p
       rw[hc]at s4 e
       dsimp only at s4 e
       obtain⟨rfl,rfl,rfl,rfl,rfl⟩:=s4
       have hr:r'≠ []:=fun e=>g4 (by rw[hs4 _ rfl];exact e)
       unfold tmO at e
       rw[if_neg hr]at e
       by_cases h5:T5=some []
       ·obtain⟨ls,ho,hl⟩:=s5.1 h5
        rw[ho]at e
        exact⟨fun _=>by rw[e];exact fin4 _ _ _ _ _ _ _ _ _ _ _ hl,fun h=>absurd h5 h⟩
       ·have ho:=s5.2 h5
        rw[ho]at e
        exact⟨fun h=>absurd h h5,fun _=>e⟩
     ·obtain rfl:=s3.neg fo
      obtain rfl:T4=none:=s4
      obtain rfl:T5=none:=s5
      exact BT (PN fd hne fo)
    ·obtain rfl:=nofd fd
     obtain rfl:T5=none:=s5
     exact BT (by rw[KO hnc fd])
 ·have hnc:b0 s 2≠58:=fun h=>by have:=at_pos' (by decide) h;omega
  refine QW hm fun y mo d st2 T2 b1 b2 b3 e2 m2 s2=>?_
  obtain⟨x3,hx3,_,hs3⟩:=m2.1.src
  refine Ad hx3 (Al (Ac (fun g=>?_) fun g=>FY (of:=[84,116,32]) (by decide) (by decide) m2.1 fun c st3 T3 bc e3 h3 s3=>KP (m2.step e3 h3) fun h mi sc nn st4 T4 c1 c2 c3 c4 e4 m4 s4=>?_))
  ·refine hk 1 y mo d 0 0 0 0 0 0 0 st2 T2 (by omega) b1 b2 b3 (by decide) (by decide) (by decide) (by decide) (by decide) (by decide) (by decide) e2 m2 ?_
   by_cases fd:D2 s
   ·obtain⟨rfl,rfl,rfl,rfl⟩:=s2.1 fd
    have h10:s.drop 10=[]:=by rw[<-hs3 _ rfl];exact g
    have e:tmP s=if okD (d2 s 0*100+d2 s 2) (d2 s 5) (d2 s 8)then((1:Int),((L7 (d2 s 0*100+d2 s 2) (d2 s 5) (d2 s 8):Nat):Int),(0:Int),(0:Int),(0:Int))else Ht:=by unfold tmP tmD;rw[if_pos fd,if_pos h10]
    exact Nr _ (by decide) (by rw[e];exact fin1 _ _ _) h10
   ·obtain rfl:=s2.2 fd
    exact BT (by rw[KO hnc fd])
  ·obtain⟨x4,hx4,_,hs4⟩:=m4.1.src
   have nofd:¬D2 s->T4=none:=fun fd=>by
    obtain rfl:=s2.2 fd
    obtain rfl:T3=none:=s3
    exact s4
   have E4:=(e2.trans (HN e3)).trans e4
   refine Ad hx4 (Al (Ac (fun g4=>?_) fun g4=>MB m4 fun sg oh om st5 T5 d1 d2 d3 e5 m5 s5=>?_))
   ·refine hk 3 y mo d h mi sc nn 0 0 0 st4 T4 (by omega) b1 b2 b3 c1 c2 c3 c4 (by decide) (by decide) (by decide) E4 m4 ?_
    by_cases fd:D2 s
    ·obtain⟨rfl,rfl,rfl,rfl⟩:=s2.1 fd
     have hne:s.drop 10≠ []:=fun e=>g (by rw[hs3 _ rfl];exact e)
     by_cases fo:(s.drop 10).getD 0 0∈ [84,116,32]
     ·obtain⟨rfl,_⟩:=s3.pos fo
      have e:=PO fd hne fo
      unfold Si at s4
      dsimp only at s4
      rw[List.drop_drop]at s4
      cases hc:Kt (s.drop (10+1))with
      | none=>rw[hc]at s4 e;exact s4▸BT e
      | some p=>
       obtain⟨h',mi',sc',f',r'⟩:=p
       rw[hc]at s4 e
       dsimp only at s4 e
       obtain⟨rfl,rfl,rfl,rfl,rfl⟩:=s4
       have hr:r'=[]:=by rw[<-hs4 _ rfl];exact g4
       unfold tmO at e
       rw[if_pos hr]at e
       exact Nr _ (by decide) (by rw[e];exact fin3 _ _ _ _ _ _ _) hr
     ·obtain rfl:=s3.neg fo
      obtain rfl:T4=none:=s4
      exact BT (PN fd hne fo)
    ·obtain rfl:=nofd fd
     exact BT (by rw[KO hnc fd])
   ·refine hk 4 y mo d h mi sc nn sg oh om st5 T5 (by omega) b1 b2 b3 c1 c2 c3 c4 d1 d2 d3 (E4.trans e5) m5 ?_
    by_cases fd:D2 s
    ·obtain⟨rfl,rfl,rfl,rfl⟩:=s2.1 fd
     have hne:s.drop 10≠ []:=fun e=>g (by rw[hs3 _ rfl];exact e)
     by_cases fo:(s.drop 10).getD 0 0∈ [84,116,32]
     ·obtain⟨rfl,_⟩:=s3.pos fo
      have e:=PO fd hne fo
      unfold Si at s4
      dsimp only at s4
      rw[List.drop_drop]at s4
      cases hc:Kt (s.drop (10+1))with
      | none=>
       rw[hc]at s4 e
       dsimp only at s4
       subst s4
       obtain rfl:T5=none:=s5
       exact BT e
      | some p=>
       obtain⟨h',mi',sc',f',r'⟩:=p
       rw[hc]at s4 e
       dsimp only at s4 e
       obtain⟨rfl,rfl,rfl,rfl,rfl⟩:=s4
       have hr:r'≠ []:=fun e=>g4 (by rw[hs4 _ rfl];exact e)
       unfold tmO at e
       rw[if_neg hr]at e
       by_cases h5:T5=some []
       ·obtain⟨ls,ho,hl⟩:=s5.1 h5
        rw[ho]at e
        exact⟨fun _=>by rw[e];exact fin4 _ _ _ _ _ _ _ _ _ _ _ hl,fun h=>absurd h5 h⟩
       ·have ho:=s5.2 h5
        rw[ho]at e
        exact⟨fun h=>absurd h h5,fun _=>e⟩
     ·obtain rfl:=s3.neg fo
      obtain rfl:T4=none:=s4
      obtain rfl:T5=none:=s5
      exact BT (PN fd hne fo)
    ·obtain rfl:=nofd fd
     obtain rfl:T5=none:=s5
     exact BT (by rw[KO hnc fd])
abbrev KT (K:Int->Int->Int->Int->Int->St->Prop) (r:TmR) (st:St):Prop:=K r.1 r.2.1 r.2.2.1 r.2.2.2.1 r.2.2.2.2 st
theorem Wk {h mi sc nn:Nat} (h1:h<100) (h2:mi<100) (h3:sc<100) (h4:nn<1000000000):
  i64.wrap ((i64.wrap ((i64.wrap ((i64.wrap ((i64.wrap ((i64.wrap (((h:Nat):Int)*60))+((mi:Nat):Int)))*60))+((sc:Nat):Int)))*1000000000))+((nn:Nat):Int))=((GM h mi sc nn:Nat):Int):=by
 rw[As (((h:Nat):Int)*60) (by omega) (by omega),As (((h:Nat):Int)*60+((mi:Nat):Int)) (by omega) (by omega),As ((((h:Nat):Int)*60+((mi:Nat):Int))*60) (by omega) (by omega),As ((((h:Nat):Int)*60+((mi:Nat):Int))*60+((sc:Nat):Int)) (by omega) (by omega),As (((((h:Nat):Int)*60+((mi:Nat):Int))*60+((sc:Nat):Int))*1000000000) (by omega) (by omega),As _ (by omega) (by omega)]
 unfold GM;omega
theorem off_w {oh om:Nat} (h1:oh<100) (h2:om<100):i64.wrap ((i64.wrap (((oh:Nat):Int)*60))+((om:Nat):Int))=((oh*60+om:Nat):Int):=by
 rw[As (((oh:Nat):Int)*60) (by omega) (by omega),As _ (by omega) (by omega)];omega
theorem tP_ok {s:B8} (hl:s.length<=1000000) {st:St} {K:Int->Int->Int->Int->Int->St->Prop} (hk:∀st',Ay st st'->KT K (tmP s) st'):Ae PR Cw [.str s] [.agg [.int .i64,.int .i64,.int .i64,.int .i64],.one (.int .i64)] st K:=by
 refine LU s st K (VR (r:=st.nb) (f:=st.nb+1) (s:=s) ?_ fun n1 y mo d h mi sc nn sg oh om st1 T a1 a2 a3 a4 a5 a6 a7 a8 a9 a10 a11 e1 m1 hF=>?_)
 ·refine⟨⟨?_,?_,hl⟩,?_,?_,?_⟩
  ·simp[St.push];omega
  ·simp[St.push]
  ·simp[St.push]
  ·simp[St.push,fcT]
  ·omega
 ·have E:Ay st st1:=StX.ext (((Ay.refl st).push _ _).push _ _) e1 (by
   rintro i (rfl | rfl)
   ·exact Nat.le_refl _
   ·exact Nat.le_succ _)
  obtain⟨hF1,hF2⟩:=hF
  have cell:∀i v,(fcT y mo d h mi sc nn sg oh om)[i]? =some v->Ab st1 [] (.t (.box (st.nb+1) i)) 0=some v:=fun i v hv=>by
   simp only[Ab,m1.2.2.1,Nat.add_zero];exact hv
  have c0:=cell 0 _ rfl
  have c1:=cell 1 _ rfl
  have c2:=cell 2 _ rfl
  have c3:=cell 3 _ rfl
  have c4:=cell 4 _ rfl
  have c5:=cell 5 _ rfl
  have c6:=cell 6 _ rfl
  have c7:=cell 7 _ rfl
  have c8:=cell 8 _ rfl
  have c9:=cell 9 _ rfl
  clear cell
  obtain⟨hr,t,hb,_,ht⟩:=m1.1.get
  have k0:Ab st1 [] (.t (.box st.nb 0)) 0=some (.str t):=by simp[Ab,hb]
  have k1:Ab st1 [] (.t (.box st.nb 1)) 0=some (.bool T.isNone):=by simp[Ab,hb]
  have bad:T≠some []->K 0 0 0 0 3 st1:=fun hT=>by
   have:=hk st1 E
   rw[hF2 hT]at this;exact this
  refine Ad k1 (Aq (Au (fun g=>bad fun e=>by rw[e]at g;cases g) fun g=>Ad k0 (Al (Ac (fun g1=>bad fun e=>g1 (ht [] e)) fun g1=>?_))))
  have hT:T=some []:=by
   cases T with
   | none=>cases g
   | some x=>rw[<-ht x rfl,Decidable.not_not.1 g1]
  have hV:=hF1 hT
  have hk1:=hk st1 E
  rw[hV]at hk1
  clear hF1 hF2 hV hk bad
  unfold KT Ns at hk1
  have tail:(n1≠2->okD y mo d)->∀D:Int,D=(if n1=2 then 0 else((L7 y mo d:Nat):Int))->okC h mi sc/\oh<=23/\om<=59->K (n1:Nat) D (GM h mi sc nn:Nat) (if sg=45 then-((oh*60+om:Nat):Int)else((oh*60+om:Nat):Int)) 0 st1:=fun h0 D hD h1=>by
   subst hD
   rw[if_pos ⟨h0,h1⟩]at hk1;exact hk1
  have out:(¬(okC h mi sc/\oh<=23/\om<=59)∨¬(n1≠2->okD y mo d))->K 0 0 0 0 2 st1:=fun hn=>by
   rw[if_neg (fun g=>by
    rcases hn with hn | hn
    ·exact hn g.2
    ·exact hn g.1)]at hk1
   exact hk1
  have end_:(n1≠2->okD y mo d)->∀D:Int,D=(if n1=2 then 0 else((L7 y mo d:Nat):Int))->okC h mi sc/\oh<=23/\om<=59->BIf (decide (((sg:Nat):Int)=45)) (K (n1:Nat) D (GM h mi sc nn:Nat) (i64.wrap (0-((oh*60+om:Nat):Int))) 0 st1) (K (n1:Nat) D (GM h mi sc nn:Nat) ((oh*60+om:Nat):Int) 0 st1):=fun h0 D hD h1=>by
   have:=tail h0 D hD h1
   refine Ac (fun g=>?_) fun g=>?_
   ·rw[if_pos (by omega)]at this
    rw[As _ (by omega) (by omega),show(0:Int)-((oh*60+om:Nat):Int)= -((oh*60+om:Nat):Int) by omega];exact this
   ·rw[if_neg (by omega)]at this;exact this
  have okc:∀{a b c:Nat},¬(23:Int)<(a:Nat)->¬(59:Int)<(b:Nat)->¬(59:Int)<(c:Nat)->okC a b c:=fun x y z=>⟨by omega,by omega,by omega⟩
  refine Ac (fun g2=>?_) fun g2=>?_
  ·refine Ad c0 (Ao (Ad c1 (Ao (Ad c2 (Ao (cday_ok (by omega) (by omega) (by omega) ?_))))))
   by_cases hD:okD y mo d
   ·rw[if_pos hD,if_pos hD]
    refine Ac (fun g=>absurd rfl g) fun _=>Ad c3 (Ao (Ac (fun g=>out (.inl fun k=>by have:=k.1.1;omega)) fun k1=>Ad c4 (Ao (Ac (fun g=>out (.inl fun k=>by have:=k.1.2.1;omega)) fun k2=>Ad c5 (Ao (Ac (fun g=>out (.inl fun k=>by have:=k.1.2.2;omega)) fun k3=>Ad c8 (Ao (Ac (fun g=>out (.inl fun k=>by have:=k.2.1;omega)) fun k4=>Ad c9 (Ao (Ac (fun g=>out (.inl fun k=>by have:=k.2.2;omega)) fun k5=>?_))))))))))
    refine Ad c3 (Ao (Ad c4 (Ao (Ad c5 (Ao (Ad c6 (Ao (Ad c8 (Ao (Ad c9 (Ao (Ad c7 (Ao ?_)))))))))))))
    rw[Wk a5 a6 a7 a8,off_w a10 a11]
    exact end_ (fun _=>hD) _ (by rw[if_neg (by omega)]) ⟨okc k1 k2 k3,by omega,by omega⟩
   ·rw[if_neg hD,if_neg hD]
    exact Ac (fun _=>out (.inr fun k=>hD (k (by omega)))) fun g=>absurd (by decide) g
  ·refine Ad c3 (Ao (Ac (fun g=>out (.inl fun k=>by have:=k.1.1;omega)) fun k1=>Ad c4 (Ao (Ac (fun g=>out (.inl fun k=>by have:=k.1.2.1;omega)) fun k2=>Ad c5 (Ao (Ac (fun g=>out (.inl fun k=>by have:=k.1.2.2;omega)) fun k3=>Ad c8 (Ao (Ac (fun g=>out (.inl fun k=>by have:=k.2.1;omega)) fun k4=>Ad c9 (Ao (Ac (fun g=>out (.inl fun k=>by have:=k.2.2;omega)) fun k5=>?_))))))))))
   refine Ad c3 (Ao (Ad c4 (Ao (Ad c5 (Ao (Ad c6 (Ao (Ad c8 (Ao (Ad c9 (Ao (Ad c7 (Ao ?_)))))))))))))
   rw[Wk a5 a6 a7 a8,off_w a10 a11]
   exact end_ (fun h=>absurd (by omega) h) _ (by rw[if_pos (by omega)]) ⟨okc k1 k2 k3,by omega,by omega⟩
def likeF (form s:B8):Prop:=form.length<=s.length/\∀i,i<form.length->if form.getD i 0=100 then B1 (s.getD i 0)else s.getD i 0=form.getD i 0
instance (form s:B8):Decidable (likeF form s):=inferInstanceAs (Decidable (_/\_))
end Go.TVF
section
namespace Go.TVF
open Go.IntKind(i64 u8)
open Go Go.Proofs Go.RowKit
theorem Sim.grown {g:Ghost} {st:St} {loc:List (Option (List TV))} {w w':World} (s:Sim g st loc w) (h:Below w.heap.size w w'):Sim g st loc w'/\Ext g w g w':=
 s.world h.size (s.below.trans (h.mono s.fits)) h.block
end Go.TVF
end
namespace Go.TVF
open Go.IntKind(i64 u8)
open Go Go.Proofs
def VI (c:Int):Bool:=decide (97<=c/\c<=122∨65<=c/\c<=90∨48<=c/\c<=57∨c=95∨c=45∨c=43∨c=46∨c=58)
theorem TY {st:St} {b:Nat} {l xs:List TV} {k:St->Prop} (hb:st.box b= .cells l) (hl:0+xs.length<=l.length) (hk:k (st.put b (.cells (setAll l 0 xs)))):stB st (.box b 0) xs k:=⟨l,hb,hl,hk⟩
def twl (p:Int->Bool):B8->Nat
 | []=>0
 | c::r=>if p (c.toNat:Int)then twl p r+1 else 0
def digitB (c:Int):Bool:=decide (48<=c/\c<=57)
def patB:List (Option UInt8)->B8->Bool
 | [],_=>true
 | _::_,[]=>false
 | none::ps,c::cs=>digitB (c.toNat:Int)&&patB ps cs
 | some a::ps,c::cs=>decide (c=a)&&patB ps cs
def mkPat (d:UInt8) (p:B8):List (Option UInt8):=p.map fun c=>if c=d then none else some c
def hexD (c:Nat):Option Nat:=if 48<=c/\c<=57 then some (c-48)else if 97<=c/\c<=102 then some (c-87)else if 65<=c/\c<=70 then some (c-55)else none
def hexS:Nat->B8->Nat->Except Int Nat
 | 0,_,acc=> .ok acc
 | k+1,[],acc=> .error 4
 | k+1,c::cs,acc=>match hexD c.toNat with
  | none=> .error 3
  | some d=>hexS k cs (acc*16+d)
def escS (l:B8):Except Int (Nat×Nat):=
 match hexS 4 l 0 with
 | .error e=> .error e
 | .ok n=>
  if 56320<=n/\n<=57343 then .error 5
  else if n<55296∨57343<n then .ok (n,4)
  else if l.length<=4 then .error 4
  else if bt l 4≠92 then .error 5
  else if l.length<=5 then .error 4
  else if bt l 5≠117 then .error 5
  else match hexS 4 (l.drop 6) 0 with
   | .error e=> .error e
   | .ok m=>if m<56320∨57343<m then .error 5 else .ok (65536+(n-55296)*1024+(m-56320),10)
def simE (c:Nat):Option UInt8:=if c=34 then some 34 else if c=92 then some 92 else if c=47 then some 47 else if c=98 then some 8 else if c=102 then some 12 else if c=110 then some 10 else if c=114 then some 13 else if c=116 then some 9 else none
def qF:Nat->Nat->B8->B8->Nat->Except Int (B8×Nat)
 | 0,_,_,_,_=> .error 4
 | f+1,m,l,acc,n=>
  if l.length=0 then .error 4
  else if bt l 0=m then .ok (acc,n+1)
  else if ul l=0∨bt l 0<32 then .error 5
  else if bt l 0≠92∨m=39 then qF f m (l.drop (ul l)) (acc++l.take (ul l)) (n+ul l)
  else if l.length<=1 then .error 4
  else if bt l 1=117 then match escS (l.drop 2)with
   | .error e=> .error e
   | .ok p=>qF f m (l.drop (2+p.2)) (acc++Gv p.1) (n+(2+p.2))
  else match simE (bt l 1)with
   | none=> .error 3
   | some c=>qF f m (l.drop 2) (acc++[c]) (n+2)
def wlen (l:B8):Nat:=if twl VI l=10/\patB (mkPat 100 [100,100,100,100,45,100,100,45,100,100,32,100,100,58]) l=true then 11+twl VI (l.drop 11)else twl VI l
def isX (r:B8):Prop:=r≠ []/\(AZ r).length=r.length
def isE (r:B8):Prop:=r=[]∨((r.getD 0 0=101∨r.getD 0 0=69)/\(if (r.drop 1).getD 0 0=45∨(r.drop 1).getD 0 0=43 then isX (r.drop 2)else isX (r.drop 1)))
def isF (r:B8):Prop:=if r.getD 0 0=46 then AZ (r.drop 1)≠ []/\isE (r.drop (1+(AZ (r.drop 1)).length))else isE r
def isQ (t:B8):Prop:=AZ t≠ []/\¬(1<(AZ t).length/\t.getD 0 0=48)/\isF (t.drop (AZ t).length)
instance (r:B8):Decidable (isX r):=inferInstanceAs (Decidable (_/\_))
instance (r:B8):Decidable (isE r):=by unfold isE;infer_instance
instance (r:B8):Decidable (isF r):=by unfold isF;infer_instance
instance (r:B8):Decidable (isQ r):=by unfold isQ;infer_instance
def scK (k:Nat):Sc:=⟨(k:Nat),false,false,[],0,0,0,0,0,[],[]⟩
theorem So (st:St) (s:Sc) (h:s.bytes=[]):VlR st (.mk s [] []) (Ba s .nilSlice .nilSlice .nilSlice):=by
 unfold VlR
 refine⟨_,_,_,[],[],rfl,?_,.of_rd (.inl ⟨rfl,rfl,rfl⟩),by unfold VsR;rfl,.of_rd (.inl ⟨rfl,rfl,rfl⟩),by unfold FsR;rfl⟩
 rw[h];exact .of_rd (.inl ⟨rfl,rfl,rfl⟩)
theorem FsR.snoc0 {st:St} {d:Fd} {cd:List TV} {l:List Fd} {xs:List TV} (h:FsR st l xs) (hd:FdR st d cd):FsR st (l++[d]) (xs++cd):=by
 obtain⟨cks,rfl,hall⟩:=h.chunks
 have:=FsR.of_chunks (hall.snoc hd)
 simpa using this
def b64A:B8:=[65,66,67,68,69,70,71,72,73,74,75,76,77,78,79,80,81,82,83,84,85,86,87,88,89,90,97,98,99,100,101,102,103,104,105,106,107,108,109,110,111,112,113,114,115,116,117,118,119,120,121,122,48,49,50,51,52,53,54,55,56,57,43,47]
def fnd:B8->UInt8->Int
 | [],_=> -1
 | a::al,c=>if a=c then 0 else if fnd al c<0 then-1 else fnd al c+1
theorem szl' (s:Sc):(Vl.mk s [] []).sz=1+s.bytes.length+s.text.length+s.dg.length:=by rw[szs];rfl
def tkT (s:B8):Sc:=⟨4,false,false,[],0,0,0,0,0,s,[]⟩
def tkB (b:Bool):Sc:=⟨1,b,false,[],0,0,0,0,0,[],[]⟩
def tkN (neg:Bool) (dg:B8) (ex:Int):Sc:=⟨2,false,neg,dg,ex,0,0,0,0,[],[]⟩
def tkM (k d n z:Int):Sc:=⟨3,false,false,[],0,k,d,n,z,[],[]⟩
theorem Fn {T b sz bytes:Nat} {st0 st:St} {v:TV} {n k:Nat} {xs ys:List TV} {K:TV->St->Prop} (e:Ay st0 st) (hb:b=st0.nt) (h:Own b sz st v n xs) (hby:(n+k)*bytes<=140737488355328) (hys:k=0->ys=[])
  (hK:∀v' st',Ay st0 st'->DF st st'->Own b sz st' v' (n+k) (xs++ys)->K v' st'):AF T sz bytes v k ys st K:=by
 subst hb
 have kk:∀st':St,st'.nb=st.nb->st'.box=st.box->DF st st':=fun st' a b=>⟨Nat.le_of_eq a.symm,fun i _=>by rw[b]⟩
 rcases h with⟨rfl,rfl,rfl⟩ | ⟨tip,rfl,ht⟩
 ·simp only[AF]
  cases k with
  | zero=>rw[hys rfl]at hK;exact hK _ _ e (kk _ rfl rfl) (.nil _ _ _)
  | succ m=>
   simp only[Aw]
   refine⟨by simpa using hby,hK _ _ (e.fresh _) (kk _ rfl rfl) ?_⟩
   simp only[List.nil_append,Nat.zero_add]
   exact Own.fresh _ _ e.nt
 ·simp only[AF,Nat.beq_refl]
  refine⟨hby,?_⟩
  rcases ht with rfl | ⟨id,rfl,h1,h2,h3⟩
  ·cases k with
   | zero=>rw[hys rfl]at hK;simp only[List.append_nil]at hK;exact hK _ _ e (kk _ rfl rfl) (Own.full _ _ _ _ _)
   | succ m=>exact hK _ _ (e.fresh _) (kk _ rfl rfl) (Own.fresh _ _ e.nt)
  ·exact⟨h3,hK _ _ ((e.retire h1).fresh _) (kk _ rfl rfl) (Own.fresh (st:=st.retire id) _ _ e.nt)⟩
theorem GC:A7 []=0:=Cg _ (by simp[ul])
theorem Qq (l:B8) (m j:Nat):bt (l.take m) j=if j<m then bt l j else 0:=by
 unfold bt
 by_cases h:j<m
 ·rw[if_pos h];simp[List.getD,List.getElem?_take,h]
 ·rw[if_neg h];simp[List.getD,List.getElem?_take,h]
theorem K2 (l:B8) (m r0:Nat):∀j,j<m->CO (l.take m) r0 j=CO l r0 j
 | 0,_=>rfl
 | j+1,h=>by
  simp only[CO]
  rw[K2 l m r0 j (by omega),Qq,if_pos h]
theorem TP {l:B8} {m:Nat} (h:ul l≠0) (hm:ul l<=m):ul (l.take m)=ul l/\ur (l.take m)=ur l:=by
 have hne:l≠ []:=fun h0=>h (by simp[ul,h0])
 have hle:=Mx l
 have hne2:l.take m≠ []:=by
  intro h0
  have:=congrArg List.length h0
  rw[List.length_take]at this
  simp only[List.length_nil]at this
  have:0<l.length:=List.length_pos_iff.2 hne
  omega
 have e1:=G4 l hne
 have e2:=G4 (l.take m) hne2
 rw[if_neg h]at e1
 have hs:=SF (bt l 0)
 unfold P0 at e1
 simp only at e1
 by_cases g1:l.length<rsz (bt l 0)
 ·rw[if_pos g1]at e1
  simp only[Prod.mk.injEq]at e1;omega
 rw[if_neg g1]at e1
 split at e1
 ·rename_i hc
  simp only[Prod.mk.injEq]at e1
  unfold P0 at e2
  simp only at e2
  rw[Qq,if_pos (show 0<m by omega),K2 _ _ _ _ (by omega),if_neg (by rw[List.length_take];omega),List.take_take,Nat.min_eq_left (by omega),if_pos hc]at e2
  split at e2
  ·simp only[Prod.mk.injEq]at e2;omega
  ·simp only[Prod.mk.injEq]at e2;omega
 ·simp only[Prod.mk.injEq]at e1;omega
theorem Sp {l:B8} {m:Nat} (h:ul (l.take m)≠0):ul l=ul (l.take m):=by
 have hne2:l.take m≠ []:=fun h0=>h (by simp[ul,h0])
 have hne:l≠ []:=by rintro rfl;simp at hne2
 have hm:0<m:=by rcases Nat.eq_zero_or_pos m with h0 | h0;(rw[h0]at hne2;simp at hne2);exact h0
 have e1:=G4 l hne
 have e2:=G4 (l.take m) hne2
 rw[if_neg h]at e2
 have hs:=SF (bt l 0)
 have hb:bt (l.take m) 0=bt l 0:=by rw[Qq,if_pos hm]
 unfold P0 at e2
 simp only[hb]at e2
 split at e2
 ·simp only[Prod.mk.injEq]at e2;omega
 rename_i g1
 rw[List.length_take]at g1
 split at e2
 ·rename_i hc
  simp only[Prod.mk.injEq]at e2
  rw[K2 _ _ _ _ (by omega),List.take_take,Nat.min_eq_left (by omega)]at hc
  unfold P0 at e1
  simp only at e1
  rw[if_neg (by omega),if_pos hc]at e1
  split at e1
  ·simp only[Prod.mk.injEq]at e1;omega
  ·simp only[Prod.mk.injEq]at e1;omega
 ·simp only[Prod.mk.injEq]at e2;omega
theorem Mo:∀(n:Nat) (a b:B8),a.length<=n->A7 a=a.length->A7 (a++b)=a.length+A7 b:=by
 intro n
 induction n with
 | zero=>intro a b h hv;have:a=[]:=List.eq_nil_of_length_eq_zero (by omega);subst this;simp
 | succ n ih=>
  intro a b h hv
  by_cases ha:a=[]
  ·subst ha;simp
  have hpos:0<a.length:=List.length_pos_iff.2 ha
  have h0:ul a≠0:=fun h0=>by rw[Cg a h0]at hv;omega
  have hle:=Mx a
  have hu:ul (a++b)=ul a:=by
   have:=Sp (l:=a++b) (m:=a.length) (by rw[List.take_left];exact h0)
   rw[List.take_left]at this;exact this
  rw[D8 _ h0]at hv
  rw[D8 _ (by rw[hu];exact h0),hu,List.drop_append_of_le_length hle,ih _ b (by rw[List.length_drop];omega) (by rw[List.length_drop];omega),List.length_drop]
  omega
theorem QF {a b:B8} (ha:A7 a=a.length) (hb:A7 b=b.length):A7 (a++b)=(a++b).length:=by
 rw[Mo _ a b (Nat.le_refl _) ha,List.length_append,hb]
theorem Lb (st:St):DF St.zero st:=⟨Nat.zero_le _,fun i hi=>absurd hi (Nat.not_lt_zero _)⟩
def v64 (c:UInt8):Nat:=(fnd b64A c).toNat
def fin (k eq w:Nat) (pad:Bool) (o:B8):B8×Int:=
 if k%4=0/\eq=0 then(o,0)
 else if 0<eq/\(k%4<2∨4-k%4<eq∨w≠0)then([],3)
 else if k%4=1∨w≠0∨(pad=true/\eq<4-k%4)then([],4)
 else(o,0)
def isD (c:UInt8):Bool:=decide (0<=fnd b64A c)
def lead (s:B8):Nat:=(s.takeWhile isD).length
def nch (c:UInt8):Prop:=B1 c∨c=45∨c=43∨c=46∨c=101
instance (c:UInt8):Decidable (nch c):=inferInstanceAs (Decidable (_∨_))
def tkF (t s:B8) (a:Nat) (b:Bool):Prop:=b=false/\(s.drop a).take t.length=t
instance (t s:B8) (a:Nat) (b:Bool):Decidable (tkF t s a b):=inferInstanceAs (Decidable (_/\_))
end Go.TVF
section
namespace Go.TVF
open Go.IntKind(i64 u8)
open Go Go.Proofs Go.ChangeShapes
section
variable {H:Type} {enc:TypeId×Value->H} {P:Program} {w:World} {base:Nat} {held:Bool}
def Op (enc:TypeId×Value->H) (P:Program) (w:World) (base:Nat) (held:Bool) (n c:Nat) (S:List TV->Prop) (e:TypeId):Prop:=
 P.cellsOf e=c/\∀vs x,DataW.trod enc P w base (fun _=>true) held n e vs=some x->∃tv,AT (Ghost.start w) w tv vs/\tv.length=c/\S tv
theorem op_cell {n:Nat} {c:CTy} {e:TypeId} (h:QA P c e) (hc:P.cellsOf e=1):Op enc P w base held n 1 (flatIs [c]) e:=⟨hc,fun vs x hd=>by
 obtain⟨v,u,rfl,hr,hf⟩:=K5 (Ghost.start w) h hd
 exact⟨[v],.cons hr (.nil _ _),rfl,hf⟩⟩
def SlS (c:Nat) (S:List TV->Prop) (v:TV):Prop:=
 v= .nilSlice∨∃cks:List (List TV),v= .list c .non cks.length cks.flatten/\∀ck,ck∈cks->ck.length=c/\S ck
theorem Wd {n c:Nat} {S:List TV->Prop} {t e:TypeId} (ht:P.underlying t=some (.slice e)) (ht1:P.cellsOf t=1) (hc1:1<=c) (hE:∀m,m<n->Op enc P w base held m c S e):
  Op enc P w base held n 1 (fun tv=>∃v,tv=[v]/\SlS c S v) t:=by
 refine⟨ht1,fun vs x h=>?_⟩
 rcases DataW.trod_slice ht h with⟨rfl,_⟩ | ⟨a,len,cap,elems,rest,m,rfl,rfl,rfl,hb,hl,hm,hel,hi,hsp,_⟩
 ·exact⟨[.nilSlice],.cons .nilSlice (.nil _ _),rfl,_,rfl,.inl rfl⟩
 ·obtain⟨hcE,hE⟩:=hE m (by omega)
  rw[hcE]at hi hsp
  by_cases hcap:cap=0
  ·subst hcap
   obtain rfl:len=0:=by omega
   exact⟨[.list c .non 0 []],.cons (.listE _ _ _ (fun id h=>by cases h)) (.nil _ _),rfl,_,rfl,.inr ⟨[],rfl,fun ck h=>by cases h⟩⟩
  ·obtain⟨b,o,spot⟩:=a
   have hspot:spot=none:=by
    have key:∀(i:Nat) (l:List (DataW H×List MemPlace)) (k:Nat),k<l.length->i=0->(w.cells? base ((⟨b,o,spot⟩:Addr).add (i*c)) c).bind (DataW.trod enc P w base (fun _=>true) held m e)=l[k]?->spot=none:=by
     intro i l k hk hi0 h
     subst hi0
     rw[List.getElem?_eq_getElem hk]at h
     obtain⟨vs,h1,_⟩:=Option.bind_eq_some_iff.1 h
     obtain⟨_,hvl,hvc⟩:=World.cells?_some h1
     have:=World.cell?_spot ((hvc 0 (by omega)).trans (List.getElem?_eq_getElem (show 0<vs.length by omega)))
     rw[Nat.zero_mul]at this
     exact this
    by_cases h0:0<len
    ·exact key 0 elems 0 (by omega) rfl (hi 0 h0)
    ·obtain⟨hr,hs⟩:=hsp rfl
     exact key _ rest 0 (by omega) (by omega) (hs 0 (by omega))
   subst hspot
   have each:∀i,i<len->∃tv vs,AT (Ghost.start w) w tv vs/\tv.length=c/\S tv/\vs.length=c/\∀j,j<c->w.cell? ⟨b,o+(i*c+j),none⟩=some (vs.getD j Go.undef):=by
    intro i hil
    have h:=hi i hil
    rw[List.getElem?_eq_getElem (by omega)]at h
    obtain⟨vs,h1,h2⟩:=Option.bind_eq_some_iff.1 h
    obtain⟨tv,hr,htl,hf⟩:=hE vs _ h2
    obtain⟨_,hvl,hvc⟩:=World.cells?_some h1
    refine⟨tv,vs,hr,htl,hf,hvl,fun j hj=>?_⟩
    have:=hvc j (by omega)
    rw[Deep.add_add,Hr]at this
    rw[this]
    simp[List.getD,show j<vs.length by omega]
   have build:∀k,k<=len->∃cks:List (List TV),cks.length=k/\(∀ck,ck∈cks->ck.length=c/\S ck)/\cks.flatten.length=k*c/\∀i (h:i<cks.flatten.length),∃u,w.cell? ⟨b,o+i,none⟩=some u/\Rel (Ghost.start w) w cks.flatten[i] u:=by
    intro k
    induction k with
    | zero=>intro _;exact⟨[],rfl,(fun ck h=>by cases h),by simp,fun i h=>absurd h (Nat.not_lt_zero _)⟩
    | succ k ih=>
     intro hk
     obtain⟨cks,h0,h1,h2,h3⟩:=ih (by omega)
     obtain⟨tv,vs,hr,htl,hf,hvl,hvc⟩:=each k (by omega)
     have hfl:(cks++[tv]).flatten=cks.flatten++tv:=by simp
     refine⟨cks++[tv],by simp[h0],fun ck h=>?_,by rw[hfl,List.length_append,h2,htl,Nat.succ_mul],fun i h=>?_⟩
     ·rcases List.mem_append.1 h with h | h
      ·exact h1 ck h
      ·rw[List.mem_singleton.1 h];exact⟨htl,hf⟩
     ·simp only[hfl]at h⊢
      by_cases hix:i<cks.flatten.length
      ·rw[List.getElem_append_left hix];exact h3 i hix
      ·rw[List.getElem_append_right (by omega)]
       rw[List.length_append]at h
       have hj:i-cks.flatten.length<tv.length:=by omega
       refine⟨vs.getD (i-cks.flatten.length) Go.undef,?_,hr.2 _ hj⟩
       have:=hvc (i-cks.flatten.length) (by omega)
       rw[show o+i=o+(k*c+(i-cks.flatten.length)) by rw[<-h2];omega]
       exact this
   obtain⟨cks,h0,h1,h2,h3⟩:=build len (Nat.le_refl _)
   refine⟨[.list c .non cks.length cks.flatten],.cons ?_ (.nil _ _),rfl,_,rfl,.inr ⟨cks,rfl,h1⟩⟩
   have hu:∀i,∃u,(h:i<cks.flatten.length)->w.cell? ⟨b,o+i,none⟩=some u/\Rel (Ghost.start w) w cks.flatten[i] u:=fun i=>by
    by_cases h:i<cks.flatten.length
    ·obtain⟨u,hu⟩:=h3 i h
     exact⟨u,fun _=>hu⟩
    ·exact⟨Go.undef,fun h'=>absurd h' h⟩
   rw[h0]
   refine .list _ _ _ _ b o cap (fun i=>Classical.choose (hu i)) h2 hl (fun i hi=>?_) (fun i hi=>(Classical.choose_spec (hu i) hi).2) trivial
   have:=(Classical.choose_spec (hu i) hi).1
   exact⟨⟨rfl,_,this⟩,this⟩
end
end Go.TVF
end
section
namespace Go.TVF
open Go.IntKind(i64 u8)
open Go Go.Proofs Go.ChangeShapes
structure Blk {H:Type} (bk:DataW H->Nat):Prop where
 one:∀d,1<=bk d
 str:∀b,b.length+1<=bk (.lit (.string b))
 sl:∀e s,(e.map bk).sum+1<=bk (.slice e s)
 agg:∀p,(p.map bk).sum+1<=bk (.agg p)
section
variable {H:Type} {enc:TypeId×Value->H} {P:Program} {w:World} {base:Nat} {held:Bool} {bk:DataW H->Nat}
def OpQ (bk:DataW H->Nat) (enc:TypeId×Value->H) (P:Program) (w:World) (base:Nat) (held:Bool) (n c:Nat) (S:Nat->List TV->Prop) (e:TypeId):Prop:=
 P.cellsOf e=c/\∀vs x,DataW.trod enc P w base (fun _=>true) held n e vs=some x->∃tv,AT (Ghost.start w) w tv vs/\tv.length=c/\S (bk x.1) tv
def cellQ (c:CTy) (k:Nat) (tv:List TV):Prop:=flatIs [c] tv/\1<=k
def strQ (k:Nat) (tv:List TV):Prop:=∃l:B8,tv=[.str l]/\l.length<=maxLen/\l.length+1<=k
theorem opq_cell {n:Nat} {c:CTy} {e:TypeId} (hb:Blk bk) (h:QA P c e) (hc:P.cellsOf e=1):OpQ bk enc P w base held n 1 (cellQ c) e:=⟨hc,fun vs x hd=>by
 obtain⟨v,u,rfl,hr,hf⟩:=K5 (Ghost.start w) h hd
 exact⟨[v],.cons hr (.nil _ _),rfl,hf,hb.one _⟩⟩
theorem opq_str {n:Nat} {e:TypeId} (hb:Blk bk) (h:P.underlying e=some .string) (hc:P.cellsOf e=1):OpQ bk enc P w base held n 1 strQ e:=⟨hc,fun vs x hd=>by
 obtain⟨s,rfl,rfl,hs⟩:=DataW.trod_string h hd
 exact⟨[_],.cons (MQ (Ghost.start w) w s) (.nil _ _),rfl,_,rfl,by rw[Array.length_toList];exact hs,hb.str _⟩⟩
def SlQ (c:Nat) (S:Nat->List TV->Prop) (k:Nat) (v:TV):Prop:=
 v= .nilSlice∨∃ps:List (List TV×Nat),v= .list c .non ps.length (ps.map (·.1)).flatten/\(∀p,p∈ps->p.1.length=c/\S p.2 p.1)/\(ps.map (·.2)).sum+1<=k
theorem opq_slice {n c:Nat} {S:Nat->List TV->Prop} {t e:TypeId} (hb:Blk bk) (ht:P.underlying t=some (.slice e)) (ht1:P.cellsOf t=1) (hc1:1<=c) (hE:∀m,m<n->OpQ bk enc P w base held m c S e):
  OpQ bk enc P w base held n 1 (fun k tv=>∃v,tv=[v]/\SlQ c S k v) t:=by
 refine⟨ht1,fun vs x h=>?_⟩
 rcases DataW.trod_slice ht h with⟨rfl,_⟩ | ⟨a,len,cap,elems,rest,m,rfl,rfl,rfl,hbk,hl,hm,hel,hi,hsp,_⟩
 ·exact⟨[.nilSlice],.cons .nilSlice (.nil _ _),rfl,_,rfl,.inl rfl⟩
 ·obtain⟨hcE,hE⟩:=hE m (by omega)
  rw[hcE]at hi hsp
  have hbs:=hb.sl (elems.map (·.1)) (rest.map (·.1))
  rw[List.map_map]at hbs
  by_cases hcap:cap=0
  ·subst hcap
   obtain rfl:len=0:=by omega
   exact⟨[.list c .non 0 []],.cons (.listE _ _ _ (fun id h=>by cases h)) (.nil _ _),rfl,_,rfl,.inr ⟨[],rfl,(fun ck h=>by cases h),by simp only[List.map_nil,List.sum_nil];omega⟩⟩
  ·obtain⟨b,o,spot⟩:=a
   have hspot:spot=none:=by
    have key:∀(i:Nat) (l:List (DataW H×List MemPlace)) (k:Nat),k<l.length->i=0->(w.cells? base ((⟨b,o,spot⟩:Addr).add (i*c)) c).bind (DataW.trod enc P w base (fun _=>true) held m e)=l[k]?->spot=none:=by
     intro i l k hk hi0 h
     subst hi0
     rw[List.getElem?_eq_getElem hk]at h
     obtain⟨vs,h1,_⟩:=Option.bind_eq_some_iff.1 h
     obtain⟨_,hvl,hvc⟩:=World.cells?_some h1
     have:=World.cell?_spot ((hvc 0 (by omega)).trans (List.getElem?_eq_getElem (show 0<vs.length by omega)))
     rw[Nat.zero_mul]at this
     exact this
    by_cases h0:0<len
    ·exact key 0 elems 0 (by omega) rfl (hi 0 h0)
    ·obtain⟨hr,hs⟩:=hsp rfl
     exact key _ rest 0 (by omega) (by omega) (hs 0 (by omega))
   subst hspot
   have each:∀i (hil:i<len),∃tv vs,AT (Ghost.start w) w tv vs/\tv.length=c/\S (bk (elems[i]'(by omega)).1) tv/\vs.length=c/\∀j,j<c->w.cell? ⟨b,o+(i*c+j),none⟩=some (vs.getD j Go.undef):=by
    intro i hil
    have h:=hi i hil
    rw[List.getElem?_eq_getElem (by omega)]at h
    obtain⟨vs,h1,h2⟩:=Option.bind_eq_some_iff.1 h
    obtain⟨tv,hr,htl,hf⟩:=hE vs _ h2
    obtain⟨_,hvl,hvc⟩:=World.cells?_some h1
    refine⟨tv,vs,hr,htl,hf,hvl,fun j hj=>?_⟩
    have:=hvc j (by omega)
    rw[Deep.add_add,Hr]at this
    rw[this]
    simp[List.getD,show j<vs.length by omega]
   have build:∀k,k<=len->∃ps:List (List TV×Nat),ps.length=k/\(∀p,p∈ps->p.1.length=c/\S p.2 p.1)/\ps.map (·.2)=(elems.take k).map (fun y=>bk y.1)/\(ps.map (·.1)).flatten.length=k*c/\∀i (h:i<(ps.map (·.1)).flatten.length),∃u,w.cell? ⟨b,o+i,none⟩=some u/\Rel (Ghost.start w) w (ps.map (·.1)).flatten[i] u:=by
    intro k
    induction k with
    | zero=>intro _;exact⟨[],rfl,(fun ck h=>by cases h),by simp,by simp,fun i h=>absurd h (Nat.not_lt_zero _)⟩
    | succ k ih=>
     intro hk
     obtain⟨ps,h0,h1,hm1,h2,h3⟩:=ih (by omega)
     obtain⟨tv,vs,hr,htl,hf,hvl,hvc⟩:=each k (by omega)
     have hfl:((ps++[(tv,bk (elems[k]'(by omega)).1)]).map (·.1)).flatten=(ps.map (·.1)).flatten++tv:=by simp
     refine⟨ps++[(tv,bk (elems[k]'(by omega)).1)],by simp[h0],fun p h=>?_,?_,by rw[hfl,List.length_append,h2,htl,Nat.succ_mul],fun i h=>?_⟩
     ·rcases List.mem_append.1 h with h | h
      ·exact h1 p h
      ·rw[List.mem_singleton.1 h];exact⟨htl,hf⟩
     ·rw[List.map_append,hm1,List.take_succ_eq_append_getElem (by omega),List.map_append];rfl
     ·simp only[hfl]at h⊢
      by_cases hix:i<(ps.map (·.1)).flatten.length
      ·rw[List.getElem_append_left hix];exact h3 i hix
      ·rw[List.getElem_append_right (by omega)]
       rw[List.length_append]at h
       have hj:i-(ps.map (·.1)).flatten.length<tv.length:=by omega
       refine⟨vs.getD (i-(ps.map (·.1)).flatten.length) Go.undef,?_,hr.2 _ hj⟩
       have:=hvc (i-(ps.map (·.1)).flatten.length) (by omega)
       rw[show o+i=o+(k*c+(i-(ps.map (·.1)).flatten.length)) by rw[<-h2];omega]
       exact this
   obtain⟨ps,h0,h1,hm1,h2,h3⟩:=build len (Nat.le_refl _)
   refine⟨[.list c .non ps.length (ps.map (·.1)).flatten],.cons ?_ (.nil _ _),rfl,_,rfl,.inr ⟨ps,rfl,h1,?_⟩⟩
   ·have hu:∀i,∃u,(h:i<(ps.map (·.1)).flatten.length)->w.cell? ⟨b,o+i,none⟩=some u/\Rel (Ghost.start w) w (ps.map (·.1)).flatten[i] u:=fun i=>by
     by_cases h:i<(ps.map (·.1)).flatten.length
     ·obtain⟨u,hu⟩:=h3 i h
      exact⟨u,fun _=>hu⟩
     ·exact⟨Go.undef,fun h'=>absurd h' h⟩
    rw[h0]
    refine .list _ _ _ _ b o cap (fun i=>Classical.choose (hu i)) h2 hl (fun i hi=>?_) (fun i hi=>(Classical.choose_spec (hu i) hi).2) trivial
    have:=(Classical.choose_spec (hu i) hi).1
    exact⟨⟨rfl,_,this⟩,this⟩
   ·rw[hm1,List.take_of_length_le (by omega)]
    exact hbs
def Qy (bk:DataW H->Nat) (enc:TypeId×Value->H) (P:Program) (w:World) (base:Nat) (held:Bool) (n:Nat):List (Nat×(Nat->List TV->Prop))->List Field->Nat->Prop
 | [],[],_=>True
 | S::Ss,f::fs,o=>f.offset=o/\OpQ bk enc P w base held n S.1 S.2 f.type/\Qy bk enc P w base held n Ss fs (o+S.1)
 | _,_,_=>False
def EachQ:List (Nat×(Nat->List TV->Prop))->Nat->List TV->Prop
 | [],_,xs=>xs=[]
 | S::Ss,k,xs=>∃a b k1 k2,xs=a++b/\a.length=S.1/\S.2 k1 a/\EachQ Ss k2 b/\k1+k2<=k
def QU:List (Nat×(Nat->List TV->Prop))->Nat
 | []=>0
 | S::Ss=>S.1+QU Ss
theorem MX {n:Nat} {vs:List Value}:∀(Ss:List (Nat×(Nat->List TV->Prop))) (fs:List Field) (o:Nat) (xs:List (DataW H×List MemPlace)),Qy bk enc P w base held n Ss fs o->xs.length=fs.length->vs.length=o+QU Ss->
  (∀(i:Nat) (f:Field),fs[i]? =some f->DataW.trod enc P w base (fun _=>true) held n f.type ((vs.drop f.offset).take (P.cellsOf f.type))=xs[i]?)->∃tv,AT (Ghost.start w) w tv (vs.drop o)/\tv.length=QU Ss/\EachQ Ss (xs.map (fun y=>bk y.1)).sum tv
 | [],[],o,xs,_,_,hl,_=>⟨[],by rw[List.drop_of_length_le (by simp[QU]at hl;omega)];exact .nil _ _,rfl,rfl⟩
 | S::Ss,f::fs,o,[],_,hx,_,_=>by simp at hx
 | S::Ss,f::fs,o,x::xs,ht,hx,hl,hd=>by
  obtain⟨h1,⟨h2,h3⟩,h4⟩:=ht
  have hd0:=hd 0 f rfl
  rw[h1,h2]at hd0
  obtain⟨tv0,hr,htl,hf⟩:=h3 _ _ hd0
  obtain⟨tv,hr',hl',hf'⟩:=MX (n:=n) (vs:=vs) Ss fs (o+S.1) xs h4 (by simpa using hx) (by simp only[QU]at hl;omega) (fun i f' hi=>by simpa using hd (i+1) f' (by simpa using hi))
  refine⟨tv0++tv,?_,by simp[hl',htl,QU],tv0,tv,_,_,rfl,htl,hf,hf',by simp only[List.map_cons,List.sum_cons];exact Nat.le_refl _⟩
  have hlt:o+S.1<=vs.length:=by simp only[QU]at hl;omega
  have e:vs.drop o=(vs.drop o).take S.1++vs.drop (o+S.1):=by rw[<-List.drop_drop,List.take_append_drop]
  rw[e]
  exact AT.append hr hr'
 | [],f::fs,o,xs,ht,_,_,_=>ht.elim
 | S::Ss,[],o,xs,ht,_,_,_=>ht.elim
theorem opq_struct {n c:Nat} {Ss:List (Nat×(Nat->List TV->Prop))} {e:TypeId} {fs:Array Field} (hb:Blk bk) (ht:P.underlying e=some (.struct fs)) (hc:P.cellsOf e=c) (hl:QU Ss=c) (hf:∀m,m<n->Qy bk enc P w base held m Ss fs.toList 0):
  OpQ bk enc P w base held n c (fun k tv=>∃k',k'+1<=k/\EachQ Ss k' tv) e:=⟨hc,fun vs x hd=>by
 obtain⟨xs,m,rfl,rfl,hvl,hx,hi⟩:=DataW.trod_struct ht hd
 obtain⟨tv,h1,h2,h3⟩:=MX (bk:=bk) (enc:=enc) (P:=P) (w:=w) (base:=base) (held:=held) (n:=m) (vs:=vs) Ss fs.toList 0 xs (hf m (by omega)) (by simpa using hx) (by omega) (fun i f h=>hi i f (by simpa using h))
 refine⟨tv,by simpa using h1,by omega,_,?_,h3⟩
 have:=hb.agg (xs.map (·.1))
 rw[List.map_map]at this
 exact this⟩
end
end Go.TVF
end
namespace Go.TVF
open Go.IntKind(i64 u8)
open Go Go.Proofs
section
abbrev decQs:List (Nat×(Nat->List TV->Prop)):=[(1,cellQ .bool),(1,strQ),(1,cellQ (.int .i64))]
abbrev timeQs:List (Nat×(Nat->List TV->Prop)):=[(1,cellQ (.int .i64)),(1,cellQ (.int .i64)),(1,cellQ (.int .i64)),(1,cellQ (.int .i64))]
def valQ (k:Nat) (tv:List TV):Prop:=∃v:Vl,VlR St.zero v tv/\v.sz<=k
def fldQ (k:Nat) (tv:List TV):Prop:=∃d:Fd,FdR St.zero d tv/\d.sz<=k
abbrev SA (c:Nat) (S:Nat->List TV->Prop) (k:Nat) (tv:List TV):Prop:=∃v,tv=[v]/\SlQ c S k v
abbrev inQ (Ss:List (Nat×(Nat->List TV->Prop))) (k:Nat) (tv:List TV):Prop:=∃k',k'+1<=k/\EachQ Ss k' tv
abbrev valQs:List (Nat×(Nat->List TV->Prop)):=[(1,cellQ (.int .i64)),(1,cellQ .bool),(3,inQ decQs),(4,inQ timeQs),(1,strQ),(1,SA 1 (cellQ (.int .u8))),(1,SA 13 valQ),(1,SA 14 fldQ)]
abbrev fldQs:List (Nat×(Nat->List TV->Prop)):=[(1,strQ),(13,valQ)]
theorem SlQ.bytes {k:Nat} {v:TV} (h:SlQ 1 (cellQ (.int .u8)) k v):∃l:B8,SlR St.zero 1 v l.length (AQ l)/\l.length<=k:=by
 rcases h with rfl | ⟨ps,rfl,h,hk⟩
 ·exact⟨[],.inl (.inl ⟨rfl,rfl,rfl⟩),Nat.zero_le _⟩
 ·have:∃l:B8,l.length=ps.length/\(ps.map (·.1)).flatten=AQ l/\l.length<=(ps.map (·.2)).sum:=by
   clear hk
   induction ps with
   | nil=>exact⟨[],rfl,rfl,Nat.zero_le _⟩
   | cons p r ih=>
    obtain⟨l,h1,h2,h3⟩:=ih (fun q hq=>h q (.tail _ hq))
    obtain⟨hl,⟨n,ys,hp,hw,rfl⟩,h1k⟩:=h p (.head _)
    have hn:0<=n/\n<=255:=by simpa [Lit.wf,IntKind.min,IntKind.max,IntKind.signed,IntKind.bits]using hw
    refine⟨n.toNat.toUInt8::l,by simp[h1],?_,by simp only[List.length_cons,List.map_cons,List.sum_cons];omega⟩
    rw[List.map_cons,List.flatten_cons,hp,h2]
    simp only[AQ,List.map_cons,UC,List.cons_append,List.nil_append,List.cons.injEq,and_true,TV.int.injEq,true_and]
    have:=natB_lt n.toNat (by omega)
    omega
  obtain⟨l,h1,h2,h3⟩:=this
  exact⟨l,.inl (.inr ⟨.non,by rw[h1,h2]⟩),by omega⟩
theorem SlQ.vals {k:Nat} {v:TV} (h:SlQ 13 valQ k v):∃l xl,SlR St.zero 13 v l.length xl/\VsR St.zero l xl/\BM l<=k:=by
 rcases h with rfl | ⟨ps,rfl,h,hk⟩
 ·exact⟨[],[],.inl (.inl ⟨rfl,rfl,rfl⟩),by unfold VsR;rfl,by unfold BM;exact Nat.zero_le _⟩
 ·have:∃l:List Vl,l.length=ps.length/\VsR St.zero l (ps.map (·.1)).flatten/\BM l<=(ps.map (·.2)).sum:=by
   clear hk
   induction ps with
   | nil=>exact⟨[],rfl,by unfold VsR;rfl,by unfold BM;exact Nat.zero_le _⟩
   | cons p r ih=>
    obtain⟨l,h1,h2,h3⟩:=ih (fun q hq=>h q (.tail _ hq))
    obtain⟨hl,v,hv,hz⟩:=h p (.head _)
    exact⟨v::l,by simp[h1],by unfold VsR;exact⟨_,_,by simp,hv,h2⟩,by unfold BM;simp only[List.map_cons,List.sum_cons];omega⟩
  obtain⟨l,h1,h2,h3⟩:=this
  exact⟨l,_,.inl (.inr ⟨.non,by rw[h1]⟩),h2,by omega⟩
theorem SlQ.flds {k:Nat} {v:TV} (h:SlQ 14 fldQ k v):∃l xl,SlR St.zero 14 v l.length xl/\FsR St.zero l xl/\Cl l<=k:=by
 rcases h with rfl | ⟨ps,rfl,h,hk⟩
 ·exact⟨[],[],.inl (.inl ⟨rfl,rfl,rfl⟩),by unfold FsR;rfl,by unfold Cl;exact Nat.zero_le _⟩
 ·have:∃l:List Fd,l.length=ps.length/\FsR St.zero l (ps.map (·.1)).flatten/\Cl l<=(ps.map (·.2)).sum:=by
   clear hk
   induction ps with
   | nil=>exact⟨[],rfl,by unfold FsR;rfl,by unfold Cl;exact Nat.zero_le _⟩
   | cons p r ih=>
    obtain⟨l,h1,h2,h3⟩:=ih (fun q hq=>h q (.tail _ hq))
    obtain⟨hl,v,hv,hz⟩:=h p (.head _)
    exact⟨v::l,by simp[h1],by unfold FsR;exact⟨_,_,by simp,hv,h2⟩,by unfold Cl;simp only[List.map_cons,List.sum_cons];omega⟩
  obtain⟨l,h1,h2,h3⟩:=this
  exact⟨l,_,.inl (.inr ⟨.non,by rw[h1]⟩),h2,by omega⟩
theorem Fl {kd:IntKind} {k:Nat} {tv:List TV} (h:cellQ (.int kd) k tv):∃n,tv=[.int kd n]:=by
 obtain⟨⟨n,ys,rfl,_,rfl⟩,_⟩:=h;exact⟨n,rfl⟩
theorem NS {k:Nat} {tv:List TV} (h:cellQ .bool k tv):∃b,tv=[.bool b]:=by
 obtain⟨⟨n,ys,rfl,rfl⟩,_⟩:=h;exact⟨n,rfl⟩
theorem each_field {k:Nat} {tv:List TV} (h:inQ fldQs k tv):fldQ k tv:=by
 obtain⟨k0,hk0,_,_,k1,k2,rfl,_,⟨key,rfl,_,hkey⟩,⟨_,_,k3,k4,rfl,_,⟨v,hv,hz⟩,rfl,h2⟩,h1⟩:=h
 refine⟨.mk key v,by unfold FdR;exact⟨_,by simp,hv⟩,by unfold Fd.sz;omega⟩
theorem each_value {k:Nat} {tv:List TV} (h:inQ valQs k tv):valQ k tv:=by
 obtain⟨k0,hk0,_,_,a1,r1,rfl,_,q1,⟨_,_,a2,r2,rfl,_,q2,⟨_,_,a3,r3,rfl,_,q3,⟨_,_,a4,r4,rfl,_,q4,⟨_,_,a5,r5,rfl,_,q5,⟨_,_,a6,r6,rfl,_,q6,⟨_,_,a7,r7,rfl,_,q7,⟨_,_,a8,r8,rfl,_,q8,rfl,h8⟩,h7⟩,h6⟩,h5⟩,h4⟩,h3⟩,h2⟩,h1⟩:=h
 obtain⟨kd,rfl⟩:=Fl q1
 obtain⟨bo,rfl⟩:=NS q2
 obtain⟨d0,hd0,_,_,d1,d2,rfl,_,p1,⟨_,_,d3,d4,rfl,_,⟨dg,rfl,_,hdg⟩,⟨_,_,d5,d6,rfl,_,p3,rfl,g3⟩,g2⟩,g1⟩:=q3
 obtain⟨ng,rfl⟩:=NS p1
 obtain⟨ex,rfl⟩:=Fl p3
 obtain⟨_,_,_,_,_,_,rfl,_,t1,⟨_,_,_,_,rfl,_,t2,⟨_,_,_,_,rfl,_,t3,⟨_,_,_,_,rfl,_,t4,rfl,_⟩,_⟩,_⟩,_⟩:=q4
 obtain⟨tk,rfl⟩:=Fl t1
 obtain⟨td,rfl⟩:=Fl t2
 obtain⟨tn,rfl⟩:=Fl t3
 obtain⟨tz,rfl⟩:=Fl t4
 obtain⟨tx,rfl,_,htx⟩:=q5
 obtain⟨ub,rfl,q6⟩:=q6
 obtain⟨ul,rfl,q7⟩:=q7
 obtain⟨uf,rfl,q8⟩:=q8
 obtain⟨bs,hb,hbl⟩:=q6.bytes
 obtain⟨l,xl,hl,hlv,hlz⟩:=q7.vals
 obtain⟨f,xf,hf,hfv,hfz⟩:=q8.flds
 refine⟨.mk ⟨kd,bo,ng,dg,ex,tk,td,tn,tz,tx,bs⟩ l f,?_,by rw[szs];simp only;omega⟩
 unfold VlR
 exact⟨ub,ul,uf,xl,xf,by simp,hb,hl,hlv,hf,hfv⟩
section
variable {H:Type} {enc:TypeId×Value->H} {P:Program} {w:World} {base b0:Nat} {held:Bool} {bk:DataW H->Nat}
end
end
section
def IsValU (t:TV):Prop:=∃v cs,t= .agg cs/\VlR St.zero v cs
section
variable {H:Type} {enc:TypeId×Value->H} {P:Program} {w:World} {base b0:Nat} {held:Bool} {bk:DataW H->Nat}
theorem open_valU {t:TypeId} {fs:Array Field} {v:Value} {d:DataW H} {p:List MemPlace} (ht:P.underlying t=some (.struct fs)) (hop:∀n,OpQ bk enc P w base held n 13 valQ t)
  (hval:Value.okWide P w .any b0 t v) (h:DataW.Trod enc P w base (fun _=>true) held t v d p):∃tv,Rel (Ghost.start w) w tv v/\IsValU tv:=by
 simp only[Value.okWide,ht]at hval
 obtain⟨vs,rfl,_,_⟩:=hval
 obtain⟨n,hn⟩:=h
 obtain⟨cs,hr,_,vl,hv,hz⟩:=(hop n).2 _ _ hn
 have:=Rel.agg cs vs.toList hr.1 hr.2
 rw[Array.toArray_toList]at this
 exact⟨_,this,vl,cs,rfl,hv⟩
end
end
def scZ:Sc:=⟨0,false,false,[],0,0,0,0,0,[],[]⟩
def BW (l:List Vl):Vl:= .mk {scZ with kind:=6} l []
def Mw (f:List Fd):Vl:= .mk {scZ with kind:=7} [] f
theorem VsR.nil (st:St):VsR st [] []:=by unfold VsR;rfl
theorem FsR.nil (st:St):FsR st [] []:=by unfold FsR;rfl
end Go.TVF
section
namespace Go.TVF
open Go.IntKind(i64 u8)
open Go Go.Proofs Go.RowKit
theorem P6 {b:Nat} {st:St} {K:TV->St->Prop} (hk:K (.box b 0) st):Ae PR Hy [.box b 0] [.one (.tv)] st K:=by
 refine PP fun g w vargs s hr=>?_
 obtain⟨v,rfl,hv⟩:=V2 hr
 refine⟨v,w,?_,.box b 0,st,g,hk,s,hv,Ext.refl _ _⟩
 show(callFunc 300 #[v]).run Tryz.prog w=_
 rw[run_callFunc_extern Tryz.func300 (by kernel_rfl) (by kernel_rfl) (by kernel_rfl) (e:=Extern.AbiNoEscape.same) (by kernel_rfl)]
 rfl
def N4 (st0:St) (b:Nat) (st:St) (buf:B8):Prop:=
 Ay st0 st/\st0.nb<=b/\b<st.nb/\st.bt b=some 188/\∃p v,st.box b= .cells [p,v]/\(p= .nilPtr∨p= .box b 0)/\
  ((v= .nilSlice/\buf=[])∨∃id,v= .list 1 (.own id) buf.length (AQ buf)/\buf≠ []/\st0.nt<=id/\id<st.nt/\st.live id=true/\st.ty id=some 5)
theorem N4.new {st0 st:St} (e:Ay st0 st):N4 st0 st.nb (st.push (.cells [.nilPtr,.nilSlice]) (some 188)) []:=
 ⟨e.push _ _,e.nb,by simp[St.push],by simp[St.push],.nilPtr,.nilSlice,Ir _ _ _,.inl rfl,.inl ⟨rfl,rfl⟩⟩
theorem Ou {st0 st:St} {b:Nat} {buf:B8} {K:St->Prop} (h:N4 st0 b st buf) (hk:∀st',N4 st0 b st' buf->K st'):Ae PR BG [.box b 0] [] st K:=by
 have h0:=h
 obtain⟨e,h1,h2,h3,p,v,hb,hp,hv⟩:=h
 refine ED b st K (Ad (x:=p) (by simp[Ab,hb]) (Aa (by rcases hp with rfl | rfl<;>rfl) ?_))
 rcases hp with rfl | rfl
 ·refine(show BIf true _ _ from⟨by simp[Ab,hb],P6 ?_⟩)
  refine⟨⟨rfl,h3,_,hb,rfl⟩,Aa rfl ⟨_,hb,by simp,hk _ ?_⟩⟩
  exact⟨e.put h1 _,h1,h2,h3,.box b 0,v,Eo _ _ _,.inr rfl,hv⟩
 ·exact(show BIf false _ _ from Ad (x:= .box b 0) (by simp[Ab,hb]) ⟨rfl,hk st h0⟩)
theorem EC {st0 st:St} {b:Nat} {buf s:B8} {K:Int->TV->St->Prop} (h:N4 st0 b st buf) (hl:buf.length+s.length<=140737488355328) (hk:∀st',N4 st0 b st' (buf++s)->K (s.length:Int) .nilIface st'):
  Ae PR A3 [.box b 0,.str s] [.one (.int .i64),.one (.tv)] st K:=by
 refine D9 b s st K (Ou h fun st1 h1=>?_)
 obtain⟨e,a1,a2,a3,p,v,hb,hp,hv⟩:=h1
 refine Ad (x:=v) (by simp[Ab,hb]) (Ad (TZ st1 s) (Aa (SR s) ?_))
 rcases hv with⟨rfl,rfl⟩ | ⟨id,rfl,n1,n2,n3,n4,n5⟩
 ·cases s with
  | nil=>
   simp only[AF,List.length_nil,AQ,List.map_nil]
   exact Aa rfl ⟨_,hb,by simp,hk _ ⟨e.put a1 _,a1,a2,a3,p,.nilSlice,Eo _ _ _,hp,.inl ⟨rfl,rfl⟩⟩⟩
  | cons c r=>
   simp only[AF,List.length_cons,Nat.mul_one]
   refine Aa (by simp only[List.length_nil,List.length_cons]at hl;simp;omega) (Aa rfl ⟨_,hb,by simp,hk _ ?_⟩)
   exact⟨(e.fresh _).put a1 _,a1,a2,a3,p,_,Eo _ _ _,hp,.inr ⟨st1.nt,rfl,by simp,e.nt,by simp[St.put,St.fresh],by simp[St.put,St.fresh],by simp[St.put,St.fresh]⟩⟩
 ·simp only[AF,Nat.beq_refl,Nat.mul_one]
  refine⟨hl,n4,Aa rfl ⟨_,hb,by simp,hk _ ?_⟩⟩
  refine⟨((e.retire n2).fresh _).put a1 _,a1,a2,a3,p,_,Eo _ _ _,hp,.inr ⟨st1.nt,?_,by simp[n1],e.nt,by simp[St.put,St.fresh,St.retire],by simp[St.put,St.fresh,St.retire],by simp[St.put,St.fresh,St.retire,n5,KM]⟩⟩
  rw[List.length_append,<-Je]
theorem Kv {st0 st:St} {b:Nat} {buf:B8} {K:B8->St->Prop} (h:N4 st0 b st buf) (hl:buf.length<=140737488355328) (hk:∀st',Ay st0 st'->K buf st'):
  Ae PR BX [.box b 0] [.one (.str)] st K:=by
 obtain⟨e,h1,h2,h3,p,v,hb,hp,hv⟩:=h
 have hld:Ab st [] (.t (.box b 1)) 0=some v:=by simp[Ab,hb]
 rcases hv with⟨rfl,rfl⟩ | ⟨id,rfl,n1,n2,n3,n4,n5⟩
 ·refine Dd b st K (Ad hld (Ad (x:= .nilPtr) rfl (Ad hld (Aa rfl ?_))))
  exact⟨rfl,hk st e⟩
 ·refine Dd b st K (Ad hld (Ad (x:= .sptr (.list 1 (.own id) buf.length (AQ buf))) ?_ (Ad hld (Aa rfl ?_))))
  case refine_2=>exact⟨⟨rfl,by omega,n4,n5⟩,Ad (C7 buf) (hk _ (e.retire n2))⟩
  simp only[MN]
  cases hz:buf.length.beq 0 with
  | true=>exact absurd (List.eq_nil_of_length_eq_zero (Nat.eq_of_beq_eq_true hz)) n1
  | false=>rfl
end Go.TVF
end
namespace Go.TVF
open Go.IntKind(i64 u8)
open Go Go.Proofs
theorem S9 {s:B8} {st:St} {K:Int->St->Prop} (hl:s.length<=2000000) (hk:K (if A7 s=s.length then-1 else((A7 s:Nat):Int)) st):Ae PR Ef [.str s] [.one (.int .i64)] st K:=by
 have hv:=VM s
 refine KG s st K ⟨fun i s' st'=>s=s'/\st=st'/\∃k:Nat,i=(k:Int)/\k<=s.length/\k+A7 (s.drop k)=A7 s,fun i _ _=>(s.length-i).toNat,⟨rfl,rfl,0,rfl,by omega,by simp⟩,?_⟩
 rintro _ _ _ ⟨rfl,rfl,k,rfl,h1,h2⟩
 refine Ac (fun g1=>My rfl hl h1 ?_) fun g1=>?_
 ·have hle:=Mx (s.drop k)
  rw[List.length_drop]at hle
  unfold rD
  by_cases h0:ul (s.drop k)=0
  ·rw[if_pos h0]
   rw[Cg _ h0]at h2
   rw[if_neg (by omega)]at hk
   refine Ac (fun _=>?_) fun h=>absurd rfl h
   rw[show k=A7 s by omega];exact hk
  ·rw[if_neg h0]
   rw[D8 _ h0,List.drop_drop]at h2
   refine Ac (fun h=>absurd h (by show ¬((ul (s.drop k):Nat):Int)=0;omega)) fun _=>?_
   have w:i64.wrap ((k:Int)+(ul (s.drop k):Nat))=((k+ul (s.drop k):Nat):Int):=by rw[As _ (by omega) (by omega)];omega
   dsimp only
   rw[w]
   exact⟨⟨rfl,rfl,_,rfl,by omega,by omega⟩,by omega⟩
 ·rw[show s.drop k=[]from List.drop_of_length_le (by omega),VL]at h2
  rw[if_pos (by omega)]at hk;exact hk
section
inductive Nd where
 | mk (kind:Int) (lead text:B8) (kids:List Nd) (tail:B8)
mutual
def NdC:Nd->List TV->Prop
 | .mk k l t ks tl,cs=>∃v xs,cs=[.int .i64 k,.str l,.str t,v,.str tl]/\Rd 5 v ks.length xs/\BD ks xs
def BD:List Nd->List TV->Prop
 | [],xs=>xs=[]
 | n::r,xs=>∃a b,xs=a++b/\NdC n a/\BD r b
end
theorem NdC.len {n:Nd} {cs:List TV} (h:NdC n cs):cs.length=5:=by
 cases n
 unfold NdC at h
 obtain⟨v,xs,rfl,_⟩:=h
 rfl
theorem BD.get:∀{ks:List Nd} {xs:List TV},BD ks xs->∀{i:Nat} {n:Nd},ks[i]? =some n->∃cs,NdC n cs/\∀j x,cs[j]? =some x->xs[i*5+j]? =some x
 | [],xs,h,i,n,hi=>by simp at hi
 | m::r,xs,h,0,n,hi=>by
  unfold BD at h
  obtain⟨a,b,rfl,ha,hb⟩:=h
  simp only[List.getElem?_cons_zero,Option.some.injEq]at hi
  subst hi
  refine⟨a,ha,fun j x hj=>?_⟩
  rw[Nat.zero_mul,Nat.zero_add,List.getElem?_append_left (List.getElem?_eq_some_iff.1 hj).1]
  exact hj
 | m::r,xs,h,i+1,n,hi=>by
  unfold BD at h
  obtain⟨a,b,rfl,ha,hb⟩:=h
  obtain⟨cs,h1,h2⟩:=hb.get (i:=i) (n:=n) (by simpa using hi)
  refine⟨cs,h1,fun j x hj=>?_⟩
  have hl:=ha.len
  rw[List.getElem?_append_right (by omega),show(i+1)*5+j-a.length=i*5+j by omega]
  exact h2 j x hj
theorem BD.append:∀{ks js:List Nd} {xs ys:List TV},BD ks xs->BD js ys->BD (ks++js) (xs++ys)
 | [],js,xs,ys,h,g=>by unfold BD at h;subst h;exact g
 | n::r,js,xs,ys,h,g=>by
  unfold BD at h
  obtain⟨a,b,rfl,ha,hb⟩:=h
  rw[List.cons_append]
  unfold BD
  exact⟨a,b++ys,by rw[List.append_assoc],ha,hb.append g⟩
theorem BD.one {n:Nd} {cs:List TV} (h:NdC n cs):BD [n] cs:=by
 unfold BD
 exact⟨cs,[],by simp,h,by unfold BD;rfl⟩
theorem BD.nil:BD [] []:=by unfold BD;rfl
theorem La {v:TV} {ks:List Nd} {xs:List TV} (hr:Rd 5 v ks.length xs) (hk:BD ks xs) (st:St) {i:Nat} {k:Int} {l t tl:B8} {js:List Nd} (hi:ks[i]? =some (.mk k l t js tl)):
  ∃u ys,(Aj st [] (.t (ixT 5 v i)) 0 5).map TV.agg=some (.agg [.int .i64 k,.str l,.str t,u,.str tl])/\Rd 5 u js.length ys/\BD js ys/\Ap u=true:=by
 obtain⟨cs,hc,hx⟩:=hk.get hi
 unfold NdC at hc
 obtain⟨u,ys,rfl,h1,h2⟩:=hc
 refine⟨u,ys,?_,h1,h2,h1.one⟩
 simp only[Aj,Nat.zero_add,Nat.reduceAdd]
 rw[hr.ldx st i 0 (hx 0 _ rfl),hr.ldx st i 1 (hx 1 _ rfl),hr.ldx st i 2 (hx 2 _ rfl),hr.ldx st i 3 (hx 3 _ rfl),hr.ldx st i 4 (hx 4 _ rfl)]
 rfl
theorem Eb {k:Int} {l t tl:B8} {u:TV} (h:Ap u=true):List.all [.int .i64 k,.str l,.str t,u,.str tl] Ap=true:=by
 simp only[List.all_cons,h];rfl
mutual
def EI:Nd->Nat
 | .mk _ _ _ ks _=>1+Jt ks
def Jt:List Nd->Nat
 | []=>0
 | n::r=>EI n+Jt r
end
theorem Wj (n:Nd):1<=EI n:=by cases n;unfold EI;omega
theorem GQ:∀ks:List Nd,ks.length<=Jt ks
 | []=>by simp[Jt]
 | n::r=>by
  have h1:=Wj n
  have h2:=GQ r
  simp only[Jt,List.length_cons];omega
theorem GP:∀(ks:List Nd) {i:Nat} {n:Nd} (h:ks[i]? =some n),EI n<=Jt ks
 | [],i,n,h=>by simp at h
 | m::r,0,n,h=>by simp only[List.getElem?_cons_zero,Option.some.injEq]at h;subst h;simp only[Jt];omega
 | m::r,i+1,n,h=>by
  have:=GP r (i:=i) (n:=n) (by simpa using h)
  simp only[Jt];omega
mutual
def DX:Nd->Nat
 | .mk _ l t ks tl=>l.length+t.length+tl.length+GO ks
def GO:List Nd->Nat
 | []=>0
 | n::r=>DX n+GO r
end
mutual
def De:Nd->B8
 | .mk _ l t ks tl=>l++t++FG ks++tl
def FG:List Nd->B8
 | []=>[]
 | n::r=>De n++FG r
end
mutual
theorem Ec:∀n:Nd,(De n).length=DX n
 | .mk _ l t ks tl=>by
  have:=K9 ks
  simp only[De,DX,List.length_append];omega
theorem K9:∀ks:List Nd,(FG ks).length=GO ks
 | []=>rfl
 | n::r=>by
  have h1:=Ec n
  have h2:=K9 r
  simp only[FG,GO,List.length_append];omega
end
theorem OW (ks:List Nd) (i:Nat) (n:Nd) (h:ks[i]? =some n):GO (ks.take (i+1))=GO (ks.take i)+DX n:=by
 rw[List.take_add_one,h]
 generalize ks.take i=a
 induction a with
 | nil=>simp[GO]
 | cons m r ih=>simp only[Option.toList_some,List.cons_append,GO]at ih⊢;omega
theorem S6 (ks:List Nd) (i:Nat):GO ks=GO (ks.take i)+GO (ks.drop i):=by
 conv=>lhs;rw[<-List.take_append_drop i ks]
 generalize ks.take i=a
 induction a with
 | nil=>simp[GO]
 | cons m r ih=>simp only[List.cons_append,GO]at ih⊢;omega
theorem Kg (ks:List Nd) (i:Nat) (n:Nd) (h:ks[i]? =some n):GO (ks.take i)+DX n<=GO ks:=by
 have h1:=OW ks i n h
 have h2:=S6 ks (i+1)
 omega
theorem S5 (ks:List Nd) (i:Nat) (n:Nd) (h:ks[i]? =some n):FG (ks.take (i+1))=FG (ks.take i)++De n:=by
 rw[List.take_add_one,h]
 generalize ks.take i=a
 induction a with
 | nil=>simp[FG]
 | cons m r ih=>simp only[Option.toList_some,List.cons_append,FG,List.append_assoc]at ih⊢;rw[ih]
theorem Bs {ks:List Nd} {i:Nat} {n:Nd} (h:ks[i]? =some n):n∈ks:=List.mem_of_getElem? h
theorem TT:∀(n:Nd) {cs:List TV} (hc:NdC n cs) (hl:DX n<=1000000000000000) (hcn:EI n<=1000000000000000) {st:St} {K:Int->St->Prop} (hk:K (DX n:Nat) st),Ae PR F5 [.agg cs] [.one (.int .i64)] st K
 | .mk k l t ks tl,cs,hc,hl,hcn,st,K,hk=>by
  simp only[EI]at hcn
  have hkl0:=GQ ks
  unfold NdC at hc
  obtain⟨v,xs,rfl,hr,hx⟩:=hc
  simp only[DX]at hl hk
  refine QH k l t v tl st K (Aa hr.isSl ⟨fun s i w n st'=>v=w/\n=(ks.length:Int)/\st=st'/\∃j:Nat,i=(j:Int)/\j<=ks.length/\s=((l.length+t.length+tl.length+GO (ks.take j):Nat):Int),fun _ i _ _ _=>(ks.length-i).toNat,⟨rfl,by rw[hr.lenS],rfl,0,rfl,by omega,?_⟩,?_⟩)
  ·rw[As ((l.length:Int)+t.length) (by omega) (by omega),As _ (by omega) (by omega)]
   simp only[List.take_zero,GO];omega
  rintro _ _ _ _ _ ⟨rfl,rfl,rfl,j,rfl,h1,rfl⟩
  rw[hr.lenZ,show Int.toNat (j:Int)=j from rfl]
  refine Ac (fun g=>?_) fun g=>?_
  ·have hlt:j<ks.length:=by omega
   have hget:=List.getElem?_eq_getElem hlt
   generalize hn:ks[j]=n at hget
   obtain⟨k',l',t',js,tl'⟩:=n
   obtain⟨u,ys,hld,h2,h3,h4⟩:=La hr hx st hget
   have hm:=Kg ks j _ hget
   have hcm:=GP ks hget
   have ht:=OW ks j _ hget
   refine⟨⟨by omega,by omega⟩,Ad hld (Aa (Eb h4) ?_)⟩
   refine TT (.mk k' l' t' js tl') (by unfold NdC;exact⟨u,ys,rfl,h2,h3⟩) (by omega) (by omega) ?_
   have w1:i64.wrap (((l.length+t.length+tl.length+GO (ks.take j):Nat):Int)+(DX (.mk k' l' t' js tl'):Nat))=((l.length+t.length+tl.length+GO (ks.take (j+1)):Nat):Int):=by
    rw[As _ (by omega) (by omega)];omega
   have w2:i64.wrap ((j:Int)+1)=((j+1:Nat):Int):=by rw[As _ (by omega) (by omega)];omega
   rw[w1,w2]
   exact⟨⟨rfl,rfl,rfl,j+1,rfl,by omega,rfl⟩,by dsimp only;omega⟩
  ·rw[List.take_of_length_le (by omega)];exact hk
termination_by n=>SizeOf.sizeOf n
decreasing_by
 have:=List.sizeOf_lt_of_mem (Bs hget)
 simp only[Nd.mk.sizeOf_spec]at this⊢
 omega
theorem Ox:∀(n:Nd) {cs:List TV} (hc:NdC n cs) {st0 st:St} {b:Nat} {buf:B8} (hb:N4 st0 b st buf) (hl:buf.length+DX n<=100000000000000) (hcn:EI n<=1000000000000000) {K:St->Prop} (hk:∀st',N4 st0 b st' (buf++De n)->K st'),Ae PR Em [.box b 0,.agg cs] [] st K
 | .mk k l t ks tl,cs,hc,st0,st,b,buf,hb,hl,hcn,K,hk=>by
  simp only[EI]at hcn
  have hkl0:=GQ ks
  unfold NdC at hc
  obtain⟨v,xs,rfl,hr,hx⟩:=hc
  simp only[DX]at hl
  simp only[De]at hk
  refine Ob b k l t v tl st K (EC hb (by omega) fun st1 b1=>EC b1 (by rw[List.length_append];omega) fun st2 b2=>Aa hr.isSl ?_)
  refine⟨fun i b' w n k' l' t' w' tl' st'=>TV.box b 0=b'/\v=w/\n=(ks.length:Int)/\tl=tl'/\∃j:Nat,i=(j:Int)/\j<=ks.length/\N4 st0 b st' (buf++l++t++FG (ks.take j)),fun i _ _ _ _ _ _ _ _ _=>(ks.length-i).toNat,⟨rfl,rfl,by rw[hr.lenS],rfl,0,rfl,by omega,by simpa [FG]using b2⟩,?_⟩
  rintro _ _ _ _ _ _ _ _ _ st3 ⟨rfl,rfl,rfl,rfl,j,rfl,h1,b3⟩
  rw[hr.lenZ,show Int.toNat (j:Int)=j from rfl]
  have hkl:=K9 (ks.take j)
  refine Ac (fun g=>?_) fun g=>?_
  ·have hlt:j<ks.length:=by omega
   have hget:=List.getElem?_eq_getElem hlt
   generalize hn:ks[j]=n at hget
   obtain⟨k',l',t',js,tl'⟩:=n
   obtain⟨u,ys,hld,h2,h3,h4⟩:=La hr hx st3 hget
   have hm:=Kg ks j _ hget
   have hcm:=GP ks hget
   have ht:=S5 ks j _ hget
   refine⟨⟨by omega,by omega⟩,Ad hld (Aa (Eb h4) ?_)⟩
   refine Ox (.mk k' l' t' js tl') (by unfold NdC;exact⟨u,ys,rfl,h2,h3⟩) b3 (by simp only[List.length_append];omega) (by omega) fun st4 b4=>?_
   rw[As ((j:Int)+1) (by omega) (by omega)]
   exact⟨⟨rfl,rfl,rfl,rfl,j+1,by omega,by omega,by rw[ht];simpa using b4⟩,by dsimp only;omega⟩
  ·rw[List.take_of_length_le (by omega)]at hkl b3
   exact EC b3 (by simp only[List.length_append];omega) fun st4 b4=>hk st4 (by simpa using b4)
termination_by n=>SizeOf.sizeOf n
decreasing_by
 have:=List.sizeOf_lt_of_mem (Bs hget)
 simp only[Nd.mk.sizeOf_spec]at this⊢
 omega
theorem UK {n:Nd} {cs:List TV} (hc:NdC n cs) (hl:DX n<=100000000000000) (hcn:EI n<=1000000000000000) {st:St} {K:B8->St->Prop} (hk:∀st',Ay st st'->K (De n) st'):Ae PR Gn [.agg cs] [.one (.str)] st K:=by
 have hc0:=hc
 obtain⟨k,l,t,ks,tl⟩:=n
 unfold NdC at hc
 obtain⟨v,xs,rfl,hr,hx⟩:=hc
 refine Od k l t v tl st K (Ox _ hc0 (N4.new (Ay.refl st)) (by simpa using hl) hcn fun st1 b1=>?_)
 have hn:=Ec (.mk k l t ks tl)
 exact Kv b1 (by simp only[List.nil_append];omega) fun st2 e=>hk st2 e
def IX (k:Int):Bool:=decide (k=2∨k=6∨k=10∨k=11)
theorem leaf_ok {k:Int} {st:St} {K:Bool->St->Prop} (hk:K (IX k) st):Ae PR Hf [.int .i64 k] [.one (.bool)] st K:=by
 unfold IX at hk
 refine PF k st K ?_
 repeat' first
  | exact Gz (decide_eq_true (by omega)).symm hk
  | exact Gz (decide_eq_false (by omega)).symm hk
  | refine Ac (fun _=>?_) fun _=>?_
mutual
def chk:Nd->Int->Int->Except Int Int
 | .mk k l t ks tl,d,s=>if 192<d then .error 9 else if 524288<=s then .error 10 else if k<1∨11<k then .error 6
  else if IX k=true/\(ks.length≠0∨tl≠ [])then .error 1 else HO ks (d+1) (s+1)
def HO:List Nd->Int->Int->Except Int Int
 | [],d,s=> .ok s
 | n::r,d,s=>match chk n d s with | .error e=> .error e | .ok s'=>HO r d s'
end
end
section
mutual
theorem Po:∀(n:Nd) {d s s':Int},s<=524288->chk n d s= .ok s'->s<=s'/\s'<=524288
 | .mk k l t ks tl,d,s,s',hs,h=>by
  unfold chk at h
  split at h
  ·cases h
  split at h
  ·cases h
  split at h
  ·cases h
  split at h
  ·cases h
  have:=NQ ks (by omega) h
  omega
theorem NQ:∀(ks:List Nd) {d s s':Int},s<=524288->HO ks d s= .ok s'->s<=s'/\s'<=524288
 | [],d,s,s',hs,h=>by unfold HO at h;cases h;omega
 | n::r,d,s,s',hs,h=>by
  unfold HO at h
  split at h
  ·cases h
  ·rename_i s1 h1
   have h2:=Po n hs h1
   have h3:=NQ r h2.2 h
   omega
end
mutual
theorem Hm:∀(n:Nd) {d s e:Int},chk n d s= .error e->e≠0
 | .mk k l t ks tl,d,s,e,h=>by
  unfold chk at h
  split at h
  ·cases h;decide
  split at h
  ·cases h;decide
  split at h
  ·cases h;decide
  split at h
  ·cases h;decide
  exact LM ks h
theorem LM:∀(ks:List Nd) {d s e:Int},HO ks d s= .error e->e≠0
 | [],d,s,e,h=>by unfold HO at h;cases h
 | n::r,d,s,e,h=>by
  unfold HO at h
  split at h
  ·rename_i e1 h1;cases h;exact Hm n h1
  ·exact LM r h
end
theorem At {k:IntKind} {n:Int} {f:Int->Prop} (h:f n):Ah (.int k) (.int k n) f:=Aa (by simp) h
def UF (st0:St) (b:Nat) (st:St) (s:Int):Prop:=Ay st0 st/\st0.nb<=b/\st.box b= .cells [.int .i64 s]
theorem OB:∀(n:Nd) {cs:List TV} (hc:NdC n cs) {d s:Int} (hd0:0<=d) (hd:d<=200) (hs0:0<=s) (hs:s<=524288) (hcn:EI n<=1000000000000000) {st0 st:St} {b:Nat} (hb:UF st0 b st s) {K:Int->St->Prop}
  (hk1:∀s' st',chk n d s= .ok s'->UF st0 b st' s'->K 0 st') (hk2:∀e st',chk n d s= .error e->Ay st0 st'->K e st'),Ae PR Dn [.agg cs,.int .i64 d,.box b 0] [.one (.int .i64)] st K
 | .mk k l t ks tl,cs,hc,d,s,hd0,hd,hs0,hs,hcn,st0,st,b,hb,K,hk1,hk2=>by
  simp only[EI]at hcn
  have hkl0:=GQ ks
  unfold NdC at hc
  obtain⟨v,xs,rfl,hr,hx⟩:=hc
  unfold chk at hk1 hk2
  obtain⟨hb1,hb2,hb3⟩:=hb
  refine Oc k l t v tl d b st K (Ac (fun g=>?_) fun g=>?_)
  ·rw[if_pos g]at hk2;exact hk2 _ _ rfl hb1
  rw[if_neg g]at hk1 hk2
  refine Ad (x:= .int .i64 s) (by simp[Ab,hb3]) ?_
  refine At (TY hb3 (by simp) ?_)
  rw[As (s+1) (by omega) (by omega)]
  obtain⟨st1,hst1⟩:∃st1,st1=st.put b (.cells (setAll [.int .i64 s] 0 [.int .i64 (s+1)])):=⟨_,rfl⟩
  have hb4:st1.box b= .cells [.int .i64 (s+1)]:=by rw[hst1,Eo];rfl
  have hb5:UF st0 b st1 (s+1):=⟨by rw[hst1];exact hb1.put hb2 _,hb2,hb4⟩
  rw[<-hst1]
  refine Ad (x:= .int .i64 (s+1)) (by simp[Ab,hb4]) (At (Ac (fun g2=>?_) fun g2=>?_))
  ·rw[if_pos (by omega)]at hk2;exact hk2 _ _ rfl hb5.1
  rw[if_neg (by omega)]at hk1 hk2
  refine Ac (fun g3=>?_) fun g3=>Ac (fun g4=>?_) fun g4=>?_
  ·rw[if_pos (by omega)]at hk2;exact hk2 _ _ rfl hb5.1
  ·rw[if_pos (by omega)]at hk2;exact hk2 _ _ rfl hb5.1
  rw[if_neg (by omega)]at hk1 hk2
  refine leaf_ok (Au (fun hl=>Aa hr.isSl ?_) fun hl=>Aa hr.isSl ?_)
  case' refine_1=>
   rw[hr.lenS]
   refine Ac (fun g5=>?_) fun g5=>Ac (fun g6=>?_) fun g6=>Aa hr.isSl ?_
   ·rw[if_pos ⟨hl,.inl (by omega)⟩]at hk2;exact hk2 _ _ rfl hb5.1
   ·rw[if_pos ⟨hl,.inr g6⟩]at hk2;exact hk2 _ _ rfl hb5.1
   rw[if_neg (by rintro⟨_,h | h⟩;omega;exact g6 h)]at hk1 hk2
  case' refine_2=>rw[if_neg (by rintro⟨h,_⟩;rw[hl]at h;cases h)]at hk1 hk2
  all_goals
   refine⟨fun i d' sn v' n st'=>v=v'/\TV.box b 0=sn/\d=d'/\n=(ks.length:Int)/\∃(j:Nat) (s1:Int),i=(j:Int)/\j<=ks.length/\UF st0 b st' s1/\HO ks (d+1) (s+1)=HO (ks.drop j) (d+1) s1/\0<=s1/\s1<=524288,
    fun i _ _ _ _ _=>(ks.length-i).toNat,⟨rfl,rfl,rfl,by first | rw[hr.lenS] | rfl,0,s+1,rfl,by omega,hb5,rfl,by omega,by omega⟩,?_⟩
   rintro _ _ _ _ _ st2 ⟨rfl,rfl,rfl,rfl,j,s1,rfl,h1,hb6,heq,h2,h3⟩
   rw[hr.lenZ,show Int.toNat (j:Int)=j from rfl]
   refine Ac (fun q=>?_) fun q=>?_
   ·have hlt:j<ks.length:=by omega
    have hget:=List.getElem?_eq_getElem hlt
    have hdrop:=List.drop_eq_getElem_cons hlt
    generalize hn:ks[j]=n at hget hdrop
    obtain⟨k',l',t',js,tl'⟩:=n
    obtain⟨u,ys,hld,hu1,hu2,hu3⟩:=La hr hx st2 hget
    have hcm:=GP ks hget
    rw[hdrop,HO]at heq
    refine⟨⟨by omega,by omega⟩,Ad hld (Aa (Eb hu3) ?_)⟩
    rw[As (d+1) (by omega) (by omega),As ((j:Int)+1) (by omega) (by omega)]
    refine OB (.mk k' l' t' js tl') (by unfold NdC;exact⟨u,ys,rfl,hu1,hu2⟩) (by omega) (by omega) h2 h3 (by omega) hb6 (fun s' st3 hc hb7=>?_) fun e st3 hc hb7=>?_
    ·rw[hc]at heq
     have:=Po _ h3 hc
     exact Ac (fun h=>absurd rfl h) fun _=>⟨⟨rfl,rfl,rfl,rfl,j+1,s',by omega,by omega,hb7,heq,by omega,by omega⟩,by dsimp only;omega⟩
    ·rw[hc]at heq
     exact Ac (fun _=>hk2 e st3 heq hb7) fun h=>absurd (Decidable.not_not.1 h) (Hm _ hc)
   ·rw[List.drop_of_length_le (by omega),HO]at heq
    exact hk1 _ _ heq hb6
termination_by n=>SizeOf.sizeOf n
decreasing_by
 all_goals
  have:=List.sizeOf_lt_of_mem (Bs hget)
  simp only[Nd.mk.sizeOf_spec]at this⊢
  omega
def Ku (n:Nd):Int:=match chk n 1 0 with
 | .error e=>e
 | .ok _=>if 1048576<DX n then 10 else 0
theorem UO {n:Nd} {cs:List TV} (hc:NdC n cs) (hl:DX n<=1000000000000000) (hcn:EI n<=1000000000000000) {st:St} {K:Int->St->Prop} (hk:∀st',Ay st st'->K (Ku n) st'):Ae PR Gp [.agg cs] [.one (.int .i64)] st K:=by
 have hc0:=hc
 obtain⟨k,l,t,ks,tl⟩:=n
 unfold NdC at hc
 obtain⟨v,xs,rfl,hr,hx⟩:=hc
 unfold Ku at hk
 refine Oe k l t v tl st K (TY (Ir st _ _) (by simp) (OB _ hc0 (d:=1) (s:=0) (by decide) (by decide) (by decide) (by decide) hcn (st0:=st) ⟨?_,Nat.le_refl _,by rw[Eo];rfl⟩ (fun s' st' hc hb=>?_) fun e st' hc hb=>?_))
 ·exact((Ay.refl st).push _ _).put (Nat.le_refl _) _
 ·rw[hc]at hk
  refine Ac (fun h=>absurd rfl h) fun _=>TT _ hc0 hl hcn (Ac (fun g=>?_) fun g=>?_)
  ·have:=hk _ hb.1
   rw[if_pos (by omega)]at this;exact this
  ·have:=hk _ hb.1
   rw[if_neg (by omega)]at this;exact this
 ·rw[hc]at hk
  exact Ac (fun _=>hk _ hb) fun h=>absurd (Decidable.not_not.1 h) (Hm _ hc)
end
theorem QQ:∀(a b:Nd) {cs ds:List TV} (hc:NdC a cs) (hd:NdC b ds) (hcn:EI a<=1000000000000000) {st:St} {K:Bool->St->Prop} (hk1:a=b->K true st) (hk2:a≠b->K false st),
  Ae PR Fe [.agg cs,.agg ds] [.one (.bool)] st K
 | .mk k l t ks tl,.mk k' l' t' js tl',cs,ds,hc,hd,hcn,st,K,hk1,hk2=>by
  simp only[EI]at hcn
  have hkl0:=GQ ks
  unfold NdC at hc hd
  obtain⟨v,xs,rfl,hr,hx⟩:=hc
  obtain⟨u,ys,rfl,hr',hy⟩:=hd
  refine PG k l t v tl k' l' t' u tl' st K (Ac (fun g=>hk2 fun h=>by cases h;exact g rfl) fun g1=>Ac (fun g=>hk2 fun h=>by cases h;exact g rfl) fun g2=>Ac (fun g=>hk2 fun h=>by cases h;exact g rfl) fun g3=>
   Ac (fun g=>hk2 fun h=>by cases h;exact g rfl) fun g4=>Aa hr.isSl (Aa hr'.isSl ?_))
  have g1:=Decidable.not_not.1 g1
  have g2:=Decidable.not_not.1 g2
  have g3:=Decidable.not_not.1 g3
  have g4:=Decidable.not_not.1 g4
  subst g1 g2 g3 g4
  rw[hr.lenS,hr'.lenS]
  refine Ac (fun g=>hk2 fun h=>by cases h;exact g rfl) fun g5=>Aa hr.isSl ?_
  have hlen:ks.length=js.length:=by omega
  refine⟨fun i n k1 l1 t1 v1 tl1 k2 l2 t2 v2 tl2 st'=>n=(ks.length:Int)/\v=v1/\u=v2/\st=st'/\∃j:Nat,i=(j:Int)/\j<=ks.length/\ks.take j=js.take j,fun i _ _ _ _ _ _ _ _ _ _ _ _=>(ks.length-i).toNat,
   ⟨rfl,rfl,rfl,rfl,0,rfl,by omega,by simp⟩,?_⟩
  rintro _ _ _ _ _ _ _ _ _ _ _ _ _ ⟨rfl,rfl,rfl,rfl,j,rfl,h1,heq⟩
  rw[hr.lenZ,hr'.lenZ,show Int.toNat (j:Int)=j from rfl]
  refine Ac (fun q=>?_) fun q=>?_
  ·have hlt:j<ks.length:=by omega
   have hlt':j<js.length:=by omega
   have hget:=List.getElem?_eq_getElem hlt
   have hget':=List.getElem?_eq_getElem hlt'
   generalize hn:ks[j]=n at hget
   generalize hm:js[j]=m at hget'
   obtain⟨k1,l1,t1,a1,tl1⟩:=n
   obtain⟨k2,l2,t2,a2,tl2⟩:=m
   have hcm:=GP ks hget
   obtain⟨u1,ys1,hld,hu1,hu2,hu3⟩:=La hr hx Fg hget
   obtain⟨u2,ys2,hld',hv1,hv2,hv3⟩:=La hr' hy Fg hget'
   refine⟨⟨by omega,by omega⟩,Ad hld ⟨⟨by omega,by omega⟩,Ad hld' ?_⟩⟩
   refine QQ (.mk k1 l1 t1 a1 tl1) (.mk k2 l2 t2 a2 tl2) (by unfold NdC;exact⟨u1,ys1,rfl,hu1,hu2⟩) (by unfold NdC;exact⟨u2,ys2,rfl,hv1,hv2⟩) (by omega) (fun he=>?_) fun he=>?_
   ·refine Au (fun h=>by cases h) fun _=>?_
    rw[As ((j:Int)+1) (by omega) (by omega)]
    exact⟨⟨rfl,rfl,rfl,rfl,j+1,by omega,by omega,by rw[List.take_add_one,List.take_add_one,heq,hget,hget',he]⟩,by dsimp only;omega⟩
   ·refine Au (fun _=>hk2 fun h=>he ?_) fun h=>by cases h
    cases h
    rw[hget]at hget'
    exact Option.some.inj hget'
  ·rw[List.take_of_length_le (by omega),List.take_of_length_le (by omega)]at heq
   exact hk1 (by rw[heq])
termination_by a=>SizeOf.sizeOf a
decreasing_by
 have:=List.sizeOf_lt_of_mem (Bs hget)
 simp only[Nd.mk.sizeOf_spec]at this⊢
 omega
end Go.TVF
section
namespace Go.Proofs
open Go.Shelf
def Tryz.lays155_ren:Go.Shelf.Ren:=⟨fun | 155=>146 | 154=>226 | 138=>280 | 165=>275 | 143=>281 | 166=>196 | 197=>282 | 169=>123 | 195=>308 | 218=>309 | 240=>266 | 241=>305 | 219=>310 | 260=>311 | 276=>300 | 277=>321 | 217=>322 | 225=>323 | 224=>324 | 267=>325 | 266=>330 | 314=>331 | n=>n,fun | 9=>9 | 3=>3 | 4=>4 | 72=>188 | 0=>0 | 76=>254 | 105=>308 | 21=>21 | 5=>5 | 70=>186 | 20=>20 | 37=>59 | 75=>253 | 127=>256 | 164=>315 | 46=>267 | 119=>330 | 139=>333 | 138=>332 | 146=>319 | 51=>318 | 80=>190 | n=>n,fun | 1=>0 | 3=>1 | 4=>2 | n=>n⟩
theorem Tryz.lays155:Go.Proofs.Lays.n155 Tryz.prog Tryz.lays155_ren:={
 mixed:=by kernel_rfl
 f138:=Tryz.func280.trans (congrArg some (by kernel_rfl))
 f143:=Tryz.func281.trans (congrArg some (by kernel_rfl))
 f154:=Tryz.func226.trans (congrArg some (by kernel_rfl))
 f155:=Tryz.func146.trans (congrArg some (by kernel_rfl))
 f165:=Tryz.func275.trans (congrArg some (by kernel_rfl))
 f166:=Tryz.func196.trans (congrArg some (by kernel_rfl))
 f169:=Tryz.func123.trans (congrArg some (by kernel_rfl))
 f195:=Tryz.func308.trans (congrArg some (by kernel_rfl))
 f197:=Tryz.func282.trans (congrArg some (by kernel_rfl))
 f217:=Tryz.func322.trans (congrArg some (by kernel_rfl))
 f218:=Tryz.func309.trans (congrArg some (by kernel_rfl))
 f219:=Tryz.func310.trans (congrArg some (by kernel_rfl))
 f224:=Tryz.func324.trans (congrArg some (by kernel_rfl))
 f225:=Tryz.func323.trans (congrArg some (by kernel_rfl))
 f240:=Tryz.func266.trans (congrArg some (by kernel_rfl))
 f241:=Tryz.func305.trans (congrArg some (by kernel_rfl))
 f260:=Tryz.func311.trans (congrArg some (by kernel_rfl))
 f266:=Tryz.func330.trans (congrArg some (by kernel_rfl))
 f267:=Tryz.func325.trans (congrArg some (by kernel_rfl))
 f276:=Tryz.func300.trans (congrArg some (by kernel_rfl))
 f277:=Tryz.func321.trans (congrArg some (by kernel_rfl))
 f314:=Tryz.func331.trans (congrArg some (by kernel_rfl))
 t0:=Tryz.underlying0
 a0:=Tryz.isAgg0
 z0:=Tryz.sizeOf0
 v0:=Tryz.zeroValue0
 t3:=Tryz.underlying3
 a3:=Tryz.isAgg3
 z3:=Tryz.sizeOf3
 v3:=Tryz.zeroValue3
 t4:=Tryz.underlying4
 a4:=Tryz.isAgg4
 z4:=Tryz.sizeOf4
 v4:=Tryz.zeroValue4
 t5:=Tryz.underlying5
 a5:=Tryz.isAgg5
 z5:=Tryz.sizeOf5
 v5:=Tryz.zeroValue5
 t9:=Tryz.underlying9
 a9:=Tryz.isAgg9
 z9:=Tryz.sizeOf9
 v9:=Tryz.zeroValue9
 t20:=Tryz.underlying20
 a20:=Tryz.isAgg20
 z20:=Tryz.sizeOf20
 v20:=Tryz.zeroValue20
 t21:=Tryz.underlying21
 a21:=Tryz.isAgg21
 z21:=Tryz.sizeOf21
 v21:=Tryz.zeroValue21
 t37:=Tryz.underlying59
 a37:=Tryz.isAgg59
 z37:=Tryz.sizeOf59
 v37:=Tryz.zeroValue59
 t46:=Tryz.underlying267
 a46:=Tryz.isAgg267
 z46:=Tryz.sizeOf267
 v46:=Tryz.zeroValue267
 t51:=Tryz.underlying318
 a51:=Tryz.isAgg318
 z51:=Tryz.sizeOf318
 v51:=Tryz.zeroValue318
 t70:=Tryz.underlying186
 a70:=Tryz.isAgg186
 z70:=Tryz.sizeOf186
 v70:=Tryz.zeroValue186
 t72:=Tryz.underlying188
 a72:=Tryz.isAgg188
 z72:=Tryz.sizeOf188
 v72:=Tryz.zeroValue188
 t75:=Tryz.underlying253
 a75:=Tryz.isAgg253
 z75:=Tryz.sizeOf253
 v75:=Tryz.zeroValue253
 t76:=Tryz.underlying254
 a76:=Tryz.isAgg254
 z76:=Tryz.sizeOf254
 v76:=Tryz.zeroValue254
 t105:=Tryz.underlying308
 a105:=Tryz.isAgg308
 z105:=Tryz.sizeOf308
 v105:=Tryz.zeroValue308
 t119:=Tryz.underlying330
 a119:=Tryz.isAgg330
 z119:=Tryz.sizeOf330
 t127:=Tryz.underlying256
 a127:=Tryz.isAgg256
 z127:=Tryz.sizeOf256
 v127:=Tryz.zeroValue256
 t138:=Tryz.underlying332
 a138:=Tryz.isAgg332
 z138:=Tryz.sizeOf332
 v138:=Tryz.zeroValue332
 t139:=Tryz.underlying333
 a139:=Tryz.isAgg333
 z139:=Tryz.sizeOf333
 v139:=Tryz.zeroValue333
 t146:=Tryz.underlying319
 a146:=Tryz.isAgg319
 z146:=Tryz.sizeOf319
 v146:=Tryz.zeroValue319
 t164:=Tryz.underlying315
 a164:=Tryz.isAgg315
 z164:=Tryz.sizeOf315
 v164:=Tryz.zeroValue315
 g1:=by kernel_rfl
 g3:=by kernel_rfl
 g4:=by kernel_rfl}
theorem Tryz.Builder_Extra_155:Builder.Extra Tryz.prog Tryz.lays155_ren:={
 sizeBuilder:=by kernel_rfl
 liesBuilder:=by kernel_rfl
 t5:=Tryz.underlying5
 a5:=Tryz.isAgg5
 z5:=Tryz.sizeOf5
 v5:=Tryz.zeroValue5
 infoByte:=by kernel_rfl
 cellsByte:=by kernel_rfl
 sizeByte:=by kernel_rfl
 neB5:=by decide}
open Go.RowKit Go.Lib in
theorem Tryz.strings_ReplaceAll (s old new:ByteArray) (m:Int) (w:World) (hs:s.size<4294967281) (hm:w.cell? ⟨0,0,none⟩=some (.int .i64 m)) (h1:1<=old.size) (hlen:s.size+Lib.countB s old*new.size<=140737488355328):
  Calls Tryz.prog 146 #[.string s,.string old,.string new] w fun e w'=>
   e= .returned (.string ⟨(Lib.replaceAll s.data.toList old.data.toList new.data.toList).toArray⟩)/\Below w.heap.size w w':=Any.strings_ReplaceAll Tryz.lays155 Tryz.Builder_Extra_155 s old new m w hs hm h1 hlen
end Go.Proofs
end
section
namespace Go.TVF
open Go.IntKind(i64 u8)
open Go Go.Proofs
open Go.RowKit (Below)
def VV (q:UInt8) (new:B8) (c:UInt8):B8:=if c=q then new else [c]
theorem O0 (q:UInt8) (new:B8):∀s:B8,q∉s->s.flatMap (VV q new)=s
 | [],_=>rfl
 | c::l,h=>by
  simp only[List.mem_cons,not_or]at h
  rw[List.flatMap_cons,O0 q new l h.2]
  simp[VV,Ne.symm h.1]
theorem SI {g:Ghost} {w:World} {x y z:TV} {vs:List Value} (h:AT g w [x,y,z] vs):∃v u t,vs=[v,u,t]/\Rel g w x v/\Rel g w y u/\Rel g w z t:=by
 obtain⟨v,h1,h2⟩:=h.get? (i:=0) rfl
 obtain⟨u,h3,h4⟩:=h.get? (i:=1) rfl
 obtain⟨t,h5,h6⟩:=h.get? (i:=2) rfl
 have hl:=h.1
 match vs,hl with
 | [a,b,c],_=>simp at h1 h3 h5;subst h1 h3 h5;exact⟨_,_,_,rfl,h2,h4,h6⟩
end Go.TVF
end
namespace Go.TVF
open Go.IntKind(i64 u8)
open Go Go.Proofs
def letB (c:Int):Bool:=decide (97<=c/\c<=122∨65<=c/\c<=90)
def DK (c:Int):Bool:=decide (97<=c/\c<=122∨65<=c/\c<=90∨48<=c/\c<=57∨c=43∨c=45∨c=46∨c=58)
def dOk (a b:Int):Bool:=decide (((a=9∨(32<=a/\a<=126))/\33<=b/\b<=126/\a≠b)/\DK a=false/\DK b=false)
def lOk (a b c d e:Int):Bool:=decide (1<=a/\a<=48/\1<=b/\b<=65536/\1<=c/\c<=1048576/\0<=d/\d<=1024/\0<=e/\e<=65536)
theorem Tk {c:Int} {st:St} {K:Bool->St->Prop} (hk:K (letB c) st):Ae PR EL [.int .u8 c] [.one (.bool)] st K:=by
 unfold letB at hk
 refine LX c st K ?_
 repeat' first
  | exact Gz (decide_eq_true (by omega)).symm hk
  | exact Gz (decide_eq_false (by omega)).symm hk
  | exact Gz (decide_eq_decide.2 (by omega)) hk
  | refine Ac (fun _=>?_) fun _=>?_
theorem MI {c:Int} {st:St} {K:Bool->St->Prop} (hk:K (DK c) st):Ae PR BO [.int .u8 c] [.one (.bool)] st K:=by
 unfold DK at hk
 refine KF c st K (Tk (Au (fun h=>?_) fun h=>?_))
 ·have h:=of_decide_eq_true h
  exact Gz (decide_eq_true (by omega)).symm hk
 ·have h:=of_decide_eq_false h
  repeat' first
   | exact Gz (decide_eq_true (by omega)).symm hk
   | exact Gz (decide_eq_false (by omega)).symm hk
   | exact Gz (decide_eq_decide.2 (by omega)) hk
   | refine Ac (fun _=>?_) fun _=>?_
theorem Pd {a b:Int} {x y:Bool} {st:St} {K:Bool->St->Prop} (hk:K (dOk a b) st):Ae PR DP [.agg [.int .u8 a,.int .u8 b,.bool x,.bool y]] [.one (.bool)] st K:=by
 unfold dOk at hk
 have no:¬(((a=9∨(32<=a/\a<=126))/\33<=b/\b<=126/\a≠b)/\DK a=false/\DK b=false)->K false st:=fun h=>Gz (decide_eq_false h).symm hk
 have yes:((a=9∨(32<=a/\a<=126))/\33<=b/\b<=126/\a≠b)->DK a=false->K (!DK b) st:=fun h h1=>by
  cases hb:DK b with
  | true=>exact no fun hh=>by rw[hb]at hh;exact absurd hh.2.2 (by decide)
  | false=>exact Gz (decide_eq_true ⟨h,h1,hb⟩).symm hk
 refine Mr a b x y st K ?_
 repeat' first
  | exact no (by omega)
  | refine Ac (fun _=>?_) fun _=>?_
 all_goals
  refine MI (Au (fun h=>?_) fun h=>no fun hh=>by rw[hh.2.1]at h;cases h)
  simp only[Bool.not_eq_true']at h
  exact MI (yes (by omega) h)
theorem M5 {a b c d e:Int} {st:St} {K:Bool->St->Prop} (hk:K (lOk a b c d e) st):Ae PR DO [.agg [.int .i64 a,.int .i64 b,.int .i64 c,.int .i64 d,.int .i64 e]] [.one (.bool)] st K:=by
 unfold lOk at hk
 refine Mp a b c d e st K ?_
 repeat' first
  | exact Gz (decide_eq_false (by omega)).symm hk
  | exact Gz (decide_eq_decide.2 (by omega)) hk
  | refine Ac (fun _=>?_) fun _=>?_
def Q9:B8:=[116,114,117,101]
def PW:B8:=[102,97,108,115,101]
def DE (ty qd:Bool) (s:B8):Sc:=
 if ty=false∨qd=true then tkT s else if s=[]then scK 0 else if s=Q9 then tkB true else if s=PW then tkB false
 else if (dcP s).2.2.2=0 then tkN (dcP s).1 (dcP s).2.1 (dcP s).2.2.1
 else if (tmP s).2.2.2.2=0 then tkM (tmP s).1 (tmP s).2.1 (tmP s).2.2.1 (tmP s).2.2.2.1 else tkT s
theorem Ga (ty qd:Bool) (s:B8):(DE ty qd s).bytes=[]:=by
 unfold DE
 repeat' split
 all_goals rfl
theorem s45:DK ((45:UInt8).toNat:Int)=true:=by decide
theorem s46:DK ((46:UInt8).toNat:Int)=true:=by decide
theorem s58:DK ((58:UInt8).toNat:Int)=true:=by decide
theorem s101:DK ((101:UInt8).toNat:Int)=true:=by decide
theorem s84:DK ((84:UInt8).toNat:Int)=true:=by decide
theorem s90:DK ((90:UInt8).toNat:Int)=true:=by decide
theorem s43:DK ((43:UInt8).toNat:Int)=true:=by decide
theorem s48:DK ((48:UInt8).toNat:Int)=true:=by decide
def by_ (s:B8) (i:Nat):Int:=((s.getD i 0).toNat:Int)
def K3 (q:Int):B8->Nat->Option Nat
 | [],_=>none
 | [c],i=>if (c.toNat:Int)=q then some (i+1)else none
 | c::c2::l,i=>if (c.toNat:Int)=q then(if (c2.toNat:Int)=q then K3 q l (i+2)else some (i+1))else K3 q (c2::l) (i+1)
def Wb (a q:Int):B8->Nat->Except Nat Nat
 | [],i=> .ok i
 | c::l,i=>if (c.toNat:Int)=a∨(c.toNat:Int)=10∨(c.toNat:Int)=13 then .ok i else if (c.toNat:Int)=q then .error i else Wb a q l (i+1)
def QE (q:Int) (s:B8) (i:Nat):Option Nat:=K3 q (s.drop i) i
def PE (a q:Int) (s:B8) (i:Nat):Except Nat Nat:=Wb a q (s.drop i) i
theorem F7 {s:B8} {i:Nat} (h:i<s.length):∃c,s.drop i=c::s.drop (i+1)/\(c.toNat:Int)=by_ s i:=by
 refine⟨s[i],List.drop_eq_getElem_cons h,?_⟩
 unfold by_
 rw[List.getD_eq_getElem?_getD,List.getElem?_eq_getElem h];rfl
theorem Qw {q:Int} {s:B8} {i:Nat} (h:s.length<=i):QE q s i=none:=by
 unfold QE;rw[List.drop_of_length_le h];rfl
theorem N3 {q:Int} {s:B8} {i:Nat} (h:i<s.length) (hb:by_ s i≠q):QE q s i=QE q s (i+1):=by
 obtain⟨c,hd,hc⟩:=F7 h
 unfold QE
 rw[hd]
 cases hr:s.drop (i+1)with
 | nil=>simp only[K3];rw[if_neg (by omega)]
 | cons c2 l=>simp only[K3];rw[if_neg (by omega)]
theorem Mk {q:Int} {s:B8} {i:Nat} (h:i<s.length) (hb:by_ s i=q) (h2:i+1<s.length->by_ s (i+1)≠q):QE q s i=some (i+1):=by
 obtain⟨c,hd,hc⟩:=F7 h
 unfold QE
 rw[hd]
 by_cases hl:i+1<s.length
 ·obtain⟨c2,hd2,hc2⟩:=F7 hl
  rw[hd2]
  simp only[K3]
  rw[if_pos (by omega),if_neg (by have:=h2 hl;omega)]
 ·rw[List.drop_of_length_le (by omega)]
  simp only[K3];rw[if_pos (by omega)]
theorem Qv {q:Int} {s:B8} {i:Nat} (h:i+1<s.length) (hb:by_ s i=q) (h2:by_ s (i+1)=q):QE q s i=QE q s (i+2):=by
 obtain⟨c,hd,hc⟩:=F7 (show i<s.length by omega)
 obtain⟨c2,hd2,hc2⟩:=F7 h
 unfold QE
 rw[hd,hd2]
 simp only[K3]
 rw[if_pos (by omega),if_pos (by omega)]
theorem Hs {a q:Int} {s:B8} {i:Nat} (h:s.length<=i):PE a q s i= .ok i:=by
 unfold PE;rw[List.drop_of_length_le h];rfl
theorem IH {a q:Int} {s:B8} {i:Nat} (h:i<s.length) (hb:by_ s i=a∨by_ s i=10∨by_ s i=13):PE a q s i= .ok i:=by
 obtain⟨c,hd,hc⟩:=F7 h
 unfold PE;rw[hd];simp only[Wb];rw[if_pos (by rw[hc];exact hb)]
theorem Mm {a q:Int} {s:B8} {i:Nat} (h:i<s.length) (hb:¬(by_ s i=a∨by_ s i=10∨by_ s i=13)) (hq:by_ s i=q):PE a q s i= .error i:=by
 obtain⟨c,hd,hc⟩:=F7 h
 unfold PE;rw[hd];simp only[Wb];rw[if_neg (by rw[hc];exact hb),if_pos (by omega)]
theorem Ml {a q:Int} {s:B8} {i:Nat} (h:i<s.length) (hb:¬(by_ s i=a∨by_ s i=10∨by_ s i=13)) (hq:by_ s i≠q):PE a q s i=PE a q s (i+1):=by
 obtain⟨c,hd,hc⟩:=F7 h
 unfold PE;rw[hd];simp only[Wb];rw[if_neg (by rw[hc];exact hb),if_neg (by omega)]
def Bi (a q:Int) (s:B8) (i:Nat):Except (Nat×Int) Nat:=
 if i<s.length/\by_ s i=q then(match QE q s (i+1)with | some e=> .ok e | none=> .error (s.length,4))
 else match PE a q s i with | .ok e=> .ok e | .error o=> .error (o,3)
def slc (s:B8) (i e:Nat):B8:=(s.take e).drop i
def L4 (q:Int):B8->B8
 | []=>[]
 | [c]=>[c]
 | c::c2::l=>if (c.toNat:Int)=q then c::L4 q l else c::L4 q (c2::l)
def txt (q:Int) (c:B8):B8:=if c=[]∨by_ c 0≠q then c else L4 q ((c.take (c.length-1)).drop 1)
def Cm (s:B8) (i:Nat):Except (Nat×Int) Nat:=
 if s.length<=i then .ok 0 else if by_ s i=10 then .ok 1 else if by_ s i≠13 then .error (i,3)else if s.length<=i+1 then .error (s.length,4)else if by_ s (i+1)=10 then .ok 2 else .error (i,3)
def ES (dep nod:Int) (d:Int) (i:Nat) (v:Int):Except (Nat×Int) Int:=if dep<d then .error (i,9)else if nod<=v then .error (i,10)else .ok (v+1)
structure Cx where
 s:B8
 a:Int
 q:Int
 dep:Int
 nod:Int
def DY (x:Cx) (hd:Bool) (i:Nat) (v:Int) (ns:List B8):Except (Nat×Int) (Nat×Int×List B8):=do
 let v1<-if hd then .ok v else ES x.dep x.nod 3 i v
 let e<-Bi x.a x.q x.s i
 let t:=txt x.q (slc x.s i e)
 if (if hd then 1024 else 65536)<t.length then .error (i,10)
 else if hd/\t∈ns then .error (i,8)
 else .ok (e,v1,if hd then t::ns else ns)
def Kn (s:B8) (i e:Nat) (mark:List Nd):Nd:= .mk 5 [] [] (.mk 2 [] (slc s i e) [] []::mark) []
def Cb (x:Cx) (num:Bool) (wid:Int) (hd:Bool):Nat->List Nd->Nat->Int->List B8->Except (Nat×Int) (Nat×Int×List B8×List Nd)
 | 0,_,_,_,_=> .error (0,0)
 | n+1,acc,i,v,ns=>
  if num/\wid<=acc.length then .error (i,10)else do
   let (e,v1,ns1)<-DY x hd i v ns
   if e<x.s.length/\by_ x.s e=x.a then Cb x num wid hd n (acc++[Kn x.s i e [.mk 11 [] [x.s.getD e 0] [] []]]) (e+1) v1 ns1
   else do
    let _<-Cm x.s e
    .ok (e,v1,ns1,acc++[Kn x.s i e []])
def dbl (c:UInt8) (t:B8):B8:=t.flatMap (VV c [c,c])
theorem FM (c b:UInt8) (t:B8):dbl c (b::t)=(if b=c then [c,c]else [b])++dbl c t:=by
 simp[dbl,VV]
theorem U0 {q:Int} {c:UInt8} (hc:(c.toNat:Int)=q):∀(n:Nat) (l:B8) (i e:Nat),l.length<=n->K3 q l i=some e->∃t rest,l=dbl c t++c::rest/\e=i+(dbl c t).length+1:=by
 have heq:∀b:UInt8,(b.toNat:Int)=q↔b=c:=fun b=>⟨fun h=>UInt8.toNat_inj.1 (by omega),fun h=>by rw[h];exact hc⟩
 intro n
 induction n with
 | zero=>intro l i e hl h;have:l=[]:=List.eq_nil_of_length_eq_zero (by omega);subst this;simp[K3]at h
 | succ n ih=>
  intro l i e hl h
  match l,hl,h with
  | [],_,h=>simp[K3]at h
  | [b],_,h=>
   simp only[K3]at h
   split at h
   ·rename_i hb
    cases h
    exact⟨[],[],by rw[(heq b).1 hb];rfl,rfl⟩
   ·cases h
  | b::b2::l,hl,h=>
   simp only[K3]at h
   split at h
   ·rename_i hb
    have hb:=(heq b).1 hb
    split at h
    ·rename_i hb2
     have hb2:=(heq b2).1 hb2
     obtain⟨t,rest,h1,h2⟩:=ih l (i+2) e (by simp at hl;omega) h
     refine⟨c::t,rest,?_,?_⟩
     ·rw[hb,hb2,h1,FM];simp
     ·rw[h2,FM];simp;omega
    ·cases h
     exact⟨[],b2::l,by rw[hb];rfl,rfl⟩
   ·rename_i hb
    have hb:b≠c:=fun h=>hb ((heq b).2 h)
    obtain⟨t,rest,h1,h2⟩:=ih (b2::l) (i+1) e (by simp at hl⊢;omega) h
    refine⟨b::t,rest,?_,?_⟩
    ·rw[h1,FM,if_neg hb];simp
    ·rw[h2,FM,if_neg hb];simp;omega
theorem QO {q:Int} {c:UInt8} (hc:(c.toNat:Int)=q):∀t:B8,L4 q (dbl c t)=t
 | []=>rfl
 | b::t=>by
  have ih:=QO hc t
  rw[FM]
  by_cases hb:b=c
  ·subst hb
   simp only[if_true,List.cons_append,List.nil_append,L4]
   rw[if_pos hc,ih]
  ·rw[if_neg hb]
   have hb':(b.toNat:Int)≠q:=fun h=>hb (UInt8.toNat_inj.1 (by omega))
   simp only[List.cons_append,List.nil_append]
   cases hd:dbl c t with
   | nil=>rw[hd]at ih;simp only[L4]at ih⊢;rw[<-ih]
   | cons b2 l=>simp only[L4];rw[if_neg hb',<-hd,ih]
theorem Lv (c:UInt8):∀t:B8,c∉t∨∃a b,t=a++c::b/\c∉a
 | []=> .inl (by simp)
 | d::t=>by
  by_cases h:d=c
  ·exact .inr ⟨[],t,by rw[h];rfl,by simp⟩
  ·rcases Lv c t with h1 | ⟨a,b,h1,h2⟩
   ·exact .inl (by simp[Ne.symm h,h1])
   ·exact .inr ⟨d::a,b,by rw[h1];rfl,by simp[Ne.symm h,h2]⟩
theorem R3 {c:UInt8} {t:B8} (h:c∉t):dbl c t=t:=O0 c [c,c] t h
theorem dbl_app (c:UInt8) (a b:B8):dbl c (a++b)=dbl c a++dbl c b:=by simp[dbl]
theorem Lc (c:UInt8) (l:B8):∀a:B8,c∉a->Lib.index (a++l) [c,c]=if Lib.index l [c,c]= -1 then-1 else Lib.index l [c,c]+a.length
 | [],_=>by simp
 | d::a,h=>by
  simp only[List.mem_cons,not_or]at h
  have hp: [c,c].isPrefixOf (d::(a++l))=false:=by simp[List.isPrefixOf,h.1]
  rw[List.cons_append,Lib.index,hp,Lc c l a h.2]
  have hge:=Lib.index_ge l [c,c]
  by_cases hm:Lib.index l [c,c]= -1
  ·simp[hm]
  ·have:¬(Lib.index l [c,c]+(a.length:Int)= -1):=by omega
   simp[hm,this];omega
theorem count2 (c:UInt8):∀(n:Nat) (t:B8),t.length<=n->Lib.count (dbl c t) [c,c]<=t.length/\Lib.replaceK [c,c] [c] (Lib.count (dbl c t) [c,c]) (dbl c t)=t:=by
 intro n
 induction n with
 | zero=>
  intro t ht
  have:t=[]:=List.eq_nil_of_length_eq_zero (by omega)
  subst this
  have h0:Lib.count (dbl c []) [c,c]=0:=Lib.count_miss (by simp[dbl,Lib.index])
  rw[h0];exact⟨by simp,rfl⟩
 | succ n ih=>
  intro t ht
  rcases Lv c t with h | ⟨a,b,h1,h2⟩
  ·rw[R3 h]
   have:Lib.index t [c,c]= -1:=by
    have:=Lc c [] t h
    simpa [Lib.index]using this
   rw[Lib.count_miss this]
   exact⟨by simp,rfl⟩
  ·have hd:dbl c t=a++(c::c::dbl c b):=by rw[h1,dbl_app,R3 h2,FM,if_pos rfl];rfl
   have hi:Lib.index (dbl c t) [c,c]=(a.length:Nat):=by
    have h0:Lib.index (c::c::dbl c b) [c,c]=0:=by simp[Lib.index,List.isPrefixOf]
    rw[hd,Lc c _ a h2,h0];simp
   have hdr:(dbl c t).drop (a.length+ [c,c].length)=dbl c b:=by
    rw[hd,<-List.drop_drop,List.drop_left];rfl
   have hlen:t.length=a.length+1+b.length:=by rw[h1];simp;omega
   obtain⟨c1,c2⟩:=ih b (by omega)
   rw[Lib.count_hit (by simp) hi,hdr]
   refine⟨by omega,?_⟩
   rw[Nat.add_comm,Lib.replaceK_hit _ _ _ _ _ hi,hdr,c2,hd,List.take_left,h1]
   simp
theorem Lq {s t:B8} {c:UInt8} {st:St} {K:B8->St->Prop} (hs:s=dbl c t) (hl:s.length<=2000000000) (hk:K t st):
  Ae PR CF [.str s,.str [c,c],.str [c]] [.one (.str)] st K:=by
 refine E5 (fun _ _=>Tryz.call146 _ _) fun g w vargs sim hr=>?_
 obtain⟨v1,v2,v3,rfl,h1,h2,h3⟩:=SI hr
 rw[CQ h1,CQ h2,CQ h3]
 obtain⟨_,m,hm⟩:=sim.glob w sim.below
 obtain⟨c1,c2⟩:=count2 c t.length t (Nat.le_refl _)
 have hcB:Lib.countB ⟨s.toArray⟩ ⟨#[c,c]⟩=Lib.count s [c,c]:=rfl
 have hts:t.length<=s.length:=by
  rw[hs]
  clear hs hl h1 c1 c2 hk hcB
  induction t with
  | nil=>simp
  | cons b t ih=>rw[FM];split<;>simp<;>omega
 refine Calls.mono (Tryz.strings_ReplaceAll ⟨s.toArray⟩ ⟨#[c,c]⟩ ⟨#[c]⟩ m w ?_ hm ?_ ?_) ?_
 ·show s.toArray.size<_
  simp;omega
 ·show 1<=(#[c,c]:Array UInt8).size
  simp
 ·rw[hcB]
  show s.toArray.size+_*(#[c]:Array UInt8).size<=_
  rw[hs]at hl hts⊢
  simp;omega
 ·rintro e w' ⟨rfl,hb⟩
  obtain⟨s',e'⟩:=sim.grown hb
  have hv:Lib.replaceAll s [c,c] [c]=t:=by
   unfold Lib.replaceAll Lib.replace
   rw[if_neg (by simp),hs]
   exact c2
  refine⟨_,rfl,.str t,st,g,hk,s',?_,e'⟩
  show Rel g w' _ (.string ⟨(Lib.replaceAll s [c,c] [c]).toArray⟩)
  rw[hv]
  exact Rel.str _
def Jg (q:Int) (cl:B8):Prop:=cl=[]∨by_ cl 0≠q∨∃c t,(c.toNat:Int)=q/\cl=c::(dbl c t++[c])
theorem Mz {q:Int} {c:UInt8} {t:B8} (hc:(c.toNat:Int)=q):txt q (c::(dbl c t++[c]))=t:=by
 unfold txt
 rw[if_neg (by simp[by_,hc])]
 have:((c::(dbl c t++[c])).take ((c::(dbl c t++[c])).length-1)).drop 1=dbl c t:=by
  simp
 rw[this,QO hc]
theorem MC {cl:B8} {a q:Int} {x y:Bool} (hw:Jg q cl) (hl:cl.length<=2000000) {st:St} {K:B8->Bool->St->Prop} (hk:∀st',Ay st st'->K (txt q cl) (decide (¬(cl=[]∨by_ cl 0≠q))) st'):
  Ae PR CC [.str cl,.agg [.int .u8 a,.int .u8 q,.bool x,.bool y]] [.one (.str),.one (.bool)] st K:=by
 have hk:=hk st (Ay.refl st)
 refine Oh cl a q x y st K (Ac (fun g=>?_) fun g=>⟨⟨by omega,?_⟩,Ac (fun g2=>?_) fun g2=>?_⟩)
 ·subst g
  unfold txt at hk
  simpa using hk
 ·cases cl with
  | nil=>exact absurd rfl g
  | cons b l=>simp
 ·have g2':by_ cl 0≠q:=g2
  unfold txt at hk
  rw[if_pos (.inr g2')]at hk
  simpa [g2']using hk
 ·have g2':¬by_ cl 0≠q:=g2
  rcases hw with h | h | ⟨c,t,hc,h⟩
  ·exact absurd h g
  ·exact absurd h g2'
  subst h
  rw[Mz hc]at hk
  have htb:toBytes st (.list 1 .full 1 [.int .u8 q])=some [c]:=by
   have:UInt8.ofNat q.toNat=c:=by rw[<-hc];simp
   rw[<-this];rfl
  have hlen:(c::(dbl c t++[c])).length=(dbl c t).length+2:=by simp
  rw[hlen]at hl
  have hw64:i64.wrap (((c::(dbl c t++[c])).length:Int)-1)=(((dbl c t).length+1:Nat):Int):=by
   rw[hlen,As _ (by omega) (by omega)];omega
  rw[htb]
  refine Ad rfl (show Ah .str (.str [c]) _ from⟨⟨by omega,by rw[hw64];omega,by rw[hw64,hlen];omega⟩,by simp,?_⟩)
  rw[hw64]
  have hin:List.drop (Int.toNat 1) (List.take (Int.toNat (((dbl c t).length+1:Nat):Int)) (c::(dbl c t++[c])))=dbl c t:=by
   simp
  rw[hin]
  refine Lq rfl (by omega) ?_
  simpa [g2',hc,by_]using hk
def GI (x:Cx) (num:Bool) (wid:Int) (hd:Bool) (i:Nat) (v:Int) (ns:List B8):Except (Nat×Int) (Nat×Int×List B8×Nd×Int):=do
 let v1<-if hd then .ok v else ES x.dep x.nod 2 i v
 let (e,v2,ns2,ks)<-Cb x num wid hd (x.s.length+1) [] i v1 ns
 let n<-Cm x.s e
 let wid':=if num then wid else(ks.length:Int)
 if (ks.length:Int)<wid' then .error (e,10)else .ok (e+n,v2,ns2,.mk 8 [] [] ks (slc x.s e (e+n)),wid')
def DI (x:Cx) (hdr:Bool):Nat->List Nd->Nat->Int->List B8->Int->Except (Nat×Int) (List Nd)
 | 0,_,_,_,_,_=> .error (0,0)
 | n+1,acc,i,v,ns,wid=>
  if x.s.length<=i then .ok acc else do
   let (i',v',ns',r,wid')<-GI x (!acc.isEmpty) wid (hdr&&acc.isEmpty) i v ns
   DI x hdr n (acc++[r]) i' v' ns' wid'
end Go.TVF
