/- What the laws below rest on: a framework for Go programs, and contracts of the functions that they reach. -/
import Derived.Test.YtbbjecpcjdmfgaaDoorSbD
set_option maxRecDepth 20000
set_option linter.unusedVariables false
set_option linter.unusedSimpArgs false
namespace Go.TVF
open Go.IntKind(i64 u8)
open Go Go.Proofs
theorem N3 {α:Type} {K:α->St->Prop} {a b:α} {st:St} (h:a=b) (hk:K b st):K a st:=h▸hk
def rD (l:B8):Nat×Nat:=if ul l=0 then(0,0)else(ur l,ul l)
theorem So (l:B8):Ff l<=l.length:=QM _ l (Nat.le_refl _)
theorem Oe:Ff []=0:=B5 _ (by simp[ul])
theorem Rd.ldx {sz:Nat} {v:TV} {n:Nat} {xs:List TV} (h:Rd sz v n xs) (st:St) (i j:Nat) {x:TV} (hx:xs[i*sz+j]? =some x):Ac st [] (.t (ixT sz v i)) j=some x:=by
 obtain⟨hlt,hx⟩:=List.getElem?_eq_some_iff.1 hx
 rw[h.ld st i j hlt,hx]
def hdS (b:Nat):Nat:=if b<128 then 1 else if 192<=b/\b<224 then 2 else if 224<=b/\b<240 then 3 else if 240<=b/\b<248 then 4 else 0
def hdB (b:Nat):Nat:=if b<128 then b else if 192<=b/\b<224 then b%32 else if 224<=b/\b<240 then b%16 else if 240<=b/\b<248 then b%8 else 0
def wid (r:Nat):Nat:=if r<128 then 1 else if r<2048 then 2 else if r<65536 then 3 else 4
theorem HR (a m:Nat) (ha:a<256) (hm:m<=8):Ct .and .u8 (a:Int) ((2^m-1:Nat):Int)=((a%2^m:Nat):Int):=by
 have:2^m<=2^8:=Nat.pow_le_pow_right (by decide) hm
 rw[TQ _ _ ha (by omega),Nat.and_two_pow_sub_one_eq_mod]
theorem head_ok {B:Int} {b:Nat} {st:St} {K:Int->Int->St->Prop} (hB:B=(b:Int)) (hb:b<256) (hk:K (hdS b:Nat) (hdB b:Nat) st):CallT PR Hn [.int .u8 B] [.one (.int .i64),.one (.int .i64)] st K:=by
 have m31:Ct .and .u8 B (31:Int)=((b%32:Nat):Int):=by rw[hB];exact HR b 5 hb (by decide)
 have m15:Ct .and .u8 B (15:Int)=((b%16:Nat):Int):=by rw[hB];exact HR b 4 hb (by decide)
 have m7:Ct .and .u8 B (7:Int)=((b%8:Nat):Int):=by rw[hB];exact HR b 3 hb (by decide)
 unfold hdS hdB at hk
 have kk:∀(x y x' y':Int),x=x'->y=y'->K x' y' st->K x y st:=fun x y x' y' h1 h2 hk=>by rw[h1,h2];exact hk
 refine Of B st K ?_
 rw[m31,m15,m7,Ai B (by omega) (by omega),Ai ((b%32:Nat):Int) (by omega) (by omega),Ai ((b%16:Nat):Int) (by omega) (by omega),Ai ((b%8:Nat):Int) (by omega) (by omega)]
 by_cases g1:b<128
 ·rw[if_pos g1,if_pos g1]at hk
  exact Ab (fun _=>kk _ _ _ _ rfl hB hk) fun h=>by omega
 rw[if_neg g1,if_neg g1]at hk
 refine Ab (fun h=>by omega) fun _=>?_
 by_cases g2:192<=b/\b<224
 ·rw[if_pos g2,if_pos g2]at hk
  exact Ab (fun _=>Ab (fun _=>hk) fun h=>by omega) fun h=>by omega
 rw[if_neg g2,if_neg g2]at hk
 by_cases g3:224<=b/\b<240
 ·rw[if_pos g3,if_pos g3]at hk
  refine Ab (fun _=>Ab (fun h=>by omega) fun _=>?_) fun h=>by omega
  exact Ab (fun _=>Ab (fun _=>hk) fun h=>by omega) fun h=>by omega
 rw[if_neg g3,if_neg g3]at hk
 by_cases g4:240<=b/\b<248
 ·rw[if_pos g4,if_pos g4]at hk
  refine Ab (fun _=>Ab (fun h=>by omega) fun _=>?_) fun h=>by omega
  refine Ab (fun _=>Ab (fun h=>by omega) fun _=>?_) fun h=>by omega
  exact Ab (fun _=>Ab (fun _=>hk) fun h=>by omega) fun h=>by omega
 rw[if_neg g4,if_neg g4]at hk
 repeat' first
  | exact hk
  | omega
  | refine Ab (fun _=>?_) fun _=>?_
theorem RK {R:Int} {r:Nat} {st:St} {K:Bool->St->Prop} (hR:R=(r:Int)) (hk:K (decide (Cb r)) st):CallT PR FL [.int .i64 R] [.one (.bool)] st K:=by
 unfold Cb at hk
 refine LY R st K (Ab (fun _=>Ab (fun h2=>Ab (fun h3=>?_) fun h3=>?_) fun h2=>?_) fun h1=>by omega)
 ·exact N3 (decide_eq_true (by omega)).symm hk
 ·exact N3 (decide_eq_decide.2 (by omega)) hk
 ·exact N3 (decide_eq_false (by omega)).symm hk
theorem Sn {R:Int} {r:Nat} {st:St} {K:Int->St->Prop} (hR:R=(r:Int)) (hk:K (wid r:Nat) st):CallT PR GH [.int .i64 R] [.one (.int .i64)] st K:=by
 unfold wid at hk
 refine M8 R st K (Ab (fun h1=>?_) fun h1=>Ab (fun h2=>?_) fun h2=>Ab (fun h3=>?_) fun h3=>?_)
 ·rw[if_pos (by omega)]at hk;exact hk
 ·rw[if_neg (by omega),if_pos (by omega)]at hk;exact hk
 ·rw[if_neg (by omega),if_neg (by omega),if_pos (by omega)]at hk;exact hk
 ·rw[if_neg (by omega),if_neg (by omega),if_neg (by omega)]at hk;exact hk
def Nx (l:B8):Prop:=hdS (bt l 0)≠0/\hdS (bt l 0)<=l.length/\(∀j,1<=j->j<hdS (bt l 0)->bt l j/64=2)/\Cb (C7 l (hdB (bt l 0)) (hdS (bt l 0)-1))/\wid (C7 l (hdB (bt l 0)) (hdS (bt l 0)-1))=hdS (bt l 0)
theorem pd_val (l:B8) (h:l≠ []) (hp:Nx l):ul l=hdS (bt l 0)/\ur l=C7 l (hdB (bt l 0)) (hdS (bt l 0)-1):=by
 obtain⟨p1,p2,p3,p4,p5⟩:=hp
 have e:=Nw l h
 have h0:=Fv l 0
 have e0:(l.getD 0 0).toNat=bt l 0:=rfl
 have e1:(l.getD 1 0).toNat=bt l 1:=rfl
 have e2:(l.getD 2 0).toNat=bt l 2:=rfl
 have e3:(l.getD 3 0).toNat=bt l 3:=rfl
 have fin:∀n r,rsz (bt l 0)=n->rb0 (bt l 0)=r->n=hdS (bt l 0)->r=hdB (bt l 0)->Gh (C7 l r (n-1))=l.take n->ul l=hdS (bt l 0)/\ur l=C7 l (hdB (bt l 0)) (hdS (bt l 0)-1):=by
  intro n r hn hr hn2 hr2 henc
  unfold SD at e
  simp only[hn,hr]at e
  rw[if_neg (by omega),if_pos ⟨by rw[hr2,hn2];exact p4,henc⟩]at e
  by_cases hz:ul l=0
  ·rw[if_pos hz]at e;simp only[Prod.mk.injEq]at e;omega
  ·rw[if_neg hz]at e;simp only[Prod.mk.injEq]at e
   exact⟨by omega,by rw[<-hr2,<-hn2];exact e.1.symm⟩
 have h1:=Fv l 1
 have h2:=Fv l 2
 have h3:=Fv l 3
 by_cases g1:bt l 0<128
 ·have hs:hdS (bt l 0)=1:=by unfold hdS;rw[if_pos g1]
  have hb:hdB (bt l 0)=bt l 0:=by unfold hdB;rw[if_pos g1]
  refine fin 1 (bt l 0) (by unfold rsz;rw[if_neg (by omega),if_neg (by omega),if_neg (by omega)]) (by unfold rb0;rw[if_neg (by omega),if_neg (by omega),if_neg (by omega)]) hs.symm hb.symm ?_
  rw[IR l (by omega)]
  simp only[Nat.sub_self,C7]
  unfold Gh
  rw[if_pos g1]
  simp only[CP,CK,e0,and_true]
  omega
 by_cases g2:192<=bt l 0/\bt l 0<224
 ·have hs:hdS (bt l 0)=2:=by unfold hdS;rw[if_neg g1,if_pos g2]
  have hb:hdB (bt l 0)=bt l 0%32:=by unfold hdB;rw[if_neg g1,if_pos g2]
  rw[hs]at p3 p5
  rw[hb]at p5
  have q1:=p3 1 (by omega) (by omega)
  refine fin 2 (bt l 0%32) (by unfold rsz;rw[if_neg (by omega),if_neg (by omega),if_pos (by omega)]) (by unfold rb0;rw[if_neg (by omega),if_neg (by omega),if_pos (by omega)]) hs.symm hb.symm ?_
  rw[IQ l (by omega)]
  simp only[Nat.reduceSub,C7,Nat.zero_add]at p5⊢
  generalize bt l 0=b0 at*
  generalize bt l 1=b1 at*
  unfold wid at p5
  unfold Gh
  by_cases k1:b0%32*64+b1%64<128
  ·rw[if_pos k1]at p5;omega
  rw[if_neg k1]at p5⊢
  by_cases k2:b0%32*64+b1%64<2048
  ·rw[if_pos k2]
   simp only[CP,CK,e0,e1,and_true]
   omega
  ·rw[if_neg k2]at p5;split at p5<;>omega
 by_cases g3:224<=bt l 0/\bt l 0<240
 ·have hs:hdS (bt l 0)=3:=by unfold hdS;rw[if_neg g1,if_neg g2,if_pos g3]
  have hb:hdB (bt l 0)=bt l 0%16:=by unfold hdB;rw[if_neg g1,if_neg g2,if_pos g3]
  rw[hs]at p3 p5
  rw[hb]at p5
  have q1:=p3 1 (by omega) (by omega)
  have q2:=p3 2 (by omega) (by omega)
  refine fin 3 (bt l 0%16) (by unfold rsz;rw[if_neg (by omega),if_pos (by omega)]) (by unfold rb0;rw[if_neg (by omega),if_pos (by omega)]) hs.symm hb.symm ?_
  rw[Gq l (by omega)]
  simp only[Nat.reduceSub,C7,Nat.zero_add,Nat.reduceAdd]at p5⊢
  generalize bt l 0=b0 at*
  generalize bt l 1=b1 at*
  generalize bt l 2=b2 at*
  generalize hr:(b0%16*64+b1%64)*64+b2%64=r at*
  unfold wid at p5
  unfold Gh
  by_cases k1:r<128
  ·rw[if_pos k1]at p5;omega
  rw[if_neg k1]at p5⊢
  by_cases k2:r<2048
  ·rw[if_pos k2]at p5;omega
  rw[if_neg k2]at p5⊢
  by_cases k3:r<65536
  ·rw[if_pos k3]
   simp only[CP,CK,e0,e1,e2,and_true]
   omega
  ·rw[if_neg k3]at p5;omega
 by_cases g4:240<=bt l 0/\bt l 0<248
 ·have hs:hdS (bt l 0)=4:=by unfold hdS;rw[if_neg g1,if_neg g2,if_neg g3,if_pos g4]
  have hb:hdB (bt l 0)=bt l 0%8:=by unfold hdB;rw[if_neg g1,if_neg g2,if_neg g3,if_pos g4]
  rw[hs]at p3 p4 p5
  rw[hb]at p4 p5
  have q1:=p3 1 (by omega) (by omega)
  have q2:=p3 2 (by omega) (by omega)
  have q3:=p3 3 (by omega) (by omega)
  refine fin 4 (bt l 0%8) (by unfold rsz;rw[if_pos (by omega)]) (by unfold rb0;rw[if_pos (by omega)]) hs.symm hb.symm ?_
  rw[Jy l (by omega)]
  simp only[Nat.reduceSub,C7,Nat.zero_add,Nat.reduceAdd]at p4 p5⊢
  generalize bt l 0=b0 at*
  generalize bt l 1=b1 at*
  generalize bt l 2=b2 at*
  generalize bt l 3=b3 at*
  generalize hr:((b0%8*64+b1%64)*64+b2%64)*64+b3%64=r at*
  unfold wid at p5
  unfold Gh
  by_cases k1:r<128
  ·rw[if_pos k1]at p5;omega
  rw[if_neg k1]at p5⊢
  by_cases k2:r<2048
  ·rw[if_pos k2]at p5;omega
  rw[if_neg k2]at p5⊢
  by_cases k3:r<65536
  ·rw[if_pos k3]at p5;omega
  rw[if_neg k3]
  have:=p4.1
  simp only[CP,CK,e0,e1,e2,e3,and_true]
  omega
 ·exfalso
  unfold hdS at p1
  rw[if_neg g1,if_neg g2,if_neg g3,if_neg g4]at p1
  exact p1 rfl
theorem pd_iff (l:B8) (h:l≠ []):ul l≠0->Nx l:=by
 intro hu
 have e:=Nw l h
 rw[if_neg hu]at e
 have h0:=Fv l 0
 have e0:(l.getD 0 0).toNat=bt l 0:=rfl
 have e1:(l.getD 1 0).toNat=bt l 1:=rfl
 have e2:(l.getD 2 0).toNat=bt l 2:=rfl
 have e3:(l.getD 3 0).toNat=bt l 3:=rfl
 have h1:=Fv l 1
 have h2:=Fv l 2
 have h3:=Fv l 3
 have hc:¬l.length<rsz (bt l 0)/\Cb (C7 l (rb0 (bt l 0)) (rsz (bt l 0)-1))/\Gh (C7 l (rb0 (bt l 0)) (rsz (bt l 0)-1))=l.take (rsz (bt l 0)):=by
  unfold SD at e
  simp only at e
  split at e
  ·simp only[Prod.mk.injEq]at e;omega
  ·split at e
   ·rename_i a b;exact⟨a,b⟩
   ·simp only[Prod.mk.injEq]at e;omega
 obtain⟨hl,hch,henc⟩:=hc
 by_cases g4:240<=bt l 0
 ·have r4:rsz (bt l 0)=4:=by unfold rsz;rw[if_pos g4]
  have rb:rb0 (bt l 0)=bt l 0%8:=by unfold rb0;rw[if_pos g4]
  rw[r4,rb]at henc hch
  rw[r4]at hl
  rw[Jy l (by omega)]at henc
  unfold Nx hdS hdB
  simp only[Nat.reduceSub,C7,Nat.zero_add,Nat.reduceAdd]at henc hch
  generalize hb0:bt l 0=b0 at*
  generalize hb1:bt l 1=b1 at*
  generalize hb2:bt l 2=b2 at*
  generalize hb3:bt l 3=b3 at*
  have hr0:∃r,r=((b0%8*64+b1%64)*64+b2%64)*64+b3%64:=⟨_,rfl⟩
  obtain⟨r,hr⟩:=hr0
  rw[<-hr]at henc hch
  have hmax:=hch.1
  unfold Gh at henc
  have hw:wid r=4/\b0=240+r/262144/\b1/64=2/\b2/64=2/\b3/64=2:=by
   unfold wid
   split at henc
   ·simp at henc
   ·split at henc
    ·simp at henc
    ·split at henc
     ·simp at henc
     ·simp only[CP,CK,e0,e1,e2,e3,and_true]at henc
      refine⟨by rw[if_neg ‹_›,if_neg ‹_›,if_neg ‹_›],by omega,by omega,by omega,by omega⟩
  rw[if_neg (show ¬b0<128 by omega),if_neg (show ¬(192<=b0/\b0<224) by omega),if_neg (show ¬(224<=b0/\b0<240) by omega),if_pos (show 240<=b0/\b0<248 by omega),if_neg (show ¬b0<128 by omega),if_neg (show ¬(192<=b0/\b0<224) by omega),if_neg (show ¬(224<=b0/\b0<240) by omega),if_pos (show 240<=b0/\b0<248 by omega)]
  simp only[Nat.reduceSub,C7,Nat.zero_add,Nat.reduceAdd,hb1,hb2,hb3]
  rw[<-hr]
  refine⟨by omega,by omega,fun j j1 j2=>?_,hch,hw.1⟩
  have:j=1∨j=2∨j=3:=by omega
  rcases this with rfl | rfl | rfl<;>omega
 by_cases g3:224<=bt l 0
 ·have r4:rsz (bt l 0)=3:=by unfold rsz;rw[if_neg g4,if_pos g3]
  have rb:rb0 (bt l 0)=bt l 0%16:=by unfold rb0;rw[if_neg g4,if_pos g3]
  rw[r4,rb]at henc hch
  rw[r4]at hl
  rw[Gq l (by omega)]at henc
  unfold Nx hdS hdB
  simp only[Nat.reduceSub,C7,Nat.zero_add,Nat.reduceAdd]at henc hch
  generalize hb0:bt l 0=b0 at*
  generalize hb1:bt l 1=b1 at*
  generalize hb2:bt l 2=b2 at*
  have hr0:∃r,r=(b0%16*64+b1%64)*64+b2%64:=⟨_,rfl⟩
  obtain⟨r,hr⟩:=hr0
  rw[<-hr]at henc hch
  unfold Gh at henc
  have hw:wid r=3/\b1/64=2/\b2/64=2:=by
   unfold wid
   split at henc
   ·simp at henc
   ·split at henc
    ·simp at henc
    ·split at henc
     ·simp only[CP,CK,e0,e1,e2,and_true]at henc
      refine⟨by rw[if_neg ‹_›,if_neg ‹_›,if_pos ‹_›],by omega,by omega⟩
     ·simp at henc
  rw[if_neg (show ¬b0<128 by omega),if_neg (show ¬(192<=b0/\b0<224) by omega),if_pos (show 224<=b0/\b0<240 by omega),if_neg (show ¬b0<128 by omega),if_neg (show ¬(192<=b0/\b0<224) by omega),if_pos (show 224<=b0/\b0<240 by omega)]
  simp only[Nat.reduceSub,C7,Nat.zero_add,Nat.reduceAdd,hb1,hb2]
  rw[<-hr]
  refine⟨by omega,by omega,fun j j1 j2=>?_,hch,hw.1⟩
  have:j=1∨j=2:=by omega
  rcases this with rfl | rfl<;>omega
 by_cases g2:192<=bt l 0
 ·have r4:rsz (bt l 0)=2:=by unfold rsz;rw[if_neg g4,if_neg g3,if_pos g2]
  have rb:rb0 (bt l 0)=bt l 0%32:=by unfold rb0;rw[if_neg g4,if_neg g3,if_pos g2]
  rw[r4,rb]at henc hch
  rw[r4]at hl
  rw[IQ l (by omega)]at henc
  unfold Nx hdS hdB
  simp only[Nat.reduceSub,C7,Nat.zero_add,Nat.reduceAdd]at henc hch
  generalize hb0:bt l 0=b0 at*
  generalize hb1:bt l 1=b1 at*
  have hr0:∃r,r=b0%32*64+b1%64:=⟨_,rfl⟩
  obtain⟨r,hr⟩:=hr0
  rw[<-hr]at henc hch
  unfold Gh at henc
  have hw:wid r=2/\b1/64=2:=by
   unfold wid
   split at henc
   ·simp at henc
   ·split at henc
    ·simp only[CP,CK,e0,e1,and_true]at henc
     refine⟨by rw[if_neg ‹_›,if_pos ‹_›],by omega⟩
    ·split at henc<;>simp at henc
  rw[if_neg (show ¬b0<128 by omega),if_pos (show 192<=b0/\b0<224 by omega),if_neg (show ¬b0<128 by omega),if_pos (show 192<=b0/\b0<224 by omega)]
  simp only[Nat.reduceSub,C7,Nat.zero_add,hb1]
  rw[<-hr]
  refine⟨by omega,by omega,fun j j1 j2=>?_,hch,hw.1⟩
  have:j=1:=by omega
  subst this;omega
 ·have r4:rsz (bt l 0)=1:=by unfold rsz;rw[if_neg g4,if_neg g3,if_neg g2]
  have rb:rb0 (bt l 0)=bt l 0:=by unfold rb0;rw[if_neg g4,if_neg g3,if_neg g2]
  rw[r4,rb]at henc hch
  rw[r4]at hl
  rw[IR l (by omega)]at henc
  unfold Nx hdS hdB
  simp only[Nat.sub_self,C7]at henc hch
  generalize hb0:bt l 0=b0 at*
  have hlt:b0<128:=by
   unfold Gh at henc
   split at henc
   ·assumption
   ·split at henc
    ·simp at henc
    ·split at henc<;>simp at henc
  rw[if_pos hlt,if_pos hlt]
  simp only[Nat.sub_self,C7]
  refine⟨by omega,by omega,fun j j1 j2=>by omega,hch,by unfold wid;rw[if_pos hlt]⟩
theorem PD {s:B8} {I:Int} {i:Nat} {st:St} {K:Int->Int->St->Prop} (hI:I=(i:Int)) (hl:s.length<=2000000) (hi:i<=s.length) (hk:K ((rD (s.drop i)).1:Nat) ((rD (s.drop i)).2:Nat) st):
  CallT PR FM [.str s,.int .i64 I] [.one (.int .i64),.one (.int .i64)] st K:=by
 have no:¬Nx (s.drop i)->s.drop i≠ []->K 0 0 st:=fun h hne=>by
  have:ul (s.drop i)=0:=Decidable.byContradiction fun h0=>h (pd_iff _ hne h0)
  unfold rD at hk
  rw[if_pos this]at hk;exact hk
 have yes:Nx (s.drop i)->s.drop i≠ []->K (C7 (s.drop i) (hdB (bt (s.drop i) 0)) (hdS (bt (s.drop i) 0)-1):Nat) (hdS (bt (s.drop i) 0):Nat) st:=fun h hne=>by
  have hv:=pd_val _ hne h
  unfold rD at hk
  rw[if_neg (by rw[hv.1];exact h.1),hv.1,hv.2]at hk
  exact hk
 have hlen:(s.drop i).length=s.length-i:=by simp
 have hb:∀j,bt (s.drop i) j=(s.getD (i+j) 0).toNat:=bt_drop s i
 refine LZ s I st K (Ab (fun h=>by omega) fun _=>Ab (fun h=>?_) fun h=>⟨⟨by omega,by omega⟩,?_⟩)
 ·have:s.drop i=[]:=List.drop_of_length_le (by omega)
  have h0:rD (s.drop i)=(0,0):=by rw[this];simp[rD,ul]
  rw[h0]at hk;exact hk
 have hne:s.drop i≠ []:=by
  intro h0
  have:=congrArg List.length h0
  rw[hlen]at this;simp only[List.length_nil]at this;omega
 have hb0:(List.getD s (Int.toNat I) 0).toNat=bt (s.drop i) 0:=by rw[hb,hI];rfl
 have hlt:=Fv (s.drop i) 0
 rw[hb0]
 refine head_ok rfl hlt ?_
 have hsz:hdS (bt (s.drop i) 0)<=4:=by unfold hdS;(repeat' split)<;>omega
 have hbz:hdB (bt (s.drop i) 0)<256:=by unfold hdB;(repeat' split)<;>omega
 unfold Nx at no yes
 generalize hdS (bt (s.drop i) 0)=n at*
 generalize hdB (bt (s.drop i) 0)=r0 at*
 rw[Ai _ (by omega) (by omega)]
 refine Ab (fun g=>no (fun hh=>hh.1 (by omega)) hne) fun g1=>Ab (fun g=>no (fun hh=>by omega) hne) fun g2=>?_
 have hra:=QS (s.drop i) r0 hbz
 refine⟨fun r j s' at' sz st2=>s=s'/\I=at'/\st=st2/\((n:Nat):Int)=sz/\∃k:Nat,j=((k+1:Nat):Int)/\k+1<=n/\r=((C7 (s.drop i) r0 k:Nat):Int)/\∀m,1<=m->m<=k->bt (s.drop i) m/64=2,fun _ j _ _ sz _=>(sz-j).toNat,⟨rfl,rfl,rfl,rfl,0,rfl,by omega,rfl,fun m h1 h2=>by omega⟩,?_⟩
 rintro _ _ _ _ _ _ ⟨rfl,rfl,rfl,rfl,k,rfl,hk1,rfl,hall⟩
 have hrk:=hra k
 have h64:64^k<=64^3:=Nat.pow_le_pow_right (by decide) (by omega)
 refine Ab (fun h2=>?_) fun h2=>?_
 ·rw[Ai (I+((k+1:Nat):Int)) (by omega) (by omega)]
  have hbk:(List.getD s (Int.toNat (I+((k+1:Nat):Int))) 0).toNat=bt (s.drop i) (k+1):=by
   rw[hb,show Int.toNat (I+((k+1:Nat):Int))=i+(k+1) by omega]
  have hbl:=Fv (s.drop i) (k+1)
  have h192:Ct .and .u8 ((bt (s.drop i) (k+1):Nat):Int) (192:Int)=((bt (s.drop i) (k+1)&&&192:Nat):Int):=TQ _ 192 hbl (by decide)
  have hand:i64.wrap (Ct .and .u8 ((bt (s.drop i) (k+1):Nat):Int) (63:Int))=((bt (s.drop i) (k+1)%64:Nat):Int):=by
   rw[show(63:Int)=((2^6-1:Nat):Int) by decide,HR _ 6 hbl (by decide),Ai _ (by omega) (by omega)]
  have hmul:i64.wrap (((C7 (s.drop i) r0 k:Nat):Int)*2^(min (Int.toNat (6:Int)) (IntKind.bits .i64)))=((C7 (s.drop i) r0 k*2^6:Nat):Int):=by
   rw[show(2:Int)^(min (Int.toNat (6:Int)) (IntKind.bits .i64))=64 by decide,Ai _ (by omega) (by omega)];omega
  have hc:(bt (s.drop i) (k+1)&&&192)=128↔bt (s.drop i) (k+1)/64=2:=by
   have:∀x,x<256->((x&&&192)=128↔x/64=2):=by decide+kernel
   exact this _ hbl
  refine⟨⟨by omega,by omega⟩,?_⟩
  rw[hbk,h192,hand,hmul,or_add _ _ 6 (by omega) (by omega),Ai _ (by omega) (by omega)]
  refine Ab (fun h3=>no (fun hh=>h3 ?_) hne) fun h3=>?_
  ·have:=hh.2.2.1 (k+1) (by omega) (by omega)
   rw[hc.2 this];rfl
  ·have h4:bt (s.drop i) (k+1)/64=2:=hc.1 (by omega)
   refine⟨⟨rfl,rfl,rfl,rfl,k+1,by omega,by omega,by simp only[C7],fun m m1 m2=>?_⟩,by dsimp only;omega⟩
   by_cases hm:m=k+1
   ·rw[hm];exact h4
   ·exact hall m m1 (by omega)
 ·have hks:k=n-1:=by omega
  subst hks
  refine RK rfl (AD (fun h3=>no (fun hh=>?_) hne) fun h3=>Sn rfl (Ab (fun h4=>no (fun hh=>?_) hne) fun h4=>?_))
  ·simp only[Bool.not_eq_true',decide_eq_false_iff_not]at h3
   exact h3 hh.2.2.2.1
  ·rw[hh.2.2.2.2]at h4;exact h4 rfl
  ·simp only[Bool.not_eq_false',decide_eq_true_eq]at h3
   exact yes ⟨by omega,by omega,fun m m1 m2=>hall m m1 (by omega),h3,by omega⟩ hne
theorem uLen_ok {s:B8} {st:St} {K:Int->Int->St->Prop} (hl:s.length<=2000000) (hk:∀n:Int,K n (if Ff s=s.length then 0 else 5) st):CallT PR IF [.str s] [.one (.int .i64),.one (.int .i64)] st K:=by
 have hv:=So s
 refine PC s st K ⟨fun n i s' st'=>s=s'/\st=st'/\∃k:Nat,i=(k:Int)/\k<=s.length/\k+Ff (s.drop k)=Ff s,fun _ i _ _=>(s.length-i).toNat,⟨rfl,rfl,0,rfl,by omega,by simp⟩,?_⟩
 rintro n _ _ _ ⟨rfl,rfl,k,rfl,h1,h2⟩
 refine Ab (fun g1=>PD rfl hl h1 ?_) fun g1=>?_
 ·have hle:=QO (s.drop k)
  rw[List.length_drop]at hle
  unfold rD
  by_cases h0:ul (s.drop k)=0
  ·rw[if_pos h0]
   rw[B5 _ h0]at h2
   have:=hk 0
   rw[if_neg (by omega)]at this
   exact Ab (fun _=>this) fun h=>absurd rfl h
  ·rw[if_neg h0]
   rw[Hw _ h0,List.drop_drop]at h2
   refine Ab (fun h=>absurd h (by show ¬((ul (s.drop k):Nat):Int)=0;omega)) fun _=>?_
   have w:i64.wrap ((k:Int)+(ul (s.drop k):Nat))=((k+ul (s.drop k):Nat):Int):=by rw[Ai _ (by omega) (by omega)];omega
   dsimp only
   rw[w]
   exact⟨⟨rfl,rfl,_,rfl,by omega,by omega⟩,by omega⟩
 ·rw[show s.drop k=[]from List.drop_of_length_le (by omega),Oe]at h2
  have:=hk n
  rw[if_pos (by omega)]at this
  exact this
theorem Mm {s:B8} {st:St} {K:Bool->St->Prop} (hl:s.length<=2000000) (hk:K (decide (Ff s=s.length)) st):CallT PR EF [.str s] [.one (.bool)] st K:=by
 refine M9 s st K (uLen_ok hl fun n=>?_)
 by_cases h:Ff s=s.length
 ·rw[if_pos h];rw[decide_eq_true h]at hk;exact hk
 ·rw[if_neg h];rw[decide_eq_false h]at hk;exact hk
theorem Nb {l:B8} {c:UInt8} (hc:c.toNat<128) (hl:l.length<=9223372036854775807) {st:St} {K:B8->St->Prop} (hk:K (Lib.trimRightB l c) st):CallT PR D9 [.str l,.str [c]] [.one .str] st K:=by
 refine Ev (fun _ _=>by kernel_rfl) fun g w vargs s hr=>?_
 obtain⟨v,u,rfl,hv,hu⟩:=OH hr
 rw[D2 hv,D2 hu]
 refine Calls.mono (Tryd.strings_TrimRight_one ⟨l.toArray⟩ c hc w (by simpa [ByteArray.size]using hl)) ?_
 rintro e w' ⟨rfl,rfl⟩
 exact⟨_,rfl,.str _,st,g,hk,s,Rel.str _,Ext.refl _ _⟩
theorem KT (l:B8):(Lib.trimRightB l 48).length+Js l=l.length:=by
 unfold Lib.trimRightB Js
 have:=congrArg List.length (List.takeWhile_append_dropWhile (p:=fun x:UInt8=>x==48) (l:=l.reverse))
 rw[List.length_append,List.length_reverse]at this
 rw[List.length_reverse];omega
theorem Sm {l:B8} (hl:l.length<=2000000) {st:St} {K:Int->St->Prop} (hk:K (Js l:Nat) st):CallT PR Ei [.str l] [.one (.int .i64)] st K:=by
 refine Kt _ st K (Nb (by decide) (by omega) ?_)
 have:=KT l
 rw[Ai _ (by omega) (by omega),show((l.length:Nat):Int)-((Lib.trimRightB l 48).length:Int)=(Js l:Nat) by omega]
 exact hk
theorem Tk {l:B8} {n:Nat} (h:n<l.length):List.getD l n 0∈l:=by
 rw[List.getD_eq_getElem?_getD,List.getElem?_eq_getElem h,Option.getD_some]
 exact List.getElem_mem h
theorem TS {P:UInt8->Prop} {l:B8} {n:Nat} (h:n<l.length) (h1:∀c,c∈l.take n->P c) (h2:P (List.getD l n 0)):∀c,c∈l.take (n+1)->P c:=by
 intro c hc
 rw[Ge _ _ 0 h]at hc
 rcases List.mem_append.1 hc with hc | hc
 ·exact h1 c hc
 ·rw[List.mem_singleton.1 hc];exact h2
theorem all_ok {l:B8} (hl:l.length<=2000000) {st:St} {K:Bool->St->Prop} (hk:K (decide (∀c,c∈l->NF c)) st):CallT PR FN [.str l] [.one .bool] st K:=by
 refine L0 l st K ⟨fun i s m st'=>l=s/\(l.length:Int)=m/\st=st'/\∃n:Nat,i=n/\n<=l.length/\∀c,c∈l.take n->NF c,fun i _ _ _=>(l.length-i).toNat,⟨rfl,rfl,rfl,0,rfl,Nat.zero_le _,fun c hc=>by simp at hc⟩,?_⟩
 rintro _ _ _ _ ⟨rfl,rfl,rfl,n,rfl,hn,hall⟩
 refine Ab (fun g=>?_) fun g=>?_
 ·have hm:=Tk (l:=l) (n:=n) (by omega)
  have bad:¬NF (List.getD l n 0)->K false st:=fun hb=>by
   rw[decide_eq_false fun h=>hb (h _ hm)]at hk;exact hk
  rw[Int.toNat_natCast]
  refine⟨⟨by omega,by omega⟩,Ab (fun g2=>bad (by unfold NF;omega)) fun g2=>⟨⟨by omega,by omega⟩,Ab (fun g3=>bad (by unfold NF;omega)) fun g3=>?_⟩⟩
  rw[Ai _ (by omega) (by omega)]
  exact⟨⟨rfl,rfl,rfl,n+1,by omega,by omega,TS (by omega) hall (by unfold NF;omega)⟩,by dsimp only;omega⟩
 ·have:n=l.length:=by omega
  subst this
  rw[List.take_length]at hall
  rw[decide_eq_true hall]at hk;exact hk
def MZ (l:B8):Prop:=l.length<=600/\(∀c,c∈l->NF c)/\(l≠ []->l.getD 0 0≠48)
instance (l:B8):Decidable (MZ l):=inferInstanceAs (Decidable (_/\_/\(_->_)))
theorem ne48 (c:UInt8):decide ((c.toNat:Int)≠48)=decide (c≠48):=by
 have:((c.toNat:Int)≠48)↔c≠48:=by rw[ne_eq,ne_eq,<-UInt8.toNat_inj];exact not_congr ⟨fun h=>Int.ofNat.inj h,fun h=>by rw[h];rfl⟩
 exact decide_eq_decide.2 this
theorem R7 {l:B8} (hl:l.length<=2000000) {st:St} {K:Bool->St->Prop} (hk:K (decide (MZ l)) st):CallT PR Ej [.str l] [.one .bool] st K:=by
 have no:¬MZ l->K false st:=fun h=>by rw[decide_eq_false h]at hk;exact hk
 refine Ku l st K (Ab (fun g=>all_ok hl (Ab (fun g2=>Ab (fun g3=>?_) fun g3=>⟨⟨by omega,by have:=List.length_pos_iff.2 g3;omega⟩,?_⟩) fun g2=>no fun h=>g2 h.2.1)) fun g=>no fun h=>g (by have:=h.1;omega))
 ·rw[decide_eq_true (show MZ l from⟨by omega,g2,fun h=>absurd g3 h⟩)]at hk;exact hk
 ·rw[ne48]
  refine N3 (decide_eq_decide.2 ?_) hk
  exact⟨fun h=>⟨by omega,g2,fun _=>h⟩,fun h=>h.2.2 g3⟩
theorem Gj {neg:Bool} {l:B8} {ex:Int} (h:l≠ []):Ed neg l ex↔MZ l/\l.length<=120/\Js l=0/\ -400<=ex/\ex<=400:=by
 unfold Ed MZ
 constructor
 ·intro g
  obtain⟨g1,g2,g3,g4,g5,g6⟩:=g.2 h
  exact⟨⟨by omega,g2,fun _=>g3⟩,g1,g4,g5,g6⟩
 ·rintro⟨⟨g1,g2,g3⟩,g4,g5,g6,g7⟩
  exact⟨fun e=>absurd e h,fun _=>⟨g4,g2,g3 h,g5,g6,g7⟩⟩
theorem MO {neg:Bool} {ex:Int}:Ed neg [] ex↔neg=false/\ex=0:=by
 unfold Ed
 exact⟨fun g=>g.1 rfl,fun g=>⟨fun _=>g,fun h=>absurd rfl h⟩⟩
theorem Pf {neg:Bool} {l:B8} {ex:Int} (hl:l.length<=2000000) {st:St} {K:Bool->St->Prop} (hk:K (decide (Ed neg l ex)) st):CallT PR DS [.agg [.bool neg,.str l,.int .i64 ex]] [.one .bool] st K:=by
 have no:¬Ed neg l ex->K false st:=fun h=>by rw[decide_eq_false h]at hk;exact hk
 refine Jv _ _ _ st K (Ab (fun g=>?_) fun g=>?_)
 ·subst g
  refine N3 ?_ hk
  rw[Bool.eq_iff_iff]
  simp[MO]
 ·refine R7 hl (Ab (fun g2=>Ab (fun g3=>Sm hl (Ab (fun g4=>Ab (fun g5=>?_) fun g5=>?_) fun g4=>?_)) fun g3=>?_) fun g2=>?_)
  ·exact N3 (decide_eq_decide.2 (by rw[Gj g];exact⟨fun h=>⟨g2,by omega,by omega,g5,h⟩,fun h=>h.2.2.2.2⟩)) hk
  ·exact no fun h=>g5 ((Gj g).1 h).2.2.2.1
  ·exact no fun h=>g4 (by have:=((Gj g).1 h).2.2.1;omega)
  ·exact no fun h=>g3 (by have:=((Gj g).1 h).2.1;omega)
  ·exact no fun h=>g2 ((Gj g).1 h).1
theorem Nc {k d n z:Int} {st:St} {K:Bool->St->Prop} (hk:K (decide (Fc k d n z)) st):CallT PR Dk [.agg [.int .i64 k,.int .i64 d,.int .i64 n,.int .i64 z]] [.one .bool] st K:=by
 refine Ks _ _ _ _ st K ?_
 repeat' first
  | exact N3 (Eq.symm (decide_eq_false (by unfold Fc;omega))) hk
  | exact N3 (Eq.symm (decide_eq_true (by unfold Fc;omega))) hk
  | exact N3 (decide_eq_decide.2 (by unfold Fc;omega)) hk
  | refine Ab (fun _=>?_) fun _=>?_
theorem orc {c p r:Bool} {K:Bool->Prop} {R1 R2:Prop} (h1:K r->R1) (h2:K r->R2) (hk:K ((c&&p) || r)):BIf c (BIf p (K true) R1) R2:=by
 cases c<;>cases p<;>simp only[Bool.true_and,Bool.false_and,Bool.true_or,Bool.false_or]at hk<;>first | exact h1 hk | exact h2 hk | exact hk
theorem orn {c p r s:Bool} {K:Bool->Prop} {R1 R2:Prop} (hs:s=true) (h1:K r->R1) (h2:K r->R2) (hk:K ((c&&p) || r)):BIf c (need s (BIf p (K true) R1)) R2:=by
 subst hs;exact orc h1 h2 hk
theorem ore {c p s:Bool} {K:Bool->Prop} (hs:s=true) (hk:K (c&&p)):BIf c (need s (K p)) (K false):=by
 subst hs;cases c<;>exact hk
def exB (s:Sc) (l:List Vl) (f:List Fd):Bool:=
 (decide (s.kind≠1)&&s.b) || ((decide (s.kind≠2)&& !((s.neg==false)&&(decide (s.dg=[])&&(decide (s.ex=0)&&true)))) || ((decide (s.kind≠3)&& !(decide (s.tk=0)&&(decide (s.td=0)&&(decide (s.tn=0)&&(decide (s.tz=0)&&true))))) ||
  ((decide (s.kind≠4)&&decide (s.text≠ [])) || ((decide (s.kind≠5)&&decide (0<(s.bytes.length:Int))) || ((decide (s.kind≠6)&&decide (0<(l.length:Int))) || (decide (s.kind≠7)&&decide (0<(f.length:Int))))))))
theorem S3 {α:Type} {l:List α}:¬0<(l.length:Int)↔l=[]:=by
 rw[<-List.length_eq_zero_iff];omega
theorem MJ {s:Sc} {l:List Vl} {f:List Fd} (h0:0<=s.kind) (h7:s.kind<=7):exB s l f=false↔LQ s l f:=by
 unfold exB
 simp only[Bool.or_eq_false_iff,Bool.and_eq_false_imp,decide_eq_true_eq,Bool.not_eq_false',Bool.and_eq_true,beq_iff_eq,decide_eq_false_iff_not,S3,ne_eq,Decidable.not_not,and_true]
 constructor
 ·rintro⟨a,b,c,d,e,f,g⟩;exact⟨h0,h7,a,b,c,d,e,f,g⟩
 ·rintro⟨_,_,a,b,c,d,e,f,g⟩;exact⟨a,b,c,d,e,f,g⟩
theorem exB_eq {s:Sc} {l:List Vl} {f:List Fd} (h0:0<=s.kind) (h7:s.kind<=7):exB s l f= !decide (LQ s l f):=by
 cases h:exB s l f with
 | false=>rw[decide_eq_true ((MJ h0 h7).1 h)];rfl
 | true=>rw[decide_eq_false fun o=>by rw[(MJ h0 h7).2 o]at h;cases h];rfl
theorem To {s:Sc} {l:List Vl} {f:List Fd} {ub ul uf:TV} {st:St} {K:Bool->St->Prop} (h1:isSl ub=true) (h2:isSl ul=true) (h3:isSl uf=true) (l1:lenS ub=s.bytes.length) (l2:lenS ul=l.length) (l3:lenS uf=f.length) (hk:K (exB s l f) st):
  CallT PR EY [.agg (AK s ub ul uf)] [.one .bool] st K:=by
 unfold exB at hk
 refine KJ _ _ _ _ _ _ _ _ _ _ _ _ _ st K ?_
 rw[l1,l2,l3]
 revert hk
 repeat' first
  | (refine fun hk=>ore (K:=fun b=>K b st) h3 hk)
  | (refine fun hk=>orn (K:=fun b=>K b st) h1 ?_ ?_ hk)
  | (refine fun hk=>orn (K:=fun b=>K b st) h2 ?_ ?_ hk)
  | (refine fun hk=>orc (K:=fun b=>K b st) ?_ ?_ hk)
theorem key_ok {s:B8} (hl:s.length<=2000000) {st:St} {K:Int->St->Prop} (hk:K ((if U8 s then(if 1024<s.length then 10 else 0)else 5:Nat):Int) st):CallT PR GG [.str s] [.one (.int .i64)] st K:=by
 refine M7 _ st K (Mm hl (AD (fun g=>?_) fun g=>?_))
 ·have hu:¬U8 s:=by unfold U8;simpa using g
  rw[if_neg hu]at hk;exact hk
 ·have hu:U8 s:=by unfold U8;simpa using g
  rw[if_pos hu]at hk
  refine Ab (fun g2=>?_) fun g2=>?_
  ·have h3:1024<s.length:=by omega
   rw[if_pos h3]at hk;exact hk
  ·have h3:¬1024<s.length:=by omega
   rw[if_neg h3]at hk;exact hk
theorem IG (k k':B8) (v:TV):∀es:List (B8×TV),AA k (FD k' v es)=if k=k' then some v else AA k es
 | []=>by
  simp only[FD,AA]
  by_cases h:k=k'<;>simp[h]
 | (k1,v1)::es=>by
  simp only[FD]
  by_cases h1:k'=k1
  ·simp only[h1,decide_true,AA]
   by_cases h:k=k1<;>simp[h]
  ·simp only[h1,decide_false,AA,IG k k' v es]
   by_cases h:k=k1
   ·simp[h,Ne.symm h1]
   ·simp[h]
def MapN (es:List (B8×TV)) (ns:List B8):Prop:=∀t,AA t es=if t∈ns then some (.bool true)else none
theorem MapN.add {es:List (B8×TV)} {ns:List B8} (h:MapN es ns) (t:B8):MapN (FD t (.bool true) es) (t::ns):=by
 intro k
 rw[IG]
 by_cases hk:k=t
 ·simp[hk]
 ·rw[if_neg hk,h k];simp[hk]
theorem P8 (seen:List B8) (d:Fd) (r:List Fd):Dd seen (d::r)=if U8 d.key then(if 1024<d.key.length then 10 else if d.key∈seen then 8 else Dd (d.key::seen) r)else 5:=rfl
theorem Gi {α:Type} {l:List α} {k:Nat} {x:α} (h:l[k]? =some x):l.drop k=x::l.drop (k+1):=by
 obtain⟨q1,q2⟩:=List.getElem?_eq_some_iff.1 h
 rw[List.drop_eq_getElem_cons q1,q2]
theorem key_len {f:List Fd} {d:Fd} (h:d∈f):d.key.length<=Bs f:=by
 have:=Jk h
 cases d;unfold Fd.sz at this;simp only[Fd.key];omega
theorem keys_ok {st0 st:St} {uf:TV} {xf:List TV} {f:List Fd} (hke:Bq st0 st) (h4:SlR st0 14 uf f.length xf) (h5:FsR st0 f xf) (hN:Bs f<=2000000) {K:Int->St->Prop} (hk:∀st',Al st st'->K (Dd [] f:Nat) st'):
  CallT PR FJ [uf] [.one (.int .i64)] st K:=by
 have hfl:=De f
 refine LU _ st K (Aa h4.isSl ⟨fun i m u n st'=> .map st.nb=m/\uf=u/\(f.length:Int)=n/\∃(k:Nat) (ns:List B8) (es:List (B8×TV)),i=k/\k<=f.length/\Al st st'/\st.nb<st'.nb/\st'.box st.nb= .map es/\MapN es ns/\Dd [] f=Dd ns (f.drop k),fun i _ _ _ _=>(f.length-i).toNat,
  ⟨rfl,rfl,by rw[h4.lenS],0,[],[],rfl,Nat.zero_le _,(Al.refl st).push _ _,by simp[St.push],by simp[St.push],fun t=>by simp[AA],rfl⟩,?_⟩)
 rintro _ _ _ _ st1 ⟨rfl,rfl,rfl,k,ns,es,rfl,hkf,e1,hb,hm,hns,hE⟩
 refine Ab (fun g=>?_) fun g=>?_
 ·refine Ql (hke.trans e1.keeps) h4 h5 rfl (by omega) fun key s' l' f' ub1 ul1 uf1 gw hw on=>Aa on ?_
  have hmem:=DO gw
  have hkl:=key_len hmem
  rw[Gi gw,P8]at hE
  change Dd [] f=if U8 key then(if 1024<key.length then 10 else if key∈ns then 8 else Dd (key::ns) (f.drop (k+1)))else 5 at hE
  change key.length<=_ at hkl
  refine key_ok (by omega) ?_
  by_cases g1:U8 key
  case neg=>
   rw[if_neg g1]at hE⊢
   refine Ab (fun _=>?_) fun h=>absurd (by decide) h
   rw[<-hE];exact hk st1 e1
  rw[if_pos g1]at hE⊢
  by_cases g2:1024<key.length
  ·rw[if_pos g2]at hE⊢
   refine Ab (fun _=>?_) fun h=>absurd (by decide) h
   rw[<-hE];exact hk st1 e1
  rw[if_neg g2]at hE⊢
  refine Ab (fun h=>absurd rfl h) fun _=>Ae (x:=es) (by simp only[Er,hm]) ?_
  rw[hns key]
  by_cases g3:key∈ns
  ·rw[if_pos g3]at hE⊢
   refine EM (AD (fun _=>?_) fun h=>by cases h)
   have:=hk st1 e1
   rw[hE]at this;exact this
  ·rw[if_neg g3]at hE⊢
   refine EM (AD (fun h=>by cases h) fun _=>⟨es,hm,?_⟩)
   rw[Ai _ (by omega) (by omega)]
   exact⟨⟨rfl,rfl,rfl,k+1,key::ns,_,by omega,by omega,StX.ext e1 (StX.put (S:=fun i=>i=st.nb) rfl _) (fun i hi=>by rw[hi];exact Nat.le_refl _),hb,by simp[St.put],hns.add key,hE⟩,by dsimp only;omega⟩
 ·have:k=f.length:=by omega
  subst this
  rw[List.drop_length]at hE
  have:=hk st1 e1
  rw[hE]at this;exact this
theorem Bq.stx {b:Nat} {a c d:St} (h:Bq a c) (k:StX (fun i=>i=b) c d) (hb:a.nb<=b):Bq a d:=
 ⟨Nat.le_trans h.1 k.nb,fun i hi=>(k.box i (Nat.lt_of_lt_of_le hi h.1) (by omega)).trans (h.2 i hi)⟩
theorem Ro {d n:Nat} {s:Sc} {l:List Vl} {f:List Fd} (h1:¬48<d) (h2:¬65536<=n) (h3:EV s l f=0):CF d n (.mk s l f)=GS (Cs (d+1) (n+1) l) fun m=>Cd (d+1) m f:=by
 unfold CF;rw[if_neg h1,if_neg h2,if_neg (fun h=>h h3)]
theorem Po {d n:Nat} {s:Sc} {l:List Vl} {f:List Fd} (h1:¬48<d) (h2:¬65536<=n) (h3:EV s l f≠0):CF d n (.mk s l f)=(n,EV s l f):=by
 unfold CF;rw[if_neg h1,if_neg h2,if_pos h3]
theorem LG (d n:Nat) (v:Vl) (r:List Vl):Cs d n (v::r)=GS (CF d n v) fun m=>Cs d m r:=by rw[Cs]
theorem Qt (d n:Nat) (k:B8) (v:Vl) (r:List Fd):Cd d n (.mk k v::r)=GS (CF d n v) fun m=>Cd d m r:=by rw[Cd,Jq]
theorem PB:U8 []:=by unfold U8;rw[Oe];rfl
theorem TG:∀(N:Nat) (v:Vl),v.sz<=N->N<=2000000->∀{st0 st:St} {cs:List TV} {b d n:Nat} {D:Int} {K:Int->St->Prop},VlR st0 v cs->Bq st0 st->st0.nb<=b->b<st.nb->st.box b= .cells [.int .i64 (n:Nat)]->n<=65536->D=(d:Int)->d<=100->
  (∀st' (m:Nat),StX (fun i=>i=b) st st'->st'.box b= .cells [.int .i64 (m:Nat)]->((CF d n v).2=0->m=(CF d n v).1/\m<=65536)->K ((CF d n v).2:Nat) st')->CallT PR CN [.agg cs,.int .i64 D,.box b 0] [.one (.int .i64)] st K:=by
 intro N
 induction N with
 | zero=>intro v h;have:=v.sz_pos;omega
 | succ N ih=>
 intro v hN hN2 st0 st cs b d n D K h hke hb0 hb hbx hn hD hd hk
 subst hD
 cases v with
 | mk s l f=>
 have hsz:(Vl.mk s l f).sz=1+s.bytes.length+s.text.length+s.dg.length+Bz l+Bs f:=by unfold Vl.sz;rfl
 have hll:=Dw l
 have hfl:=De f
 unfold VlR at h
 obtain⟨ub,ul,uf,xl,xf,rfl,h1,h2,h3,h4,h5⟩:=h
 refine KK _ _ _ _ _ _ _ _ _ _ _ _ _ (d:Int) b st K ?_
 refine Ae (x:= .int .i64 (n:Nat)) (by simp[Ac,hbx]) (BE ?_)
 rw[Ai _ (by omega) (by omega)]
 refine⟨_,hbx,by simp,?_⟩
 obtain⟨st1,hst1⟩:∃st1,st1=st.put b (.cells (setAll [.int .i64 (n:Nat)] 0 [.int .i64 ((n:Int)+1)])):=⟨_,rfl⟩
 rw[<-hst1]
 have e1:StX (fun i=>i=b) st st1:=by rw[hst1];exact StX.put (S:=fun i=>i=b) rfl _
 have hb1:st1.box b= .cells [.int .i64 ((n+1:Nat):Int)]:=by rw[hst1];simp[St.put,setAll]
 have hke1:=hke.stx e1 hb0
 refine⟨fun dp p kd bo ng dg ex tk td tn tz tx u1 u2 u3 st'=>dp=d/\p= .box b 0/\ul=u2/\uf=u3/\¬48<d/\¬65536<=n/\EV s l f=Dd [] f/\StX (fun i=>i=b) st st'/\st'.box b= .cells [.int .i64 ((n+1:Nat):Int)],?_,?_⟩
 ·--the value but for the values in it
  refine Ab (fun g=>?_) fun g=>?_
  ·have hc:CF d n (.mk s l f)=(n,9):=by unfold CF;rw[if_pos (by omega)]
   have:=hk st1 (n+1) e1 hb1 (by rw[hc];intro h;cases h)
   rw[hc]at this;exact this
  refine Ae (x:= .int .i64 ((n+1:Nat):Int)) (by simp[Ac,hb1]) (BE (Ab (fun g2=>?_) fun g2=>?_))
  ·have hc:CF d n (.mk s l f)=(n,10):=by unfold CF;rw[if_neg (by omega),if_pos (by omega)]
   have:=hk st1 (n+1) e1 hb1 (by rw[hc];intro h;cases h)
   rw[hc]at this;exact this
  have hg1:¬48<d:=by omega
  have hg2:¬65536<=n:=by omega
  --an error of the value itself
  have err:∀st',StX (fun i=>i=b) st st'->st'.box b= .cells [.int .i64 ((n+1:Nat):Int)]->EV s l f≠0->K ((EV s l f:Nat):Int) st':=fun st' e' hb' ho=>by
   have hc:=Po hg1 hg2 ho
   have:=hk st' (n+1) e' hb' (by rw[hc];intro h;exact absurd h ho)
   rw[hc]at this;exact this
  refine⟨fun q dp p kd bo ng dg ex tk td tn tz tx u1 u2 u3 st'=>dp=d/\p= .box b 0/\kd=s.kind/\ng=s.neg/\dg=s.dg/\ex=s.ex/\tk=s.tk/\td=s.td/\tn=s.tn/\tz=s.tz/\tx=s.text/\ub=u1/\ul=u2/\uf=u3/\q= !decide (LQ s l f)/\st1=st',?_,?_⟩
  ·refine Ab (fun g3=>?_) fun g3=>Ab (fun g4=>?_) fun g4=>?_
   ·exact⟨rfl,rfl,rfl,rfl,rfl,rfl,rfl,rfl,rfl,rfl,rfl,rfl,rfl,rfl,by rw[decide_eq_false fun o=>by have:=o.k0;omega];rfl,rfl⟩
   ·exact⟨rfl,rfl,rfl,rfl,rfl,rfl,rfl,rfl,rfl,rfl,rfl,rfl,rfl,rfl,by rw[decide_eq_false fun o=>by have:=o.k7;omega];rfl,rfl⟩
   ·exact To (s:=s) (l:=l) (f:=f) h1.isSl h2.isSl h4.isSl h1.lenS h2.lenS h4.lenS ⟨rfl,rfl,rfl,rfl,rfl,rfl,rfl,rfl,rfl,rfl,rfl,rfl,rfl,rfl,exB_eq (by omega) (by omega),rfl⟩
  rintro q _ _ _ bo _ _ _ _ _ _ _ _ _ _ _ _ ⟨rfl,rfl,rfl,rfl,rfl,rfl,rfl,rfl,rfl,rfl,rfl,rfl,rfl,rfl,rfl,rfl⟩
  by_cases ho:LQ s l f
  case neg=>
   refine AD (fun _=>?_) fun h=>by rw[decide_eq_false ho]at h;cases h
   have h6:EV s l f=6:=by unfold EV;rw[if_neg ho]
   have:=err st1 e1 hb1 (by rw[h6];decide)
   rw[h6]at this;exact this
  refine AD (fun h=>by rw[decide_eq_true ho]at h;cases h) fun _=>?_
  have hdec:s.kind≠2->Ed s.neg s.dg s.ex:=fun hk2=>by
   obtain⟨q1,q2,q3⟩:=ho.nu hk2
   rw[q2];exact MO.2 ⟨q1,q3⟩
  refine⟨fun q dp p kd bo ng dg ex tk td tn tz tx u1 u2 u3 st'=>dp=d/\p= .box b 0/\kd=s.kind/\tx=s.text/\ub=u1/\ul=u2/\uf=u3/\q= !(decide (Ed s.neg s.dg s.ex)&&decide (s.kind=3->Fc s.tk s.td s.tn s.tz))/\st1=st',?_,?_⟩
  ·refine Ab (fun g3=>Pf (by omega) ?_) fun g3=>Ab (fun g4=>Nc ?_) fun g4=>?_
   ·by_cases hq:Ed s.neg s.dg s.ex
    ·refine AD (fun h=>by rw[decide_eq_true hq]at h;cases h) fun _=>Ab (fun g4=>by omega) fun g4=>?_
     exact⟨rfl,rfl,rfl,rfl,rfl,rfl,rfl,by rw[decide_eq_true hq,decide_eq_true fun h=>absurd h g4];rfl,rfl⟩
    ·refine AD (fun h=>?_) fun h=>by rw[decide_eq_false hq]at h;cases h
     exact⟨rfl,rfl,rfl,rfl,rfl,rfl,rfl,by rw[decide_eq_false hq];rfl,rfl⟩
   ·exact⟨rfl,rfl,rfl,rfl,rfl,rfl,rfl,by rw[decide_eq_true (hdec g3),decide_eq_decide.2 (show(s.kind=3->Fc s.tk s.td s.tn s.tz)↔_ from⟨fun h=>h g4,fun h _=>h⟩)];rfl,rfl⟩
   ·exact⟨rfl,rfl,rfl,rfl,rfl,rfl,rfl,by rw[decide_eq_true (hdec g3),decide_eq_true fun h=>absurd h g4];rfl,rfl⟩
  rintro q _ _ _ bo2 ng2 dg2 ex2 tk2 td2 tn2 tz2 _ _ _ _ _ ⟨rfl,rfl,rfl,rfl,rfl,rfl,rfl,rfl,rfl⟩
  by_cases hq:Ed s.neg s.dg s.ex
  case neg=>
   refine AD (fun _=>?_) fun h=>by rw[decide_eq_false hq]at h;cases h
   have h6:EV s l f=2:=by unfold EV;rw[if_pos ho,if_neg hq]
   have:=err st1 e1 hb1 (by rw[h6];decide)
   rw[h6]at this;exact this
  by_cases hq2:s.kind=3->Fc s.tk s.td s.tn s.tz
  case neg=>
   refine AD (fun _=>?_) fun h=>by rw[decide_eq_true hq,decide_eq_false hq2]at h;cases h
   have h6:EV s l f=2:=by unfold EV;rw[if_pos ho,if_pos hq,if_neg hq2]
   have:=err st1 e1 hb1 (by rw[h6];decide)
   rw[h6]at this;exact this
  refine AD (fun h=>by rw[decide_eq_true hq,decide_eq_true hq2]at h;cases h) fun _=>?_
  --sizes
  have sizes:U8 s.text->∀(X:Prop),(EV s l f=Dd [] f->X)->BIf (decide (65536<(s.text.length:Int))) (K 10 st1) (need (isSl ub) (BIf (decide (65536<(lenS ub:Int))) (K 10 st1) X)):=fun hu X hX=>by
   have h6:EV s l f=if 65536<s.text.length then 10 else if 65536<s.bytes.length then 10 else Dd [] f:=by unfold EV;rw[if_pos ho,if_pos hq,if_pos hq2,if_pos hu]
   refine Ab (fun g5=>?_) fun g5=>Aa h1.isSl (Ab (fun g6=>?_) fun g6=>?_)
   ·rw[if_pos (by omega)]at h6
    have:=err st1 e1 hb1 (by rw[h6];decide)
    rw[h6]at this;exact this
   ·rw[h1.lenS]at g6
    rw[if_neg (by omega),if_pos (by omega)]at h6
    have:=err st1 e1 hb1 (by rw[h6];decide)
    rw[h6]at this;exact this
   ·rw[h1.lenS]at g6
    rw[if_neg (by omega),if_neg (by omega)]at h6
    exact hX h6
  refine Ab (fun g3=>Mm (by omega) (AD (fun g4=>?_) fun g4=>?_)) fun g3=>?_
  ·have hu:¬U8 s.text:=by unfold U8;simpa using g4
   have h6:EV s l f=5:=by unfold EV;rw[if_pos ho,if_pos hq,if_pos hq2,if_neg hu]
   have:=err st1 e1 hb1 (by rw[h6];decide)
   rw[h6]at this;exact this
  ·exact sizes (by unfold U8;simpa using g4) _ fun h6=>⟨rfl,rfl,rfl,rfl,hg1,hg2,h6,e1,hb1⟩
  ·exact sizes (by rw[ho.tx g3];exact PB) _ fun h6=>⟨rfl,rfl,rfl,rfl,hg1,hg2,h6,e1,hb1⟩
 ·rintro _ _ kd bo ng dg ex tk td tn tz tx u1 _ _ st2 ⟨rfl,rfl,rfl,rfl,hg1,hg2,h6,e2,hb2⟩
  have hke2:=hke.stx e2 hb0
  refine keys_ok hke2 h4 h5 (by omega) fun st3 e3=>?_
  have e23:=e2.trans (StX.of e3)
  have hb3:st3.box b= .cells [.int .i64 ((n+1:Nat):Int)]:=(e3.box b (by have:=e2.nb;omega)).trans hb2
  refine Ab (fun g=>?_) fun g=>Aa h2.isSl ?_
  ·have ho:EV s l f≠0:=by rw[h6];omega
   have hc:=Po hg1 hg2 ho
   have:=hk st3 (n+1) e23 hb3 (by rw[hc];intro h;exact absurd h ho)
   rw[hc,h6]at this;exact this
  have hone:EV s l f=0:=by rw[h6];omega
  have hC:=Ro hg1 hg2 hone
  refine⟨fun i dp p u m kd bo ng dg ex tk td tn tz tx u1 u2 u3 st'=>dp=d/\p= .box b 0/\ul=u/\m=(l.length:Int)/\uf=u3/\∃k c:Nat,i=k/\k<=l.length/\c<=65536/\StX (fun i=>i=b) st st'/\st'.box b= .cells [.int .i64 ((c:Nat):Int)]/\Cs (d+1) (n+1) l=Cs (d+1) c (l.drop k),
   fun i _ _ _ _ _ _ _ _ _ _ _ _ _ _ _ _ _ _=>(l.length-i).toNat,⟨rfl,rfl,rfl,by rw[h2.lenS],rfl,0,n+1,rfl,Nat.zero_le _,by omega,e23,hb3,rfl⟩,?_⟩
  rintro _ _ _ _ _ kd bo ng dg ex tk td tn tz tx u1 u2 _ st4 ⟨rfl,rfl,rfl,rfl,rfl,k,c,rfl,hkl,hc,e4,hb4,hE⟩
  have hke4:=hke.stx e4 hb0
  refine Ab (fun g3=>?_) fun g3=>?_
  ·refine NM hke4 h2 h3 rfl (by omega) fun s' l' f' ub1 ul1 uf1 gw hw on=>Aa on ?_
   have hwsz:=EQ gw
   rw[Gi gw,LG]at hE
   rw[Ai _ (by omega) (by omega)]
   refine ih _ (by omega) (by omega) (d:=d+1) hw hke4 hb0 (by have:=e4.nb;omega) hb4 hc (by omega) (by omega) fun st5 m e5 hb5 hm=>?_
   have e45:=e4.trans e5
   refine Ab (fun g4=>?_) fun g4=>?_
   ·have hne:(CF (d+1) c (.mk s' l' f')).2≠0:=by omega
    rw[Jx hne]at hE
    have hc2:CF d n (.mk s l f)=CF (d+1) c (.mk s' l' f'):=by rw[hC,hE,Jx hne]
    have:=hk st5 m e45 hb5 (by rw[hc2];intro h;exact absurd h hne)
    rw[hc2]at this;exact this
   ·have hz:(CF (d+1) c (.mk s' l' f')).2=0:=by omega
    rw[Cn hz]at hE
    obtain⟨hm1,hm2⟩:=hm hz
    rw[Ai _ (by omega) (by omega)]
    exact⟨⟨rfl,rfl,rfl,rfl,rfl,k+1,m,by omega,by omega,hm2,e45,hb5,by rw[hE,hm1]⟩,by dsimp only;omega⟩
  ·have hkk:k=l.length:=by omega
   subst hkk
   rw[List.drop_length]at hE
   have hE2:Cs (d+1) (n+1) l=(c,0):=by rw[hE,Cs]
   rw[hE2,Cn rfl]at hC
   refine Aa h4.isSl ?_
   refine⟨fun i dp p u m st'=>dp=d/\p= .box b 0/\uf=u/\m=(f.length:Int)/\∃k c2:Nat,i=k/\k<=f.length/\c2<=65536/\StX (fun i=>i=b) st st'/\st'.box b= .cells [.int .i64 ((c2:Nat):Int)]/\Cd (d+1) c f=Cd (d+1) c2 (f.drop k),
    fun i _ _ _ _ _=>(f.length-i).toNat,⟨rfl,rfl,rfl,by rw[h4.lenS],0,c,rfl,Nat.zero_le _,hc,e4,hb4,rfl⟩,?_⟩
   rintro _ _ _ _ _ st5 ⟨rfl,rfl,rfl,rfl,k,c2,rfl,hkf,hc2,e5,hb5,hF⟩
   have hke5:=hke.stx e5 hb0
   refine Ab (fun g4=>?_) fun g4=>?_
   ·refine Ql hke5 h4 h5 rfl (by omega) fun key s' l' f' ub1 ul1 uf1 gw hw on=>Aa on ?_
    have hwsz:=D8 gw
    have hwk:(Fd.mk key (.mk s' l' f')).sz=key.length+(Vl.mk s' l' f').sz:=by unfold Fd.sz;rfl
    rw[Gi gw,Qt]at hF
    rw[Ai _ (by omega) (by omega)]
    refine ih (.mk s' l' f') (by omega) (by omega) (d:=d+1) hw hke5 hb0 (by have:=e5.nb;omega) hb5 hc2 (by omega) (by omega) fun st6 m e6 hb6 hm=>?_
    have e56:=e5.trans e6
    refine Ab (fun g5=>?_) fun g5=>?_
    ·have hne:(CF (d+1) c2 (.mk s' l' f')).2≠0:=by omega
     rw[Jx hne]at hF
     have hc3:CF d n (.mk s l f)=CF (d+1) c2 (.mk s' l' f'):=by rw[hC];exact hF
     have:=hk st6 m e56 hb6 (by rw[hc3];intro h;exact absurd h hne)
     rw[hc3]at this;exact this
    ·have hz:(CF (d+1) c2 (.mk s' l' f')).2=0:=by omega
     rw[Cn hz]at hF
     obtain⟨hm1,hm2⟩:=hm hz
     rw[Ai _ (by omega) (by omega)]
     exact⟨⟨rfl,rfl,rfl,rfl,k+1,m,by omega,by omega,hm2,e56,hb6,by rw[hF,hm1]⟩,by dsimp only;omega⟩
   ·have hkk:k=f.length:=by omega
    subst hkk
    rw[List.drop_length]at hF
    have hF2:CF d n (.mk s l f)=(c2,0):=by rw[hC];show Cd (d+1) c f=_;rw[hF,Cd]
    have:=hk st5 c2 e5 hb5 (by rw[hF2];exact fun _=>⟨rfl,hc2⟩)
    rw[hF2]at this;exact this
section
theorem Hv {v:Vl} (hN:v.sz<=2000000) {st0 st:St} {cs:List TV} {K:Int->St->Prop} (h:VlR st0 v cs) (hke:Bq st0 st) (hk:∀st',Al st st'->K (AQ v:Nat) st'):
  CallT PR AE [.agg cs] [.one (.int .i64)] st K:=by
 have h0:=h
 cases v with
 | mk s l f=>
 unfold VlR at h0
 obtain⟨ub,ul,uf,xl,xf,rfl,_⟩:=h0
 have he:Al st (st.push (.cells [.int .i64 0]) (some 3)):=(Al.refl st).push _ _
 refine KN _ _ _ _ _ _ _ _ _ _ _ _ _ st K ⟨[.int .i64 0],by simp[St.push],by simp,?_⟩
 obtain⟨st1,hst1⟩:∃st1,st1=(st.push (.cells [.int .i64 0]) (some 3)).put st.nb (.cells (setAll [.int .i64 0] 0 [.int .i64 0])):=⟨_,rfl⟩
 rw[<-hst1]
 have e1:Al st st1:=by rw[hst1];exact StX.ext he (StX.put (S:=fun i=>i=st.nb) rfl _) (fun i hi=>by rw[hi];exact Nat.le_refl _)
 have hb1:st1.box st.nb= .cells [.int .i64 ((0:Nat):Int)]:=by rw[hst1];simp[St.put,setAll]
 exact TG 2000000 _ hN (by omega) (d:=1) h (hke.trans e1.keeps) hke.1 (by rw[hst1];simp[St.put,St.push]) hb1 (by omega) rfl (by omega) fun st2 m e2 hb2 _=>hk st2 (StX.ext e1 e2 (fun i hi=>by rw[hi];exact Nat.le_refl _))
mutual
theorem NU:∀(v:Vl) (d n:Nat),n<=65536->(CF d n v).2=0->(CF d n v).1<=65536
 | .mk s l f,d,n,hn,h=>by
  unfold CF at h⊢
  split at h
  ·cases h
  ·rename_i g1
   rw[if_neg g1]
   split at h
   ·cases h
   ·rename_i g2
    rw[if_neg g2]
    split at h
    ·rename_i h1;exact absurd h h1
    ·rename_i g3
     rw[if_neg g3]
     obtain⟨h2,h3⟩:=Bv h
     rw[Cn h2]
     exact Ps f _ _ (Pn l _ _ (by omega) h2) h3
theorem Pn:∀(l:List Vl) (d n:Nat),n<=65536->(Cs d n l).2=0->(Cs d n l).1<=65536
 | [],d,n,hn,_=>by unfold Cs;exact hn
 | v::r,d,n,hn,h=>by
  unfold Cs at h⊢
  obtain⟨h2,h3⟩:=Bv h
  rw[Cn h2]
  exact Pn r _ _ (NU v _ _ hn h2) h3
theorem chkD_le:∀(x:Fd) (d n:Nat),n<=65536->(Jq d n x).2=0->(Jq d n x).1<=65536
 | .mk k v,d,n,hn,h=>by unfold Jq at h⊢;exact NU v _ _ hn h
theorem Ps:∀(l:List Fd) (d n:Nat),n<=65536->(Cd d n l).2=0->(Cd d n l).1<=65536
 | [],d,n,hn,_=>by unfold Cd;exact hn
 | x::r,d,n,hn,h=>by
  unfold Cd at h⊢
  obtain⟨h2,h3⟩:=Bv h
  rw[Cn h2]
  exact Ps r _ _ (chkD_le x _ _ hn h2) h3
end
theorem VsR.snoc {st:St} {v:Vl} {cv:List TV}:∀{l:List Vl} {xs:List TV},VsR st l xs->VlR st v cv->VsR st (l++[v]) (xs++cv)
 | [],xs,h,hv=>by
  unfold VsR at h
  subst h
  show VsR st [v] _
  unfold VsR
  exact⟨cv,[],by simp,hv,by unfold VsR;rfl⟩
 | w::r,xs,h,hv=>by
  unfold VsR at h
  obtain⟨a,b,rfl,h1,h2⟩:=h
  show VsR st (w::(r++[v])) _
  unfold VsR
  exact⟨a,b++cv,by simp,h1,VsR.snoc h2 hv⟩
end
theorem VlR.cells {st:St} {s:Sc} {l:List Vl} {f:List Fd} {cs:List TV} (h:VlR st (.mk s l f) cs):∃ub ul uf xl xf,cs=AK s ub ul uf/\SlR st 1 ub s.bytes.length (A5 s.bytes)/\SlR st 13 ul l.length xl/\VsR st l xl/\SlR st 14 uf f.length xf/\FsR st f xf:=by
 unfold VlR at h
 obtain⟨ub,ul,uf,xl,xf,rfl,h⟩:=h
 exact⟨ub,ul,uf,xl,xf,rfl,h⟩
theorem szs (s:Sc) (l:List Vl) (f:List Fd):(Vl.mk s l f).sz=1+s.bytes.length+s.text.length+s.dg.length+Bz l+Bs f:=by unfold Vl.sz;rfl
theorem szd (k:B8) (v:Vl):(Fd.mk k v).sz=k.length+v.sz:=by unfold Fd.sz;rfl
theorem keyLd {st0 st:St} {uf:TV} {xf:List TV} {l:List Fd} (hke:Bq st0 st) (h2:SlR st0 14 uf l.length xf) (h3:FsR st0 l xf) {k:Nat} {d:Fd} (hd:l[k]? =some d):Ac st [] (.t (AV (ixT 14 uf k) 0)) 0=some (.str d.key):=by
 obtain⟨hk,_⟩:=List.getElem?_eq_some_iff.1 hd
 obtain⟨cw,hw,hcw,hcl⟩:=h3.get hd
 have hx:xf[k*14+0]? =some (.str d.key):=by
  cases d with
  | mk key w=>
   unfold FdR at hw
   obtain⟨cs,rfl,_⟩:=hw
   have:=congrArg (fun z=>z[0]?) hcw
   simpa [Fd.key]using this
 exact(h2.keep hke).ldf h3.len hk (by omega) hx
section
mutual
theorem LH:∀(v:Vl) (d n:Nat),(CF d n v).2=0->(CF d n v).1=n+v.cnt
 | .mk s l f,d,n,h=>by
  unfold CF at h⊢
  unfold Vl.cnt
  split at h
  ·cases h
  ·rename_i g1
   rw[if_neg g1]
   split at h
   ·cases h
   ·rename_i g2
    rw[if_neg g2]
    split at h
    ·rename_i h1;exact absurd h h1
    ·rename_i g3
     rw[if_neg g3]
     obtain⟨h2,h3⟩:=Bv h
     rw[Cn h2,MR f _ _ h3,MQ l _ _ h2];omega
theorem MQ:∀(l:List Vl) (d n:Nat),(Cs d n l).2=0->(Cs d n l).1=n+Aw l
 | [],d,n,_=>by unfold Cs Aw;rfl
 | v::r,d,n,h=>by
  unfold Cs at h⊢
  unfold Aw
  obtain⟨h2,h3⟩:=Bv h
  rw[Cn h2,MQ r _ _ h3,LH v _ _ h2];omega
theorem TC:∀(x:Fd) (d n:Nat),(Jq d n x).2=0->(Jq d n x).1=n+x.cnt
 | .mk k v,d,n,h=>by unfold Jq at h⊢;unfold Fd.cnt;exact LH v _ _ h
theorem MR:∀(l:List Fd) (d n:Nat),(Cd d n l).2=0->(Cd d n l).1=n+Av l
 | [],d,n,_=>by unfold Cd Av;rfl
 | x::r,d,n,h=>by
  unfold Cd at h⊢
  unfold Av
  obtain⟨h2,h3⟩:=Bv h
  rw[Cn h2,MR r _ _ h3,TC x _ _ h2];omega
end
theorem Dv {v:Vl} (h:AQ v=0):v.cnt<=65536:=by
 have h1:=LH v 1 0 h
 have h2:=NU v 1 0 (by omega) h
 omega
theorem Hr {v:Vl} (h:AQ v=0):Az v:=NR v 1 0 h
end
theorem Gr {α:Type} {l m:List α} {k:Nat} {x y:α} (h:l.take k=m.take k) (hx:l[k]? =some x) (hy:m[k]? =some y) (e:x=y):l.take (k+1)=m.take (k+1):=by
 rw[B7 hx,B7 hy,h,e]
theorem sc_eq {s t:Sc} (h1:s.kind=t.kind) (h2:s.b=t.b) (h3:s.neg=t.neg) (h4:s.dg=t.dg) (h5:s.ex=t.ex) (h6:s.tk=t.tk) (h7:s.td=t.td) (h8:s.tn=t.tn) (h9:s.tz=t.tz) (h10:s.text=t.text) (h11:s.bytes=t.bytes):s=t:=by
 cases s;cases t;simp_all
section
def Cg (l:List Vl) (f:List Fd):List Vl:=l++f.map Fd.val
mutual
def JY:Vl->Nat
 | .mk _ l f=>1+max (C5 l) (Ie f)
def C5:List Vl->Nat
 | []=>0
 | v::r=>max (JY v) (C5 r)
def R5:Fd->Nat
 | .mk _ v=>JY v
def Ie:List Fd->Nat
 | []=>0
 | d::r=>max (R5 d) (Ie r)
end
theorem HL:∀l m:List Vl,C5 (l++m)=max (C5 l) (C5 m)
 | [],m=>by simp[C5]
 | v::r,m=>by simp only[List.cons_append,C5,HL r m];omega
theorem MM:∀f:List Fd,Ie f=C5 (f.map Fd.val)
 | []=>rfl
 | .mk k v::r=>by simp only[List.map_cons,C5,Ie,MM r,R5,Fd.val]
theorem CV:∀l m:List Vl,Aw (l++m)=Aw l+Aw m
 | [],m=>by simp[Aw]
 | v::r,m=>by simp only[List.cons_append,Aw,CV r m];omega
theorem MI:∀f:List Fd,Av f=Aw (f.map Fd.val)
 | []=>rfl
 | .mk k v::r=>by simp only[List.map_cons,Aw,Av,MI r,Fd.cnt,Fd.val]
theorem Pi (s:Sc) (l:List Vl) (f:List Fd):(Vl.mk s l f).cnt=1+Aw (Cg l f):=by
 unfold Cg Vl.cnt
 rw[CV,<-MI];omega
theorem Tz (s:Sc) (l:List Vl) (f:List Fd):JY (Vl.mk s l f)=1+C5 (Cg l f):=by
 unfold Cg JY
 rw[HL,<-MM]
mutual
theorem Rj:∀v:Vl,JY v<=v.cnt
 | .mk s l f=>by
  unfold JY Vl.cnt
  have:=Lz l
  have:=Pe f
  omega
theorem Lz:∀l:List Vl,C5 l<=Aw l
 | []=>by unfold C5;exact Nat.zero_le _
 | v::r=>by
  unfold C5 Aw
  have:=Rj v
  have:=Lz r
  omega
theorem Ty:∀d:Fd,R5 d<=d.cnt
 | .mk k v=>by unfold R5 Fd.cnt;exact Rj v
theorem Pe:∀l:List Fd,Ie l<=Av l
 | []=>by unfold Ie;exact Nat.zero_le _
 | d::r=>by
  unfold Ie Av
  have:=Ty d
  have:=Pe r
  omega
end
theorem VsR.all_one {st:St}:∀{l:List Vl} {xs:List TV},VsR st l xs->List.all xs At=true
 | [],xs,h=>by unfold VsR at h;subst h;rfl
 | .mk s l f::r,xs,h=>by
  unfold VsR at h
  obtain⟨a,b,rfl,h1,h2⟩:=h
  obtain⟨ub,ul,uf,xl,xf,rfl,q1,q2,_,q4,_⟩:=h1.cells
  rw[List.all_append,VsR.all_one h2,Bool.and_true]
  exact DB q1.one q2.one q4.one
theorem VsR.app {st:St}:∀{l m:List Vl} {xs ys:List TV},VsR st l xs->VsR st m ys->VsR st (l++m) (xs++ys)
 | [],m,xs,ys,h,hm=>by unfold VsR at h;subst h;exact hm
 | v::r,m,xs,ys,h,hm=>by
  unfold VsR at h
  obtain⟨a,b,rfl,h1,h2⟩:=h
  show VsR st (v::(r++m)) _
  unfold VsR
  exact⟨a,b++ys,by simp,h1,VsR.app h2 hm⟩
theorem Sb {st0 st:St} {u:TV} {l:List Vl} {xl:List TV} (hke:Bq st0 st) (h:SlR st0 13 u l.length xl) (hv:VsR st0 l xl) (hl:l.length<=2000000) {K:TV->St->Prop} (hk:∀v st',Al st st'->Own st.nt 13 st' v l.length xl->K v st'):
  CallT PR A0 [u] [.one .tv] st K:=by
 have hxl:=hv.len
 refine CG _ st K (Aa h.isSl ?_)
 cases hq:BT u with
 | true=>
  show K .nilSlice st
  have h0:l=[]:=by
   rcases h with(⟨rfl,h1,_⟩ | ⟨tip,rfl⟩) | ⟨b,off,cap,m,rfl,_⟩
   ·exact List.eq_nil_of_length_eq_zero h1
   ·cases hq
   ·cases hq
  subst h0
  have hx0:xl=[]:=List.eq_nil_of_length_eq_zero (by simpa using hxl)
  subst hx0
  exact hk _ st (Al.refl _) (Own.nil _ _ _)
 | false=>
  refine Ae ((h.keep hke).src hxl) (Aa hv.all_one ?_)
  refine Pz (Al.refl st) rfl (Own.full st.nt 13 st 0 []) (by simp only;omega) (fun h0=>?_) fun v1 st1 e1 _ ho=>?_
  ·simp only at h0
   exact List.eq_nil_of_length_eq_zero (by rw[hxl,h0,Nat.zero_mul])
  ·rw[List.nil_append,Nat.zero_add]at ho
   exact hk v1 st1 e1 ho
theorem OM {s:Sc} {l:List Vl} {f:List Fd} (hN:(Vl.mk s l f).sz<=2000000) {st0 st:St} {ub ul uf:TV} {K:TV->St->Prop} (h:VlR st0 (.mk s l f) (AK s ub ul uf)) (hke:Bq st0 st)
  (hk:∀u xl st',Al st st'->SlR st' 13 u (Cg l f).length xl->VsR st' (Cg l f) xl->K u st'):CallT PR DY [.agg (AK s ub ul uf)] [.one .tv] st K:=by
 have hsz:=szs s l f
 have hll:=Dw l
 have hfl:=De f
 obtain⟨ub',ul',uf',xl,xf,hcs,h1,h2,h3,h4,h5⟩:=h.cells
 simp only[AK,List.cons.injEq,and_true,true_and]at hcs
 obtain⟨rfl,rfl,rfl⟩:=hcs
 have hxl:=h3.len
 refine LT _ _ _ _ _ _ _ _ _ _ _ _ _ st K (Sb hke h2 h3 (by omega) fun v1 st1 e1 ho1=>Aa h4.isSl ?_)
 refine⟨fun o i u n st'=>uf=u/\n=(f.length:Int)/\∃(k:Nat) (xs:List TV),i=k/\k<=f.length/\Al st st'/\Own st.nt 13 st' o (l.length+k) (xl++xs)/\VsR st0 ((f.take k).map Fd.val) xs,fun _ i _ _ _=>(f.length-i).toNat,
  ⟨rfl,by rw[h4.lenS],0,[],rfl,Nat.zero_le _,e1,by simpa using ho1,by simp only[List.take_zero,List.map_nil];unfold VsR;rfl⟩,?_⟩
 rintro o _ _ _ st2 ⟨rfl,rfl,k,xs,rfl,hkf,e2,ho,hv⟩
 refine Ab (fun g2=>?_) fun g2=>?_
 ·refine Ql (hke.trans e2.keeps) h4 h5 rfl (by omega) fun key s' l' f' ub1 ul1 uf1 gw hw on=>Aa on ?_
  have on2:List.all (AK s' ub1 ul1 uf1) At=true:=by
   rw[List.all_cons]at on;exact(Bool.and_eq_true_iff.1 on).2
  refine Aa on2 (Pz e2 rfl ho (by omega) (fun h=>by cases h) fun v2 st3 e3 _ ho2=>?_)
  rw[Ai _ (by omega) (by omega)]
  refine⟨⟨rfl,rfl,k+1,xs++AK s' ub1 ul1 uf1,by omega,by omega,e3,by simpa [AK,Nat.add_assoc]using ho2,?_⟩,by dsimp only;omega⟩
  rw[B7 gw,List.map_append]
  exact VsR.snoc hv hw
 ·have hkk:k=f.length:=by omega
  subst hkk
  rw[List.take_length]at hv
  have hke2:=hke.trans e2.keeps
  refine hk o (xl++xs) st2 e2 ?_ (VsR.keep hke2 (VsR.app h3 hv))
  unfold Cg
  rw[List.length_append,List.length_map]
  exact .of_rd ho.rd
theorem Gm {l:List Vl} {k:Nat} {w:Vl} (h:l[k]? =some w):Aw (l.take (k+1))=Aw (l.take k)+w.cnt:=by
 rw[B7 h,CV];simp[Aw]
theorem Qo {l:List Vl} {k:Nat} {w:Vl} (h:l[k]? =some w):C5 (l.take (k+1))=max (C5 (l.take k)) (JY w):=by
 rw[B7 h,HL];simp[C5]
theorem Da (l:List Vl) (k:Nat):Aw (l.take k)<=Aw l:=by
 have:=CV (l.take k) (l.drop k)
 rw[List.take_append_drop]at this;omega
theorem Mj (l:List Vl):l.length<=Aw l:=by
 induction l with
 | nil=>exact Nat.zero_le _
 | cons v r ih=>unfold Aw;have:=v.cnt_pos;simp only[List.length_cons];omega
theorem Id (l:List Vl) (k:Nat):C5 (l.take k)<=C5 l:=by
 have:=HL (l.take k) (l.drop k)
 rw[List.take_append_drop]at this;omega
mutual
theorem Hq:∀v:Vl,v.cnt<=v.sz
 | .mk s l f=>by
  have:=KE l
  have:=KF f
  unfold Vl.cnt;rw[szs];omega
theorem KE:∀l:List Vl,Aw l<=Bz l
 | []=>by unfold Aw;exact Nat.zero_le _
 | v::r=>by
  unfold Aw Bz
  have:=Hq v
  have:=KE r
  omega
theorem cntd_sz:∀d:Fd,d.cnt<=d.sz
 | .mk k v=>by unfold Fd.cnt Fd.sz;have:=Hq v;omega
theorem KF:∀l:List Fd,Av l<=Bs l
 | []=>by unfold Av;exact Nat.zero_le _
 | d::r=>by
  unfold Av Bs
  have:=cntd_sz d
  have:=KF r
  omega
end
theorem OZ {s:Sc} {l:List Vl} {f:List Fd} {k:Nat} {w:Vl} (h:(Cg l f)[k]? =some w):w.sz+1<=(Vl.mk s l f).sz:=by
 have hsz:=szs s l f
 rcases List.mem_append.1 (DO h)with h | h
 ·have:=KH h;omega
 ·obtain⟨d,hd,rfl⟩:=List.mem_map.1 h
  have:=Jk hd
  cases d;rw[szd]at this;simp only[Fd.val];omega
theorem size_ok:∀(N:Nat) (v:Vl),v.sz<=N->N<=2000000->∀{st0 st:St} {cs:List TV} {L:Int} {K:Int->St->Prop},VlR st0 v cs->Bq st0 st->(v.cnt:Int)<=L->L<=100000000->(∀st',Al st st'->K (v.cnt:Nat) st')->
  CallT PR DW [.agg cs,.int .i64 L] [.one (.int .i64)] st K:=by
 intro N
 induction N with
 | zero=>intro v h;have:=v.sz_pos;omega
 | succ N ih=>
 intro v hN hN2 st0 st cs L K h hke hL hL2 hk
 cases v with
 | mk s l f=>
 have h0:=h
 obtain⟨ub,ul,uf,xl,xf,rfl,_⟩:=h.cells
 have hC:=Pi s l f
 have hcs:=Hq (.mk s l f)
 have hpos:=(Vl.mk s l f).cnt_pos
 have hlen:=Mj (Cg l f)
 refine LR _ _ _ _ _ _ _ _ _ _ _ _ _ L st K (Ab (fun g=>by omega) fun _=>OM (by omega) h0 hke fun u xl st1 e1 hu hv=>Aa hu.isSl ?_)
 refine⟨fun n i le u' m st'=>u=u'/\le=L/\m=((Cg l f).length:Int)/\∃k:Nat,i=k/\k<=(Cg l f).length/\n=((1+Aw ((Cg l f).take k):Nat):Int)/\Al st1 st',fun _ i _ _ _ _=>((Cg l f).length-i).toNat,
  ⟨rfl,rfl,by rw[hu.lenS],0,rfl,Nat.zero_le _,rfl,Al.refl _⟩,?_⟩
 rintro _ _ _ _ _ st2 ⟨rfl,rfl,rfl,k,rfl,hkl,rfl,e2⟩
 have htk:=Da (Cg l f) k
 refine Ab (fun g=>?_) fun g=>?_
 ·refine NM e2.keeps hu hv rfl (by omega) fun s' l' f' ub1 ul1 uf1 gw hw on=>Aa on ?_
  have hwsz:=OZ (s:=s) gw
  have hwc:=Gm gw
  have htk2:=Da (Cg l f) (k+1)
  rw[Ai (_-1) (by omega) (by omega)]
  refine ih _ (by omega) (by omega) hw e2.keeps (by omega) (by omega) fun st3 e3=>?_
  rw[Ai _ (by omega) (by omega),Ai _ (by omega) (by omega)]
  exact⟨⟨rfl,rfl,rfl,k+1,by omega,by omega,by omega,e2.trans e3⟩,by dsimp only;omega⟩
 ·have hkk:k=(Cg l f).length:=by omega
  rw[hkk,List.take_length,<-hC]
  exact hk st2 (e1.trans e2)
theorem Size_ok {v:Vl} (hN:v.sz<=2000000) (hC:v.cnt<=65536) {st0 st:St} {cs:List TV} {K:Int->St->Prop} (h:VlR st0 v cs) (hke:Bq st0 st) (hk:∀st',Al st st'->K (v.cnt:Nat) st'):CallT PR FK [.agg cs] [.one (.int .i64)] st K:=by
 cases v with
 | mk s l f=>
 have h0:=h
 obtain⟨ub,ul,uf,xl,xf,rfl,_⟩:=h.cells
 exact LW _ _ _ _ _ _ _ _ _ _ _ _ _ st K (size_ok 2000000 _ hN (by omega) h0 hke (by omega) (by omega) hk)
theorem deep_ok:∀(N:Nat) (v:Vl),v.sz<=N->N<=2000000->∀{st0 st:St} {cs:List TV} {L:Int} {K:Int->St->Prop},VlR st0 v cs->Bq st0 st->(v.cnt:Int)<=L->L<=100000000->(∀st',Al st st'->K (JY v:Nat) st')->
  CallT PR DZ [.agg cs,.int .i64 L] [.one (.int .i64)] st K:=by
 intro N
 induction N with
 | zero=>intro v h;have:=v.sz_pos;omega
 | succ N ih=>
 intro v hN hN2 st0 st cs L K h hke hL hL2 hk
 cases v with
 | mk s l f=>
 have h0:=h
 obtain⟨ub,ul,uf,xl,xf,rfl,_⟩:=h.cells
 have hC:=Pi s l f
 have hD:=Tz s l f
 have hcs:=Hq (.mk s l f)
 have hpos:=(Vl.mk s l f).cnt_pos
 have hlen:=Mj (Cg l f)
 have hdc:=Lz (Cg l f)
 refine LV _ _ _ _ _ _ _ _ _ _ _ _ _ L st K (Ab (fun g=>?_) fun _=>OM (by omega) h0 hke fun u xl st1 e1 hu hv=>Aa hu.isSl ?_)
 ·have:=hk st (Al.refl _)
  rw[show JY (.mk s l f)=1 by omega]at this;exact this
 refine⟨fun n i le u' m st'=>u=u'/\le=L/\m=((Cg l f).length:Int)/\∃k:Nat,i=k/\k<=(Cg l f).length/\n=((1+C5 ((Cg l f).take k):Nat):Int)/\Al st1 st',fun _ i _ _ _ _=>((Cg l f).length-i).toNat,
  ⟨rfl,rfl,by rw[hu.lenS],0,rfl,Nat.zero_le _,rfl,Al.refl _⟩,?_⟩
 rintro _ _ _ _ _ st2 ⟨rfl,rfl,rfl,k,rfl,hkl,rfl,e2⟩
 have htk:=Id (Cg l f) k
 refine Ab (fun g=>?_) fun g=>?_
 ·refine NM e2.keeps hu hv rfl (by omega) fun s' l' f' ub1 ul1 uf1 gw hw on=>Aa on ?_
  have hwsz:=OZ (s:=s) gw
  have hwc:=Gm gw
  have hwd:=Qo gw
  have htk2:=Id (Cg l f) (k+1)
  have htk3:=Da (Cg l f) (k+1)
  rw[Ai (_-1) (by omega) (by omega)]
  refine ih _ (by omega) (by omega) hw e2.keeps (by omega) (by omega) fun st3 e3=>?_
  rw[Ai _ (by omega) (by omega),Ai _ (by omega) (by omega)]
  exact⟨⟨rfl,rfl,rfl,k+1,by omega,by omega,by rw[hwd];omega,e2.trans e3⟩,by dsimp only;omega⟩
 ·have hkk:k=(Cg l f).length:=by omega
  rw[hkk,List.take_length,<-hD]
  exact hk st2 (e1.trans e2)
theorem TZ {v:Vl} (hN:v.sz<=2000000) (hC:v.cnt<=65536) {st0 st:St} {cs:List TV} {K:Int->St->Prop} (h:VlR st0 v cs) (hke:Bq st0 st) (hk:∀st',Al st st'->K (JY v:Nat) st'):CallT PR E0 [.agg cs] [.one (.int .i64)] st K:=by
 cases v with
 | mk s l f=>
 have h0:=h
 obtain⟨ub,ul,uf,xl,xf,rfl,_⟩:=h.cells
 exact KM _ _ _ _ _ _ _ _ _ _ _ _ _ st K (deep_ok 2000000 _ hN (by omega) h0 hke (by omega) (by omega) hk)
end
theorem SlR.ldb {st:St} {u:TV} {l:B8} {k:Nat} (h:SlR st 1 u l.length (A5 l)) (hk:k<l.length):Ac st [] (.t (ixT 1 u k)) 0=some (Pu l[k]):=by
 have:=h.ldc (by rw[FF];omega) hk
 rw[List.drop_eq_getElem_cons (by rw[FF];omega)]at this
 simp only[Aj,List.take_succ_cons,List.take_zero]at this
 cases hq:Ac st [] (.t (ixT 1 u k)) 0 with
 | none=>rw[hq]at this;cases this
 | some y=>
  rw[hq]at this
  simp only[Option.map_some,Option.some.injEq,List.cons.injEq,and_true]at this
  rw[this];simp[A5]
def zs (n:Nat):B8:=List.replicate n 48
theorem K6 {s:Sc} {l:List Vl} {f:List Fd} (hN:(Vl.mk s l f).sz<=2000000) (hkn:Cm f) {st0 st:St} {ub ul uf:TV} {K:TV->St->Prop} (h:VlR st0 (.mk s l f) (AK s ub ul uf)) (hke:Bq st0 st)
  (hk:∀v st' xl,Al st st'->SlR st' 14 v (Dn f).length xl->FsR st' (Dn f) xl->K v st'):CallT PR Co [.agg (AK s ub ul uf)] [.one .tv] st K:=by
 have hsz:=szs s l f
 have hfl:=De f
 obtain⟨ub',ul',uf',xl,xf,hcs,h1,h2,h3,h4,h5⟩:=h.cells
 simp only[AK,List.cons.injEq,and_true,true_and]at hcs
 obtain⟨rfl,rfl,rfl⟩:=hcs
 obtain⟨cks,rfl,hall⟩:=(FsR.keep hke h5).chunks
 refine PL (α:=Fd) (g:=id) (R:=FdR st) (fun a c hr=>hr) hall (s:=s) (f:=f) (by simp) rfl (h4.keep hke) (by omega) fun v st' la' cks' bs hp hs e ho hR hnd hlo=>?_
 rw[List.map_id]at hs
 have hE:la'=Dn f:=RG hkn hp hs
 subst hE
 exact hk v st' _ e ho.rd (FsR.keep e.keeps (FsR.of_chunks hR))
theorem Ov {f:List Fd} {d:Fd} (h:d∈Dn f):d∈f:=(CJ f).mem_iff.1 h
theorem FdR.val {st:St} {d:Fd} {cs:List TV} (h:FdR st d cs):∃c,cs= .str d.key::c/\VlR st d.val c:=by
 cases d;unfold FdR at h;exact h
theorem Se {a b:B8} {u v:TV} {st:St} {K:Bool->St->Prop} (ha:SlR st 1 u a.length (A5 a)) (hb:SlR st 1 v b.length (A5 b)) (hl:a.length<=2000000) (hm:b.length<=2000000) (hk:∀r,(r=true↔a=b)->K r st):
  CallT PR Bx [u,v] [.one .bool] st K:=by
 have no:a≠b->K false st:=fun hne=>hk false ⟨fun h=>(by cases h),fun h=>absurd h hne⟩
 refine Ef _ _ st K (Aa ha.isSl (Aa hb.isSl ?_))
 rw[ha.lenS,hb.lenS]
 refine Ab (fun e=>no fun h=>e (by rw[h])) fun e=>Aa ha.isSl ⟨fun i u1 v1 n st'=>u=u1/\v=v1/\n=(a.length:Int)/\st=st'/\∃k:Nat,i=k/\k<=a.length/\a.take k=b.take k,fun i _ _ _ _=>(a.length-i).toNat,
  ⟨rfl,rfl,rfl,rfl,0,rfl,Nat.zero_le _,rfl⟩,?_⟩
 have el:a.length=b.length:=by omega
 rintro _ _ _ _ _ ⟨rfl,rfl,rfl,rfl,k,rfl,hka,hE⟩
 refine Ab (fun g=>?_) fun g=>?_
 ·rw[ha.lenZ,hb.lenZ,Int.toNat_natCast]
  refine⟨⟨by omega,by omega⟩,Ae (ha.ldb (by omega)) (BE ⟨⟨by omega,by omega⟩,Ae (hb.ldb (by omega)) (BE (Ab (fun g3=>no fun h=>?_) fun g3=>?_))⟩)⟩
  ·subst h;exact g3 rfl
  ·rw[Ai _ (by omega) (by omega)]
   refine⟨⟨rfl,rfl,rfl,rfl,k+1,by omega,by omega,?_⟩,by dsimp only;omega⟩
   refine Gr hE (List.getElem?_eq_getElem (by omega)) (List.getElem?_eq_getElem (by omega)) ?_
   have:=Decidable.not_not.1 g3
   exact UInt8.toNat.inj (by omega)
 ·have hkk:k=a.length:=by omega
  rw[hkk,List.take_length,el,List.take_length]at hE
  exact hk true ⟨fun _=>hE,fun _=>rfl⟩
theorem R0 {γ:Type} {g:Vl->γ} {st0 st:St} {u v one:TV} {l m:List Vl} {xl xm:List TV} (hke:Bq st0 st) (hu:SlR st0 13 u l.length xl) (hl:VsR st0 l xl) (hv:SlR st0 13 v m.length xm) (hm:VsR st0 m xm)
  (hll:l.length<=2000000) (hlm:m.length<=2000000) (hone:∀(a b:Vl) (ca cb:List TV) (st1:St) (K1:Bool->St->Prop),a∈l->b∈m->VlR st0 a ca->VlR st0 b cb->Al st st1->(∀r st2,Al st1 st2->(r=true↔g a=g b)->K1 r st2)->Et PR one [.agg ca,.agg cb] [.one .bool] st1 K1)
  {K:Bool->St->Prop} (hk:∀r st',Al st st'->(r=true↔l.map g=m.map g)->K r st'):CallT PR Ap [u,v,one] [.one .bool] st K:=by
 have no:∀st',Al st st'->l.map g≠m.map g->K false st':=fun st' e hne=>hk false st' e ⟨fun h=>(by cases h),fun h=>absurd h hne⟩
 refine Bd _ _ _ st K (Aa hu.isSl (Aa hv.isSl ?_))
 rw[hu.lenS,hv.lenS]
 refine Ab (fun e=>no st (Al.refl _) fun h=>e (by have:=congrArg List.length h;simp only[List.length_map]at this;rw[this])) fun e=>Aa hu.isSl ⟨fun i v1 o1 u1 n st'=>v=v1/\one=o1/\u=u1/\n=(l.length:Int)/\∃k:Nat,i=k/\k<=l.length/\Al st st'/\(l.map g).take k=(m.map g).take k,fun i _ _ _ _ _=>(l.length-i).toNat,
  ⟨rfl,rfl,rfl,rfl,0,rfl,Nat.zero_le _,Al.refl _,rfl⟩,?_⟩
 have el:l.length=m.length:=by omega
 rintro _ _ _ _ _ st1 ⟨rfl,rfl,rfl,rfl,k,rfl,hkl,e1,hE⟩
 have hke1:=hke.trans e1.keeps
 refine Ab (fun q=>?_) fun q=>?_
 ·refine NM hke1 hu hl rfl (by omega) fun s1 l1 f1 ub1 ul1 uf1 gw hw on=>Aa on (NM hke1 hv hm rfl (by omega) fun s2 l2 f2 ub2 ul2 uf2 gw2 hw2 on2=>Aa on2 ?_)
  refine hone _ _ _ _ st1 _ (DO gw) (DO gw2) hw hw2 e1 fun r st2 e2 hr=>AD (fun hb=>no st2 (e1.trans e2) fun h=>?_) fun hb=>?_
  ·have h1:=congrArg (fun z=>z[k]?) h
   simp only[List.getElem?_map,gw,gw2,Option.map_some,Option.some.injEq]at h1
   rw[hr.2 h1]at hb;cases hb
  ·rw[Ai _ (by omega) (by omega)]
   refine⟨⟨rfl,rfl,rfl,rfl,k+1,by omega,by omega,e1.trans e2,?_⟩,by dsimp only;omega⟩
   exact Gr hE (by rw[List.getElem?_map,gw];rfl) (by rw[List.getElem?_map,gw2];rfl) (hr.1 (by simpa using hb))
 ·refine hk true st1 e1 ⟨fun _=>?_,fun _=>rfl⟩
  have:k=l.length:=by omega
  rw[List.take_of_length_le (by simp;omega),List.take_of_length_le (by simp;omega)]at hE
  exact hE
theorem R3 {γ:Type} {g:Fd->γ} {st0 st:St} {u v one:TV} {l m:List Fd} {xl xm:List TV} (hke:Bq st0 st) (hu:SlR st0 14 u l.length xl) (hl:FsR st0 l xl) (hv:SlR st0 14 v m.length xm) (hm:FsR st0 m xm)
  (hll:l.length<=2000000) (hlm:m.length<=2000000) (hone:∀(a b:Fd) (ca cb:List TV) (st1:St) (K1:Bool->St->Prop),a∈l->b∈m->FdR st0 a ca->FdR st0 b cb->Al st st1->(∀r st2,Al st1 st2->(r=true↔g a=g b)->K1 r st2)->Et PR one [.agg ca,.agg cb] [.one .bool] st1 K1)
  {K:Bool->St->Prop} (hk:∀r st',Al st st'->(r=true↔l.map g=m.map g)->K r st'):CallT PR Aq [u,v,one] [.one .bool] st K:=by
 have no:∀st',Al st st'->l.map g≠m.map g->K false st':=fun st' e hne=>hk false st' e ⟨fun h=>(by cases h),fun h=>absurd h hne⟩
 refine Be _ _ _ st K (Aa hu.isSl (Aa hv.isSl ?_))
 rw[hu.lenS,hv.lenS]
 refine Ab (fun e=>no st (Al.refl _) fun h=>e (by have:=congrArg List.length h;simp only[List.length_map]at this;rw[this])) fun e=>Aa hu.isSl ⟨fun i v1 o1 u1 n st'=>v=v1/\one=o1/\u=u1/\n=(l.length:Int)/\∃k:Nat,i=k/\k<=l.length/\Al st st'/\(l.map g).take k=(m.map g).take k,fun i _ _ _ _ _=>(l.length-i).toNat,
  ⟨rfl,rfl,rfl,rfl,0,rfl,Nat.zero_le _,Al.refl _,rfl⟩,?_⟩
 have el:l.length=m.length:=by omega
 rintro _ _ _ _ _ st1 ⟨rfl,rfl,rfl,rfl,k,rfl,hkl,e1,hE⟩
 have hke1:=hke.trans e1.keeps
 refine Ab (fun q=>?_) fun q=>?_
 ·refine Ql hke1 hu hl rfl (by omega) fun k1 s1 l1 f1 ub1 ul1 uf1 gw hw on=>Aa on (Ql hke1 hv hm rfl (by omega) fun k2 s2 l2 f2 ub2 ul2 uf2 gw2 hw2 on2=>Aa on2 ?_)
  refine hone _ _ _ _ st1 _ (DO gw) (DO gw2) (by unfold FdR;exact⟨_,rfl,hw⟩) (by unfold FdR;exact⟨_,rfl,hw2⟩) e1 fun r st2 e2 hr=>AD (fun hb=>no st2 (e1.trans e2) fun h=>?_) fun hb=>?_
  ·have h1:=congrArg (fun z=>z[k]?) h
   simp only[List.getElem?_map,gw,gw2,Option.map_some,Option.some.injEq]at h1
   rw[hr.2 h1]at hb;cases hb
  ·rw[Ai _ (by omega) (by omega)]
   refine⟨⟨rfl,rfl,rfl,rfl,k+1,by omega,by omega,e1.trans e2,?_⟩,by dsimp only;omega⟩
   exact Gr hE (by rw[List.getElem?_map,gw];rfl) (by rw[List.getElem?_map,gw2];rfl) (hr.1 (by simpa using hb))
 ·refine hk true st1 e1 ⟨fun _=>?_,fun _=>rfl⟩
  have:k=l.length:=by omega
  rw[List.take_of_length_le (by simp;omega),List.take_of_length_le (by simp;omega)]at hE
  exact hE
def nrm (ex:Bool) (v:Vl):Vl:=if ex then v else Eo v
def JL (ex:Bool):Fd->B8×Vl
 | .mk k v=>(k,nrm ex v)
def flds (ex:Bool) (f:List Fd):List Fd:=if ex then f else Dn f
theorem nrmD_id (f:List Fd):∀g:List Fd,f.map (JL true)=g.map (JL true)->f=g:=by
 induction f with
 | nil=>intro g h;cases g with | nil=>rfl | cons b g=>simp at h
 | cons a f ih=>
  intro g h
  cases g with
  | nil=>simp at h
  | cons b g=>
   simp only[List.map_cons,List.cons.injEq]at h
   rw[ih g h.2]
   cases a;cases b
   have:=h.1
   simp only[JL,nrm,if_true,Prod.mk.injEq]at this
   rw[this.1,this.2]
theorem RT (f:List Fd):∀g:List Fd,f.map (JL false)=g.map (JL false)↔f.map G7=g.map G7:=by
 induction f with
 | nil=>intro g;cases g<;>simp
 | cons a f ih=>
  intro g
  cases g with
  | nil=>simp
  | cons b g=>
   simp only[List.map_cons,List.cons.injEq,ih g]
   cases a;cases b
   simp[JL,nrm,G7]
theorem nrm_mk (ex:Bool) (s t:Sc) (l m:List Vl) (f g:List Fd):nrm ex (.mk s l f)=nrm ex (.mk t m g)↔s=t/\l.map (nrm ex)=m.map (nrm ex)/\(flds ex f).map (JL ex)=(flds ex g).map (JL ex):=by
 cases ex
 ·have e1:nrm false=Eo:=funext fun v=>rfl
  rw[e1]
  unfold Eo
  rw[Im,Im,Dm,Dm,KY Jz,KY Jz]
  simp only[flds,Bool.false_eq_true,if_false,RT,Vl.mk.injEq]
 ·have e1:nrm true=id:=funext fun v=>rfl
  rw[e1]
  simp only[flds,if_true,List.map_id,id]
  constructor
  ·intro h;simp only[Vl.mk.injEq]at h;obtain⟨rfl,rfl,rfl⟩:=h;exact⟨rfl,rfl,rfl⟩
  ·rintro⟨rfl,rfl,h⟩;rw[nrmD_id _ _ h]
theorem stB_new {st:St} {o:HU} {T:Option Nat} {x y:TV} {k:St->Prop} (ho:o= .cells [x]) (hk:∀st',Al st st'->st'.box st.nb= .cells [y]->st.nb<st'.nb->k st'):stB (st.push o T) (.box st.nb 0) [y] k:=by
 subst ho
 refine⟨[x],by simp[St.push],by simp,?_⟩
 refine hk _ (((Al.refl st).push _ _).put (Nat.le_refl _) _) (by simp[St.put,setAll]) (by simp[St.put,St.push])
theorem SF (ex:Bool):∀(N:Nat) (v w:Vl),v.sz<=N->w.sz<=2000000->N<=2000000->(ex=false->KNd v/\KNd w)->∀{st0 st:St} {cs ds:List TV} {L:Int} {K:Bool->St->Prop},VlR st0 v cs->VlR st0 w ds->Bq st0 st->(v.cnt:Int)<=L->L<=100000000->
  (∀r st',Al st st'->(r=true↔nrm ex v=nrm ex w)->K r st')->CallT PR DX [.agg cs,.agg ds,.bool ex,.int .i64 L] [.one .bool] st K:=by
 intro N
 induction N with
 | zero=>intro v w h;have:=v.sz_pos;omega
 | succ N ih=>
 intro v w hN hW hN2 hV st0 st cs ds L K h h' hke hL hL2 hk
 cases v with
 | mk s l f=>
 cases w with
 | mk t m g=>
 have hsz:=szs s l f
 have hll:=Dw l
 have hfl:=De f
 have hsz':=szs t m g
 have hll':=Dw m
 have hfl':=De g
 have hpos:=(Vl.mk s l f).cnt_pos
 have hcnt:(Vl.mk s l f).cnt=1+Aw l+Av f:=by unfold Vl.cnt;rfl
 have ha:=h
 have hb:=h'
 obtain⟨ub,ul,uf,xl,xf,rfl,h1,h2,h3,h4,h5⟩:=h.cells
 obtain⟨wb,wl,wf,yl,yf,rfl,k1,k2,k3,k4,k5⟩:=h'.cells
 rw[nrm_mk]at hk
 obtain⟨st1,hst1⟩:∃st1,st1=(st.push (.cells [.bool ex]) (some 4)).push (.cells [.int .i64 L]) (some 3):=⟨_,rfl⟩
 have e1:Al st st1:=hst1▸((Al.refl st).push _ _).push _ _
 have hb1:st1.box st.nb= .cells [.bool ex]:=by rw[hst1];simp[St.push]
 have hb2:st1.box (st.nb+1)= .cells [.int .i64 L]:=by rw[hst1];simp[St.push]
 have hn1:st.nb+1<st1.nb:=by rw[hst1];simp[St.push]
 have hke1:=hke.trans e1.keeps
 have hldx:∀st',Al st1 st'->Ac st' [] (.t (.box st.nb 0)) 0=some (.bool ex):=fun st' e=>by simp[Ac,(e.box st.nb (by omega)).trans hb1]
 have hldl:∀st',Al st1 st'->Ac st' [] (.t (.box (st.nb+1) 0)) 0=some (.int .i64 L):=fun st' e=>by simp[Ac,(e.box (st.nb+1) hn1).trans hb2]
 have no:∀st',Al st1 st'->¬(s=t/\l.map (nrm ex)=m.map (nrm ex)/\(flds ex f).map (JL ex)=(flds ex g).map (JL ex))->K false st':=fun st' e hne=>hk false st' (e1.trans e) ⟨fun h=>(by cases h),fun h=>absurd h hne⟩
 refine LS _ _ _ _ _ _ _ _ _ _ _ _ _ _ _ _ _ _ _ _ _ _ _ _ _ _ ex L st K ?_
 rw[show(st.push (.cells [.bool ex]) (some 4)).nb=st.nb+1 from rfl,<-hst1]
 have r1:=Al.refl st1
 refine Ab (fun e=>no st1 r1 fun h=>e (by rw[h.1])) fun q1=>AD (fun e=>no st1 r1 fun h=>?_) fun q2=>AD (fun e=>no st1 r1 fun h=>?_) fun q3=>AD (fun e=>no st1 r1 fun h=>?_) fun q4=>Ab (fun e=>no st1 r1 fun h=>e (by rw[h.1])) fun q5=>?_
 ·rw[h.1]at e;simp at e
 ·rw[h.1]at e;simp at e
 ·rw[h.1]at e;simp at e
 refine Se (h1.keep hke1) (k1.keep hke1) (by omega) (by omega) fun r hr=>AD (fun e=>no st1 r1 fun h=>?_) fun q6=>?_
 ·rw[hr.2 (by rw[h.1])]at e;cases e
 have hst:s=t:=by
  simp only[Bool.not_eq_false',Bool.and_eq_true,beq_iff_eq,decide_eq_true_eq,and_true]at q2 q3 q4
  exact sc_eq (Decidable.not_not.1 q1) q2 q3.1 q3.2.1 q3.2.2 q4.1 q4.2.1 q4.2.2.1 q4.2.2.2 (Decidable.not_not.1 q5) (hr.1 (by simpa using q6))
 subst hst
 refine Ae (hldl st1 r1) (BE (Ab (fun g=>by omega) fun _=>Ae (hldx st1 r1) (EM ?_)))
 --The closure and both comparisons,from fields that are as asked for.
 have rest:∀(st2:St) (v1 v2:TV) (x1 x2:List TV),Al st1 st2->SlR st2 14 v1 (flds ex f).length x1->FsR st2 (flds ex f) x1->SlR st2 14 v2 (flds ex g).length x2->FsR st2 (flds ex g) x2->
   stB (st2.push (.cells [.nilFunc]) (some 47)) (.box st2.nb 0) [.func BX [.box st.nb 0,.box (st.nb+1) 0]] fun (st4:St)=>
    Ar (Ac st4 [] (.t (.box st2.nb 0)) 0) fun (v3:TV)=>CallT PR Ap [ul,wl,v3] [.one (.bool)] st4 fun (b3:Bool) (st5:St)=>
     BIf b3 (CallT PR Aq [v1,v2,(.func Di [(.box st2.nb 0)])] [.one (.bool)] st5 fun (b4:Bool) (st6:St)=>K (b4) st6) (K (false) st5):=by
  intro st2 v1 v2 x1 x2 e2 p1 p2 p3 p4
  refine stB_new (x:= .nilFunc) rfl fun st4 e4 hbx hnx=>?_
  have hldc:∀st',Al st4 st'->Ac st' [] (.t (.box st2.nb 0)) 0=some (.func BX [.box st.nb 0,.box (st.nb+1) 0]):=fun st' e=>by simp[Ac,(e.box st2.nb hnx).trans hbx]
  have e14:=e2.trans e4
  have hke4:=hke1.trans e14.keeps
  --the closure
  have clo:∀(a b:Vl) (ca cb:List TV) (st5:St) (K1:Bool->St->Prop) (st0':St),a.sz<=N->b.sz<=2000000->(ex=false->KNd a/\KNd b)->(a.cnt:Int)<=L-1->VlR st0' a ca->VlR st0' b cb->Bq st0' st5->Al st4 st5->(∀r st6,Al st5 st6->(r=true↔nrm ex a=nrm ex b)->K1 r st6)->
    CallT PR BX ([.agg ca,.agg cb]++[.box st.nb 0,.box (st.nb+1) 0]) [.one .bool] st5 K1:=by
   intro a b ca cb st5 K1 st0' hz1 hz2 hkn hc hra hrb hk5 e5 hK1
   have hra0:=hra
   have hrb0:=hrb
   obtain⟨s1,l1,f1⟩:=a
   obtain⟨s2,l2,f2⟩:=b
   obtain⟨_,_,_,_,_,rfl,_⟩:=hra.cells
   obtain⟨_,_,_,_,_,rfl,_⟩:=hrb.cells
   refine Ko _ _ _ _ _ _ _ _ _ _ _ _ _ _ _ _ _ _ _ _ _ _ _ _ _ _ _ _ st5 K1 (Ae (hldx st5 (e14.trans e5)) (EM (Ae (hldl st5 (e14.trans e5)) (BE ?_))))
   rw[Ai _ (by omega) (by omega)]
   exact ih _ _ hz1 hz2 (by omega) hkn hra0 hrb0 hk5 hc (by omega) hK1
  refine Ae (hldc st4 (Al.refl _)) (R0 (g:=nrm ex) hke4 h2 h3 k2 k3 (by omega) (by omega) (fun a b ca cb st5 K1 hma hmb hra hrb e5 hK1=>?_) fun r st5 e5 hr=>?_)
  ·have hsa:=KH hma
   have hsb:=KH hmb
   have hca:a.cnt<=Aw l:=by
    obtain⟨i,hi⟩:=List.getElem?_of_mem hma
    exact Jt hi
   refine clo a b ca cb st5 K1 st0 (by omega) (by omega) (fun e=>?_) (by omega) hra hrb (hke4.trans e5.keeps) e5 hK1
   have:=hV e
   unfold KNd at this
   exact⟨this.1.1.mem hma,this.2.1.mem hmb⟩
  ·refine AD (fun hb=>?_) fun hb=>no st5 (e14.trans e5) fun h=>?_
   ·have e25:=e4.trans e5
    refine R3 (g:=JL ex) e25.keeps p1 p2 p3 p4 ?_ ?_ (fun a b ca cb st6 K1 hma hmb hra hrb e6 hK1=>?_) fun r2 st6 e6 hr2=>hk r2 st6 (((e1.trans e14).trans e5).trans e6) ⟨fun h=>⟨rfl,hr.1 hb,hr2.1 h⟩,fun h=>hr2.2 h.2.2⟩
    ·unfold flds;split
     ·omega
     ·have:=(CJ f).length_eq;omega
    ·unfold flds;split
     ·omega
     ·have:=(CJ g).length_eq;omega
    ·have hma':a∈f:=by
      unfold flds at hma;split at hma
      ·exact hma
      ·exact Ov hma
     have hmb':b∈g:=by
      unfold flds at hmb;split at hmb
      ·exact hmb
      ·exact Ov hmb
     have hsa:=Jk hma'
     have hsb:=Jk hmb'
     have hca:a.cnt<=Av f:=by
      obtain⟨i,hi⟩:=List.getElem?_of_mem hma'
      exact JV hi
     obtain⟨ka,a⟩:=a
     obtain⟨kb,b⟩:=b
     have hz1:=szd ka a
     have hz2:=szd kb b
     have hc1:(Fd.mk ka a).cnt=a.cnt:=by unfold Fd.cnt;rfl
     obtain⟨ca',rfl,hra2⟩:=hra.val
     obtain⟨cb',rfl,hrb2⟩:=hrb.val
     have hra0:VlR st2 a ca':=hra2
     have hrb0:VlR st2 b cb':=hrb2
     have hcl:=clo a b ca' cb' st6 (fun r st7=>K1 r st7) st2 (by omega) (by omega) (fun e=>by
      have:=hV e
      unfold KNd at this
      have q1:=this.1.2.2.mem hma'
      have q2:=this.2.2.2.mem hmb'
      unfold TW at q1 q2
      exact⟨q1,q2⟩) (by omega) hra0 hrb0 (e25.trans e6).keeps (e5.trans e6)
     obtain⟨s1,l1,f1⟩:=a
     obtain⟨s2,l2,f2⟩:=b
     obtain⟨_,_,_,_,_,rfl,_⟩:=hra0.cells
     obtain⟨_,_,_,_,_,rfl,_⟩:=hrb0.cells
     refine Km _ _ _ _ _ _ _ _ _ _ _ _ _ _ _ _ _ _ _ _ _ _ _ _ _ _ _ _ _ st6 K1 (Ab (fun ek=>Ae (hldc st6 (e5.trans e6)) (hcl fun r st7 e7 hr7=>hK1 r st7 e7 ?_)) fun ek=>hK1 false st6 (Al.refl _) ⟨fun h=>(by cases h),fun h=>?_⟩)
     ·simp only[JL,Prod.mk.injEq]
      exact⟨fun h=>⟨ek,hr7.1 h⟩,fun h=>hr7.2 h.2⟩
     ·simp only[JL,Prod.mk.injEq]at h
      exact absurd h.1 ek
   ·rw[hr.2 h.2.1]at hb;cases hb
 refine AD (fun hex=>?_) fun hex=>?_
 ·have hex':ex=false:=by simpa using hex
  have hkn:=hV hex'
  unfold KNd at hkn
  have hfx:∀z,flds ex z=Dn z:=fun z=>by rw[hex'];rfl
  refine K6 (by omega) hkn.1.2.1 ha hke1 fun v1 st2 x1 e2 hs1 hr1=>?_
  refine K6 (by omega) hkn.2.2.1 hb (hke1.trans e2.keeps) fun v2 st3 x2 e3 hs2 hr2=>?_
  exact rest st3 v1 v2 x1 x2 (e2.trans e3) (by rw[hfx];exact hs1.keep e3.keeps) (by rw[hfx];exact FsR.keep e3.keeps hr1) (by rw[hfx];exact hs2) (by rw[hfx];exact hr2)
 ·have hex':ex=true:=by simpa using hex
  have hfx:∀z,flds ex z=z:=fun z=>by rw[hex'];rfl
  exact rest st1 uf wf xf yf r1 (by rw[hfx];exact h4.keep hke1) (by rw[hfx];exact FsR.keep hke1 h5) (by rw[hfx];exact k4.keep hke1) (by rw[hfx];exact FsR.keep hke1 k5)
theorem RR {v w:Vl} (hN:v.sz<=2000000) (hW:w.sz<=2000000) (hC:v.cnt<=65536) (hV:KNd v) (hV2:KNd w) {st0 st:St} {cs ds:List TV} {K:Bool->St->Prop} (h:VlR st0 v cs) (h':VlR st0 w ds) (hke:Bq st0 st) (hk:∀r st',Al st st'->(r=true↔Eo v=Eo w)->K r st'):
  CallT PR EZ [.agg cs,.agg ds] [.one .bool] st K:=by
 have ha:=h
 have hb:=h'
 cases v;cases w
 obtain⟨_,_,_,_,_,rfl,_⟩:=h.cells
 obtain⟨_,_,_,_,_,rfl,_⟩:=h'.cells
 exact KL _ _ _ _ _ _ _ _ _ _ _ _ _ _ _ _ _ _ _ _ _ _ _ _ _ _ st K (SF false 2000000 _ _ hN hW (by omega) (fun h=>⟨hV,hV2⟩) ha hb hke (by omega) (by omega) hk)
theorem DU {T b sz bytes:Nat} {st0 st:St} {v:TV} {n k:Nat} {xs ys:List TV} {K:TV->St->Prop} (e:Al st0 st) (hb:b=st0.nt) (h:Own b sz st v n xs) (hby:(n+k)*bytes<=140737488355328) (hys:k=0->ys=[])
  (hK:∀v' st',Al st0 st'->Bq st st'->Own b sz st' v' (n+k) (xs++ys)->K v' st'):Cx T sz bytes v k ys st K:=by
 subst hb
 have kk:∀st':St,st'.nb=st.nb->st'.box=st.box->Bq st st':=fun st' a b=>⟨Nat.le_of_eq a.symm,fun i _=>by rw[b]⟩
 rcases h with⟨rfl,rfl,rfl⟩ | ⟨tip,rfl,ht⟩
 ·simp only[Cx]
  cases k with
  | zero=>rw[hys rfl]at hK;exact hK _ _ e (kk _ rfl rfl) (.nil _ _ _)
  | succ m=>
   simp only[Ak]
   refine⟨by simpa using hby,hK _ _ (e.fresh _) (kk _ rfl rfl) ?_⟩
   simp only[List.nil_append,Nat.zero_add]
   exact Own.fresh _ _ e.nt
 ·simp only[Cx,Nat.beq_refl]
  refine⟨hby,?_⟩
  rcases ht with rfl | ⟨id,rfl,h1,h2,h3⟩
  ·cases k with
   | zero=>rw[hys rfl]at hK;simp only[List.append_nil]at hK;exact hK _ _ e (kk _ rfl rfl) (Own.full _ _ _ _ _)
   | succ m=>exact hK _ _ (e.fresh _) (kk _ rfl rfl) (Own.fresh _ _ e.nt)
  ·exact⟨h3,hK _ _ ((e.retire h1).fresh _) (kk _ rfl rfl) (Own.fresh (st:=st.retire id) _ _ e.nt)⟩
theorem FsR.snoc {st:St} {d:Fd} {cd:List TV} {l:List Fd} {xs:List TV} (h:FsR st l xs) (hd:FdR st d cd):FsR st (l++[d]) (xs++cd):=by
 obtain⟨cks,rfl,hall⟩:=h.chunks
 have:=FsR.of_chunks (hall.snoc hd)
 simpa using this
theorem B2 (st:St):Bq St.zero st:=⟨Nat.zero_le _,fun i hi=>absurd hi (Nat.not_lt_zero _)⟩
section
mutual
def lvV:Vl->Nat
 | .mk _ l f=>1+max (BS l) (BI f)
def BS:List Vl->Nat
 | []=>0
 | v::r=>max (lvV v) (BS r)
def lvD:Fd->Nat
 | .mk _ v=>lvV v
def BI:List Fd->Nat
 | []=>0
 | d::r=>max (lvD d) (BI r)
end
theorem lvVs_le {l:List Vl} {n:Nat}:BS l<=n↔∀v,v∈l->lvV v<=n:=by
 induction l with
 | nil=>unfold BS;simp
 | cons x r ih=>unfold BS;rw[Nat.max_le,ih];simp
end
theorem kb {s:Sc} {k:Nat} (h:s.kind=(k:Nat)) (hk:k<=7):s.kind.toNat.toUInt8.toNat=k:=by
 rw[h,Int.toNat_natCast,QU _ (by omega)]
section
mutual
theorem NT:∀(v:Vl) (d n:Nat),(CF d n v).2=0->lvV v<=49-d
 | .mk s l f,d,n,h=>by
  unfold CF at h
  split at h
  ·cases h
  split at h
  ·cases h
  split at h
  ·rename_i h1;exact absurd h h1
  ·obtain⟨h1,h2⟩:=Bv h
   have:=Pm l (d+1) (n+1) h1
   have:=Pr f (d+1) _ h2
   unfold lvV;omega
theorem Pm:∀(l:List Vl) (d n:Nat),(Cs d n l).2=0->BS l<=49-d
 | [],d,n,h=>by unfold BS;omega
 | v::r,d,n,h=>by
  unfold Cs at h
  obtain⟨h1,h2⟩:=Bv h
  have:=NT v d n h1
  have:=Pm r d _ h2
  unfold BS;omega
theorem chkD_lv:∀(x:Fd) (d n:Nat),(Jq d n x).2=0->lvD x<=49-d
 | .mk k v,d,n,h=>by unfold Jq at h;unfold lvD;exact NT v d n h
theorem Pr:∀(f:List Fd) (d n:Nat),(Cd d n f).2=0->BI f<=49-d
 | [],d,n,h=>by unfold BI;omega
 | x::r,d,n,h=>by
  unfold Cd at h
  obtain⟨h1,h2⟩:=Bv h
  have:=chkD_lv x d n h1
  have:=Pr r d _ h2
  unfold BI;omega
end
end
section
theorem G0 (l m:List Vl):Bz (l++m)=Bz l+Bz m:=by
 induction l with
 | nil=>simp[Bz]
 | cons v r ih=>simp only[List.cons_append,Bz,ih];omega
theorem Hm (l m:List Fd):Bs (l++m)=Bs l+Bs m:=by
 induction l with
 | nil=>simp[Bs]
 | cons v r ih=>simp only[List.cons_append,Bs,ih];omega
theorem DR (l m:List Fd):Av (l++m)=Av l+Av m:=by
 induction l with
 | nil=>simp[Av]
 | cons v r ih=>simp only[List.cons_append,Av,ih];omega
theorem Mi {l:List Vl} {k:Nat} {w:Vl} (h:l[k]? =some w):Bz (l.take (k+1))=Bz (l.take k)+w.sz:=by
 rw[List.take_add_one,h,G0];simp[Bz]
theorem MH {l:List Fd} {k:Nat} {w:Fd} (h:l[k]? =some w):Bs (l.take (k+1))=Bs (l.take k)+w.sz:=by
 rw[List.take_add_one,h,Hm];simp[Bs]
theorem Lq {l:List Fd} {k:Nat} {w:Fd} (h:l[k]? =some w):Av (l.take (k+1))=Av (l.take k)+w.cnt:=by
 rw[List.take_add_one,h,DR];simp[Av]
theorem vcnt (s:Sc) (l:List Vl) (f:List Fd):(Vl.mk s l f).cnt=1+Aw l+Av f:=by unfold Vl.cnt;rfl
theorem fcnt (k:B8) (v:Vl):(Fd.mk k v).cnt=v.cnt:=by unfold Fd.cnt;rfl
def RmOk (v:Vl) (n r:Int):Prop:=r= -1∨(0<=r/\(v.sz:Int)+3000+r*12001<=n*12001/\(v.cnt:Int)+r<=n)
theorem RM:∀(N:Nat) (v:Vl),v.sz<=N->∀{st:St} {cs:List TV} {D n:Int} {K:Int->St->Prop},VlR St.zero v cs-> -1000<=D->D<=1000-> -1<=n->n<=1000->(∀r,RmOk v n r->K r st)->
  CallT PR Bc [.agg cs,.int .i64 D,.int .i64 n,.int .i64 3000] [.one (.int .i64)] st K:=by
 intro N
 induction N with
 | zero=>intro v h;have:=v.sz_pos;omega
 | succ N ih=>
 intro v hN st cs D n K h hD1 hD2 hn1 hn2 hk
 cases v with
 | mk s l f=>
 have hsz:=szs s l f
 have hct:=vcnt s l f
 obtain⟨ub,ul,uf,xl,xf,rfl,h1,h2,h3,h4,h5⟩:=h.cells
 have no:K (-1) st:=hk _ (.inl rfl)
 refine G3 _ _ _ _ _ _ _ _ _ _ _ _ _ D n 3000 st K (Ab (fun _=>no) fun g1=>Ab (fun _=>no) fun g2=>Ab (fun _=>no) fun g3=>Aa h1.isSl (Ab (fun _=>no) fun g4=>Ab (fun _=>no) fun g5=>Aa h2.isSl (Ab (fun _=>no) fun g6=>Aa h4.isSl (Ab (fun _=>no) fun g7=>?_))))
 rw[h1.lenS]at g4
 rw[h2.lenS]at g6
 rw[h4.lenS]at g7
 rw[Ai (n-1) (by omega) (by omega)]
 refine⟨fun zn zi zd zb k bo ng dg ex tk td tn tz tx u0 u1 u2 st'=>ul=u1/\uf=u2/\D=zd/\3000=zb/\st=st'/\∃k:Nat,zi=(k:Int)/\k<=l.length/\ -1<=zn/\zn<=n-1/\(0<=zn->(Bz (l.take k):Int)+zn*12001<=(n-1)*12001/\(Aw (l.take k):Int)+zn<=n-1),
  fun _ zi _ _ _ _ _ _ _ _ _ _ _ _ _ _ _ _=>(l.length-zi).toNat,⟨rfl,rfl,rfl,rfl,rfl,0,rfl,Nat.zero_le _,by omega,by omega,fun _=>by rw[List.take_zero];simp[Bz,Aw]⟩,?_⟩
 rintro zn _ _ _ _ _ _ _ _ _ _ _ _ _ _ _ _ _ ⟨rfl,rfl,rfl,rfl,rfl,k,rfl,hkl,z1,z2,z3⟩
 refine Aa h2.isSl (Ab (fun g=>Ab (fun g0=>?_) fun g0=>?q1) fun g=>?q2)
 ·rw[h2.lenS]at g
  refine NM (B2 _) h2 h3 rfl (by omega) fun s' l' f' ub1 ul1 uf1 gw hw on=>?_
  have hwsz:=EQ gw
  have e1:=Mi gw
  have e2:=Gm gw
  obtain⟨z4,z5⟩:=z3 g0
  rw[Ai ((k:Int)+1) (by omega) (by omega),Ai (D-1) (by omega) (by omega)]
  refine ih _ (by omega) hw (by omega) (by omega) (by omega) (by omega) fun r hr=>⟨⟨rfl,rfl,rfl,rfl,rfl,k+1,by omega,by omega,?_,?_,?_⟩,by dsimp only;omega⟩
  ·rcases hr with hr | hr<;>omega
  ·rcases hr with hr | hr
   ·omega
   ·have:=Vl.sz_pos (.mk s' l' f');omega
  ·intro hr0
   rcases hr with hr | hr
   ·omega
   ·rw[e1,e2];omega
 case q1 | q2=>
  have zz:zn= -1∨(Bz l:Int)+zn*12001<=(n-1)*12001/\(Aw l:Int)+zn<=n-1:=by
   by_cases hz:0<=zn
   ·right
    have hkk:k=l.length:=by
     first
      | (exfalso;exact g0 hz)
      | (rw[h2.lenS]at g;omega)
    rw[hkk,List.take_of_length_le (Nat.le_refl _)]at z3
    exact z3 hz
   ·left;omega
  refine⟨fun yn zi zd zb k bo ng dg ex tk td tn tz tx u0 u1 u2 st'=>uf=u2/\D=zd/\3000=zb/\st=st'/\∃k:Nat,zi=(k:Int)/\k<=f.length/\ -1<=yn/\yn<=n-1/\(0<=yn->(Bz l:Int)+Bs (f.take k)+yn*12001<=(n-1)*12001/\(Aw l:Int)+Av (f.take k)+yn<=n-1),
   fun _ zi _ _ _ _ _ _ _ _ _ _ _ _ _ _ _ _=>(f.length-zi).toNat,⟨rfl,rfl,rfl,rfl,0,rfl,Nat.zero_le _,by omega,by omega,fun hz=>by rw[List.take_zero];simp only[Bs,Av];omega⟩,?_⟩
  rintro yn _ _ _ _ _ _ _ _ _ _ _ _ _ _ _ _ _ ⟨rfl,rfl,rfl,rfl,k2,rfl,hkl2,y1,y2,y3⟩
  have fin:(k2=f.length∨¬0<=yn)->K yn st:=by
   intro hor
   refine hk _ ?_
   by_cases hy:0<=yn
   ·rcases hor with hor | hor
    ·obtain⟨y4,y5⟩:=y3 hy
     rw[hor,List.take_of_length_le (Nat.le_refl _)]at y4 y5
     exact .inr ⟨hy,by rw[hsz];omega,by rw[hct];omega⟩
    ·exact absurd hy hor
   ·exact .inl (by omega)
  refine Aa h4.isSl (Ab (fun g8=>Ab (fun g9=>?_) fun g9=>fin (.inr g9)) fun g8=>fin (.inl (by rw[h4.lenS]at g8;omega)))
  rw[h4.lenS]at g8
  have hlt:k2<f.length:=by omega
  obtain⟨dd,hdd⟩:∃d,f[k2]? =some d:=⟨_,List.getElem?_eq_getElem hlt⟩
  obtain⟨key,w⟩:=dd
  obtain⟨s',l',f'⟩:=w
  have hky:=keyLd (st:=st) (B2 st) h4 h5 hdd
  refine⟨⟨by omega,by rw[h4.lenZ];omega⟩,Aa (h4.isPtr hlt) (Ae hky (E7 (Ab (fun _=>no) fun g10=>?_)))⟩
  refine val14 (B2 _) h4 h5 rfl hlt fun key' s' l' f' ub1 ul1 uf1 gw hw on=>?_
  rw[hdd]at gw
  cases gw
  have hwsz:=D8 hdd
  have e1:=MH hdd
  have e2:=Lq hdd
  have e3:=szd key (.mk s' l' f')
  have e4:=fcnt key (.mk s' l' f')
  obtain⟨y4,y5⟩:=y3 g9
  have g10:¬3000<(key.length:Int):=g10
  rw[Ai ((k2:Int)+1) (by omega) (by omega),Ai (D-1) (by omega) (by omega)]
  refine ih _ (by omega) hw (by omega) (by omega) (by omega) (by omega) fun r hr=>⟨⟨rfl,rfl,rfl,rfl,k2+1,by omega,by omega,?_,?_,?_⟩,by dsimp only;omega⟩
  ·rcases hr with hr | hr<;>omega
  ·rcases hr with hr | hr
   ·omega
   ·have:=Vl.sz_pos (.mk s' l' f');omega
  ·intro hr0
   rcases hr with hr | hr
   ·omega
   ·rw[e1,e2];omega
theorem Oc:∀(N:Nat) (v:Vl),v.sz<=N->N<=2000000->∀{st:St} {cs:List TV} {K:Int->St->Prop},VlR St.zero v cs->(∀w:Int,(v.cnt:Int)+w=v.sz->K w st)->
  CallT PR Bi [.agg cs] [.one (.int .i64)] st K:=by
 intro N
 induction N with
 | zero=>intro v h;have:=v.sz_pos;omega
 | succ N ih=>
 intro v hN hN2 st cs K h hk
 cases v with
 | mk s l f=>
 have hsz:=szs s l f
 have hct:=vcnt s l f
 have hll:=Dw l
 have hfl:=De f
 have hc1:=KE l
 have hc2:=KF f
 obtain⟨ub,ul,uf,xl,xf,rfl,h1,h2,h3,h4,h5⟩:=h.cells
 refine Gn _ _ _ _ _ _ _ _ _ _ _ _ _ st K (Aa h1.isSl ?_)
 refine⟨fun zn zi k bo ng dg ex tk td tn tz tx u0 u1 u2 st'=>ul=u1/\uf=u2/\st=st'/\∃k:Nat,zi=(k:Int)/\k<=l.length/\zn+(Aw (l.take k):Int)=(s.bytes.length:Int)+s.text.length+s.dg.length+Bz (l.take k),
  fun _ zi _ _ _ _ _ _ _ _ _ _ _ _ _ _=>(l.length-zi).toNat,⟨rfl,rfl,rfl,0,rfl,Nat.zero_le _,?_⟩,?_⟩
 ·rw[h1.lenS,Ai ((s.text.length:Int)+(s.bytes.length:Nat)) (by omega) (by omega),Ai _ (by omega) (by omega),List.take_zero]
  simp only[Aw,Bz];omega
 rintro zn _ _ _ _ _ _ _ _ _ _ _ _ _ _ _ ⟨rfl,rfl,rfl,k,rfl,hkl,z1⟩
 have b1:=Da l k
 have b2:Bz (l.take k)<=Bz l:=by
  conv=>rhs;rw[<-List.take_append_drop k l,G0]
  omega
 have b3:=KE (l.take k)
 refine Aa h2.isSl (Ab (fun g=>?_) fun g=>?_)
 ·rw[h2.lenS]at g
  refine NM (B2 _) h2 h3 rfl (by omega) fun s' l' f' ub1 ul1 uf1 gw hw on=>?_
  have hwsz:=EQ gw
  have e1:=Mi gw
  have e2:=Gm gw
  have e3:=Hq (.mk s' l' f')
  rw[Ai ((k:Int)+1) (by omega) (by omega)]
  refine ih _ (by omega) (by omega) hw fun r hr=>⟨⟨rfl,rfl,rfl,k+1,by omega,by omega,?_⟩,by dsimp only;omega⟩
  rw[Ai _ (by omega) (by omega),e1,e2];omega
 ·have hkk:k=l.length:=by rw[h2.lenS]at g;omega
  rw[hkk,List.take_of_length_le (Nat.le_refl _)]at z1
  refine⟨fun yn zi k bo ng dg ex tk td tn tz tx u0 u1 u2 st'=>uf=u2/\st=st'/\∃k:Nat,zi=(k:Int)/\k<=f.length/\yn+(Aw l:Int)+Av (f.take k)=(s.bytes.length:Int)+s.text.length+s.dg.length+Bz l+Bs (f.take k),
   fun _ zi _ _ _ _ _ _ _ _ _ _ _ _ _ _=>(f.length-zi).toNat,⟨rfl,rfl,0,rfl,Nat.zero_le _,by rw[List.take_zero];simp only[Av,Bs];omega⟩,?_⟩
  rintro yn _ _ _ _ _ _ _ _ _ _ _ _ _ _ _ ⟨rfl,rfl,k2,rfl,hkl2,y1⟩
  have b4:Av (f.take k2)<=Av f:=by
   conv=>rhs;rw[<-List.take_append_drop k2 f,DR]
   omega
  have b5:Bs (f.take k2)<=Bs f:=by
   conv=>rhs;rw[<-List.take_append_drop k2 f,Hm]
   omega
  have b6:=KF (f.take k2)
  refine Aa h4.isSl (Ab (fun g8=>?_) fun g8=>?_)
  case refine_2=>
   have hkk2:k2=f.length:=by rw[h4.lenS]at g8;omega
   rw[hkk2,List.take_of_length_le (Nat.le_refl _)]at y1
   exact hk _ (by rw[hsz,hct];omega)
  rw[h4.lenS]at g8
  have hlt:k2<f.length:=by omega
  obtain⟨dd,hdd⟩:∃d,f[k2]? =some d:=⟨_,List.getElem?_eq_getElem hlt⟩
  obtain⟨key,w⟩:=dd
  obtain⟨s',l',f'⟩:=w
  have hky:∀st,Ac st [] (.t (AV (ixT 14 uf k2) 0)) 0=some (.str key):=fun st=>keyLd (st:=st) (B2 st) h4 h5 hdd
  refine⟨⟨by omega,by rw[h4.lenZ];omega⟩,Aa (h4.isPtr hlt) (Ae (hky _) (E7 ?_))⟩
  refine val14 (B2 _) h4 h5 rfl hlt fun key' s' l' f' ub1 ul1 uf1 gw hw on=>?_
  rw[hdd]at gw
  cases gw
  have hwsz:=D8 hdd
  have e1:=MH hdd
  have e2:=Lq hdd
  have e3:=szd key (.mk s' l' f')
  have e4:=fcnt key (.mk s' l' f')
  have e5:=Hq (.mk s' l' f')
  rw[Ai ((k2:Int)+1) (by omega) (by omega)]
  refine ih _ (by omega) (by omega) hw fun r hr=>⟨hky _,⟨rfl,rfl,k2+1,by omega,by omega,?_⟩,by dsimp only;omega⟩
  rw[Ai (yn+_) (by omega) (by omega),Ai _ (by omega) (by omega),e1,e2];omega
theorem PM {v:Vl} {cs:List TV} {st:St} {K:Bool->St->Prop} (h:VlR St.zero v cs) (hk:∀b:Bool,(b=true->v.sz<=20150/\v.cnt<=150)->K b st):
  CallT PR Cw [.agg cs] [.one .bool] st K:=by
 have h0:=h
 obtain⟨s,l,f⟩:=v
 obtain⟨ub,ul,uf,xl,xf,rfl,_⟩:=h.cells
 refine GW _ _ _ _ _ _ _ _ _ _ _ _ _ st K (RM _ _ (Nat.le_refl _) h0 (by decide) (by decide) (by decide) (by decide) fun r hr=>Ab (fun g=>?_) fun g=>hk false (fun h=>by cases h))
 rcases hr with hr | ⟨hr0,hr1,hr2⟩
 ·omega
 refine Oc 2000000 _ (by omega) (Nat.le_refl _) h0 fun w hw=>hk _ fun hb=>?_
 rw[decide_eq_true_eq]at hb
 omega
mutual
theorem NS:∀(v:Vl) (d n:Nat),Az v->d+lvV v<=49->n+v.cnt<=65536->CF d n v=(n+v.cnt,0)
 | .mk s l f,d,n,h,h1,h2=>by
  unfold Az at h
  obtain⟨g1,g2,g3⟩:=h
  unfold lvV at h1
  unfold Vl.cnt at h2⊢
  have e1:=Pl l (d+1) (n+1) g2 (by omega) (by omega)
  have e2:=Pq f (d+1) (n+1+Aw l) g3 (by omega) (by omega)
  rw[Ro (by omega) (by omega) (Mr.2 g1),e1,Cn rfl]
  show Cd (d+1) (n+1+Aw l) f=_
  rw[e2]
  congr 1;omega
theorem Pl:∀(l:List Vl) (d n:Nat),AX l->(l≠ []->d+BS l<=49)->n+Aw l<=65536->Cs d n l=(n+Aw l,0)
 | [],d,n,_,_,_=>by unfold Cs Aw;rfl
 | v::r,d,n,h,h1,h2=>by
  unfold AX at h
  have h1:=h1 (by simp)
  unfold BS at h1
  unfold Aw at h2⊢
  have e1:=NS v d n h.1 (by omega) (by omega)
  have e2:=Pl r d (n+v.cnt) h.2 (fun _=>by omega) (by omega)
  rw[LG,e1,Cn rfl]
  show Cs d (n+v.cnt) r=_
  rw[e2]
  congr 1;omega
theorem chkD_of:∀(x:Fd) (d n:Nat),Cl x->d+lvD x<=49->n+x.cnt<=65536->Jq d n x=(n+x.cnt,0)
 | .mk k v,d,n,h,h1,h2=>by
  unfold Cl at h
  unfold lvD at h1
  unfold Fd.cnt at h2⊢
  unfold Jq
  exact NS v d n h h1 h2
theorem Pq:∀(l:List Fd) (d n:Nat),Bb l->(l≠ []->d+BI l<=49)->n+Av l<=65536->Cd d n l=(n+Av l,0)
 | [],d,n,_,_,_=>by unfold Cd Av;rfl
 | x::r,d,n,h,h1,h2=>by
  unfold Bb at h
  have h1:=h1 (by simp)
  unfold BI at h1
  unfold Av at h2⊢
  have e1:=chkD_of x d n h.1 (by omega) (by omega)
  have e2:=Pq r d (n+x.cnt) h.2 (fun _=>by omega) (by omega)
  unfold Cd
  rw[e1,Cn rfl]
  show Cd d (n+x.cnt) r=_
  rw[e2]
  congr 1;omega
end
theorem TH {v:Vl} (h:Az v) (hl:lvV v<=48) (hc:v.cnt<=65536):AQ v=0:=by
 unfold AQ
 rw[NS v 1 0 h (by omega) (by omega)]
theorem O1:∀(f:List Fd) (seen:List B8),Cm f->(∀d,d∈f->d.key∉seen/\U8 d.key/\d.key.length<=1024)->Dd seen f=0
 | [],seen,_,_=>rfl
 | d::r,seen,hn,h=>by
  obtain⟨h1,h2,h3⟩:=h d (.head _)
  unfold Dd
  unfold Cm at hn
  rw[List.map_cons,List.nodup_cons]at hn
  rw[if_pos h2,if_neg (by omega),if_neg h1]
  refine O1 r _ hn.2 fun x hx=>?_
  obtain⟨g1,g2,g3⟩:=h x (.tail _ hx)
  refine⟨fun hm=>?_,g2,g3⟩
  rcases List.mem_cons.1 hm with he | hm
  ·exact hn.1 (he▸List.mem_map.2 ⟨x,hx,rfl⟩)
  ·exact g1 hm
end
section
open Go.RowKit (Below)
def St.upto (st' st:St):St:={st' with nb:=st.nb,box:=st.box}
def Ghost.upto (g:Ghost) (w:World) (n:Nat):Ghost:=
 {g with nb:=n,S:=fun a=>g.S a∨∃b,n<=b/\b<g.nb/\a.block=g.bk b/\a.spot=none/\∃v,w.cell? a=some v}
theorem Sq {st st':St} (e:Al st st'):Al st (st'.upto st):=⟨Nat.le_refl _,fun _ _=>rfl,e.nt,e.live,e.ty,e.bt⟩
theorem Rel.lower {g g1:Ghost} {w w1:World} {x:TV} {u0:Value} (h:Rel g w x u0):∀{u:Value},Rel g1 w1 x u->Rel (g1.upto w1 g.nb) w1 x u:=by
 induction h with
 | undef=>intro u h;cases h;exact .undef
 | junk v=>intro u h;exact .junk u
 | int k n=>intro u h;cases h;exact .int k n
 | bool b=>intro u h;cases h;exact .bool b
 | str l=>intro u h;cases h;exact .str l
 | nilPtr=>intro u h;cases h;exact .nilPtr
 | nilSlice=>intro u h;cases h;exact .nilSlice
 | nilMap=>intro u h;cases h;exact .nilMap
 | nilFunc=>intro u h;cases h;exact .nilFunc
 | nilIface=>intro u h;cases h;exact .nilIface
 | list sz tip n xs b o cap us hl hn hc hr ht ih=>
  intro u h
  cases h with
  | list _ _ _ _ b1 o1 cap1 us1 hl1 hn1 hc1 hr1 ht1=>
   exact .list sz tip n xs b1 o1 cap1 us1 hl1 hn1 (fun i hi=>⟨.inl (hc1 i hi).1,(hc1 i hi).2⟩) (fun i hi=>ih i hi (hr1 i hi)) ht1
  | listE _ _ a ht1=>exact .listE sz tip a ht1
 | listE sz tip a ht=>
  intro u h
  cases h with
  | list _ _ _ _ b1 o1 cap1 us1 hl1 hn1 hc1 hr1 ht1=>
   exact .list sz tip 0 [] b1 o1 cap1 us1 hl1 hn1 (fun i hi=>absurd hi (Nat.not_lt_zero _)) (fun i hi=>absurd hi (Nat.not_lt_zero _)) ht1
  | listE _ _ a ht1=>exact .listE sz tip a ht1
 | ms sz b off n cap h hn=>
  intro u h1
  cases h1
  exact .ms (g:=g1.upto w1 g.nb) sz b off n cap h hn
 | box b off h=>
  intro u h1
  cases h1
  exact .box (g:=g1.upto w1 g.nb) b off h
 | rptr xs b o us hc hr ih=>
  intro u h
  cases h with
  | rptr _ b1 o1 us1 hc1 hr1=>exact .rptr xs b1 o1 us1 (fun i hi=>⟨.inl (hc1 i hi).1,(hc1 i hi).2⟩) fun i hi=>ih i hi (hr1 i hi)
 | agg xs vs hl hr ih=>
  intro u h
  cases h with
  | agg _ vs1 hl1 hr1=>exact .agg xs vs1 hl1 fun i hi=>ih i hi (hr1 i hi)
 | tuple xs vs hl hr ih=>
  intro u h
  cases h with
  | tuple _ vs1 hl1 hr1=>exact .tuple xs vs1 hl1 fun i hi=>ih i hi (hr1 i hi)
 | func f xs vs hl hr ih=>
  intro u h
  cases h with
  | func _ _ vs1 hl1 hr1=>exact .func f xs vs1 hl1 fun i hi=>ih i hi (hr1 i hi)
 | iface t v u0 h ih=>
  intro u h1
  cases h1 with
  | iface _ _ u1 h2=>exact .iface t v u1 (ih h2)
 | map b h=>
  intro u h1
  cases h1
  exact .map (g:=g1.upto w1 g.nb) b h
 | sptr v a n cap hc h ih=>
  intro u h1
  cases h1 with
  | sptr _ a1 n1 cap1 hc1 h2=>exact .sptr v a1 n1 cap1 hc1 (ih h2)
theorem AL.lower {g g1:Ghost} {w w1:World} {xs:List TV} {us0 us:List Value} (h0:AL g w xs us0) (h:AL g1 w1 xs us):AL (g1.upto w1 g.nb) w1 xs us:=
 ⟨h.1,fun i hi=>(h0.2 i hi).lower (h.2 i hi)⟩
theorem FS.lower {g g1:Ghost} {w w1:World} {b b1:Nat} {o:HU} (h0:FS g w b o) (h:FS g1 w1 b1 o):FS (g1.upto w1 g.nb) w1 b1 o:=by
 cases o with
 | dead=>trivial
 | cells l=>
  obtain⟨cs0,_,hr0⟩:=h0
  obtain⟨cs,hc,hr⟩:=h
  exact⟨cs,hc,hr0.lower hr⟩
 | iter s pos=>exact h
 | map es=>
  obtain⟨ms0,c0,_,_,hm0⟩:=h0
  obtain⟨ms,c,hc,hl,hm⟩:=h
  refine⟨ms,c,hc,hl,fun i k v hi=>?_⟩
  obtain⟨e0,_,_,h3⟩:=hm0 i k v hi
  obtain⟨e,g1,g2,g3⟩:=hm i k v hi
  exact⟨e,g1,g2,h3.lower g3⟩
 | pmap es=>
  obtain⟨ms0,c0,_,_,hm0⟩:=h0
  obtain⟨ms,c,hc,hl,hm⟩:=h
  refine⟨ms,c,hc,hl,fun i k v hi=>?_⟩
  obtain⟨hk0,e0,_,_,h3⟩:=hm0 i k v hi
  obtain⟨hk,e,g1,g2,g3⟩:=hm i k v hi
  exact⟨hk0,e,g1,g2,h3.lower g3⟩
theorem Sim.upto {g g':Ghost} {st st':St} {w w':World} (s:Sim g st [] w) (s':Sim g' st' [] w') (e:Ext g w g' w') (x:Al st st'):Sim (g'.upto w' st.nb) (st'.upto st) [] w'/\Ext g w (g'.upto w' st.nb) w':=by
 have hnb:st.nb<=g'.nb:=by rw[s'.nb];exact x.nb
 have dom:∀k,Dom (st'.upto st) [] k->Dom st' [] k:=fun k hk=>by
  cases k with
  | box b=>exact Nat.lt_of_lt_of_le (show b<st.nb from hk) x.nb
  | loc i=>exact hk
 have domO:∀k,Dom (st'.upto st) [] k->Dom st [] k:=fun k hk=>by
  cases k with
  | box b=>exact hk
  | loc i=>exact hk
 refine⟨⟨rfl,s'.nt,s'.below,s'.fits,fun k hk=>?_,fun k k' h h' he=>s'.inj k k' (dom k h) (dom k' h') (by cases k<;>cases k'<;>exact he),fun k hk=>?_,s'.own,fun id b l h hid=>?_,s'.spApart,s'.spLt,fun a ha=>?_,fun b hb=>?_,s'.spTop,s'.spTy,fun b T hb ht=>?_,s'.glob⟩,?_⟩
 ·have h0:=s.obj k (domO k hk)
  have h1:=s'.obj k (dom k hk)
  cases k with
  | box b=>
   have hb:b<st.nb:=hk
   have h1':FS g' w' (g'.bk b) (st.box b):=by rw[<-x.box b hb];exact h1
   have h2:=FS.lower (g:=g) (w:=w) (b:=g.at (.box b)) h0 h1'
   rw[s.nb]at h2
   exact h2
  | loc i=>obtain⟨l,hl⟩:=hk;simp at hl
 ·have:=s'.lo k (dom k hk)
  cases k<;>exact this
 ·obtain⟨h1,h2,h3,h4,h5⟩:=s'.spCell id b l h hid
  exact⟨h1,h2,h3,fun k hk=>by have:=h4 k (dom k hk);cases k<;>exact this,h5⟩
 ·rcases ha with ha | ⟨b,h1,h2,h3,h4,h5⟩
  ·obtain⟨q1,q2,q3,q4⟩:=s'.sCell a ha
   exact⟨q1,q2,fun k hk=>by have:=q3 k (dom k hk);cases k<;>exact this,q4⟩
  ·have hd:Dom st' [] (.box b):=by show b<st'.nb;rw[<-s'.nb];exact h2
   refine⟨h4,h5,fun k hk hc=>?_,fun id l h hid _=>?_⟩
   ·cases k with
    | box b'=>
     have hb':b'<st.nb:=hk
     have:=s'.inj (.box b') (.box b) (dom _ hk) hd (by rw[h3]at hc;exact hc)
     cases this
     omega
    | loc i=>obtain⟨l,hl⟩:=hk;simp at hl
   ·have:=(s'.spCell id a.block l h hid).2.2.2.1 (.box b) hd
    exact this h3.symm
 ·obtain⟨h1,h2,h3,h4⟩:=s'.protOk b hb
  refine⟨h1,fun k hk=>by have:=h2 k (dom k hk);cases k<;>exact this,h3,fun a ha=>?_⟩
  rcases ha with ha | ⟨c,q1,q2,q3,q4,q5⟩
  ·exact h4 a ha
  ·rw[q3]
   exact h2 (.box c) (by show c<st'.nb;rw[<-s'.nb];exact q2)
 ·have hb':b<st.nb:=hb
  exact s'.bTy b T (Nat.lt_of_lt_of_le hb' x.nb) ht
 ·exact⟨e.base,e.w0,e.size,by show g.nb<=st.nb;rw[s.nb];exact Nat.le_refl _,e.bk,e.nt,e.sp,fun a ha=>⟨.inl (e.S a ha).1,(e.S a ha).2⟩,e.prot,e.protEq⟩
def FR (st st':St) (r r':TV):Prop:=∀(g':Ghost) (w':World) (u:Value),Sim g' st' [] w'->Rel g' w' r u->Rel (g'.upto w' st.nb) w' r' u
theorem C9.settle {P:Program} {f:FuncId} {args:List TV} {st:St} {R:TV->St->Prop} (h:C9 P f args st fun r st'=>Al st st'/\∃r',FR st st' r r'/\R r' (st'.upto st)):C9 P f args st R:=by
 refine⟨fun g w vargs s hr=>(h.run g w vargs s hr).mono ?_⟩
 rintro v w' ⟨r,st',g',⟨x,r',hs,hR⟩,s',hrel,e⟩
 obtain⟨s2,e2⟩:=Sim.upto s s' e x
 exact⟨r',st'.upto st,g'.upto w' st.nb,hR,s2,hs g' w' v s' hrel,e2⟩
theorem CallT.settle {P:Program} {f:FuncId} {args:List TV} {sh:List RTy} {st:St} {K:FunR sh (St->Prop)} (h:CallT P f args sh st (Fa sh fun r st'=>Al st st'/\∃r',FR st st' r r'/\Ek sh r' K fun p=>p (st'.upto st))):CallT P f args sh st K:=
 C9.settle (C9.mono h fun r st' hd=>Jn (F:=fun r st'=>Al st st'/\∃r',FR st st' r r'/\Ek sh r' K fun p=>p (st'.upto st)) (k:=fun p=>p st') hd)
def EK (st st':St) (xs xs':List TV):Prop:=xs'.length=xs.length/\∀(g':Ghost) (w':World),Sim g' st' [] w'->∀us,AL g' w' xs us->AL (g'.upto w' st.nb) w' xs' us
theorem AL.split {g:Ghost} {w:World} {a b:List TV} {us:List Value} (h:AL g w (a++b) us):AL g w a (us.take a.length)/\AL g w b (us.drop a.length):=by
 have h1:=h.take a.length
 have h2:=h.drop a.length
 rw[List.take_left]at h1
 rw[List.drop_left]at h2
 exact⟨h1,h2⟩
theorem EK.nil (st st':St):EK st st' [] []:=⟨rfl,fun g' w' _ us h=>⟨h.1,fun i hi=>absurd hi (Nat.not_lt_zero _)⟩⟩
theorem EK.app {st st':St} {a b a' b':List TV} (h:EK st st' a a') (k:EK st st' b b'):EK st st' (a++b) (a'++b'):=by
 refine⟨by rw[List.length_append,List.length_append,h.1,k.1],fun g' w' s us hr=>?_⟩
 obtain⟨h1,h2⟩:=hr.split
 have:=(h.2 g' w' s _ h1).append (k.2 g' w' s _ h2)
 rw[List.take_append_drop]at this
 exact this
theorem EK.one {st st':St} {x x':TV} (h:FR st st' x x'):EK st st' [x] [x']:=by
 refine⟨rfl,fun g' w' s us hr=>?_⟩
 refine⟨hr.1,fun i hi=>?_⟩
 match i,hi with
 | 0,_=>exact h g' w' _ s (hr.2 0 (by simp))
theorem DM (st st':St) (k:IntKind) (n:Int):FR st st' (.int k n) (.int k n):=fun g' w' u _ h=>by cases h;exact .int k n
theorem J6 (st st':St) (b:Bool):FR st st' (.bool b) (.bool b):=fun g' w' u _ h=>by cases h;exact .bool b
theorem Iq (st st':St) (l:B8):FR st st' (.str l) (.str l):=fun g' w' u _ h=>by cases h;exact .str l
theorem EK.bytes (st st':St) (l:B8):EK st st' (A5 l) (A5 l):=by
 refine⟨rfl,fun g' w' s us hr=>⟨hr.1,fun i hi=>?_⟩⟩
 have h:=hr.2 i hi
 have e:∀x,x∈A5 l->∃b:UInt8,x=Pu b:=fun x hx=>by
  unfold A5 at hx
  obtain⟨b,_,rfl⟩:=List.mem_map.1 hx
  exact⟨b,rfl⟩
 obtain⟨b,hb⟩:=e _ (List.getElem_mem hi)
 rw[hb]at h⊢
 unfold Pu at h⊢
 rw[h.int_inv]
 exact .int _ _
theorem CD.settle {st st':St} {sz n:Nat} {u:TV} {xs xs':List TV} {bs:List Nat} (h:CD st' sz u n xs bs) (hb:∀x,x∈bs->st.nb<=x) (hx:EK st st' xs xs'):∃u',Rd sz u' n xs'/\FR st st' u u':=by
 rcases h with⟨rfl,rfl,rfl,rfl | rfl⟩ | ⟨b,cap,tail,rfl,h1,h2,h3,h4,h5,rfl⟩
 ·have:xs'=[]:=List.eq_nil_of_length_eq_zero hx.1
  subst this
  exact⟨.nilSlice,.inl ⟨rfl,rfl,rfl⟩,fun g' w' u _ h=>by cases h;exact .nilSlice⟩
 ·have:xs'=[]:=List.eq_nil_of_length_eq_zero hx.1
  subst this
  refine⟨.list sz .full 0 [],.inr ⟨_,rfl⟩,fun g' w' u _ h=>?_⟩
  cases h with
  | list _ _ _ _ b1 o1 cap1 us1 hl1 hn1 hc1 hr1 ht1=>exact .list sz .full 0 [] b1 o1 cap1 us1 hl1 hn1 (fun i hi=>absurd hi (Nat.not_lt_zero _)) (fun i hi=>absurd hi (Nat.not_lt_zero _)) ht1
  | listE _ _ a ht1=>exact .listE sz .full a ht1
 ·refine⟨.list sz .non n xs',.inr ⟨_,rfl⟩,fun g' w' u s h=>?_⟩
  cases h with
  | ms _ _ _ _ _ hlt hn=>
  have hlt':Dom st' [] (.box b):=h1
  have ho:=s.obj (.box b) hlt'
  have ho':FS g' w' (g'.bk b) (.cells (xs++tail)):=by rw[<-h2];exact ho
  obtain⟨cs,hc,hr⟩:=ho'
  have hq:=(hx.2 g' w' s _ hr.split.1)
  have hlen:xs.length<=cs.length:=by have:=hr.1;rw[List.length_append]at this;omega
  refine .list sz .non n xs' (g'.bk b) 0 cap (fun i=>cs.getD i Go.undef) (by rw[hx.1,h4]) hn (fun i hi=>?_) (fun i hi=>?_) trivial
  ·have hi':i<cs.length:=by rw[hx.1]at hi;omega
   have hv:cs[i]? =some (cs.getD i Go.undef):=by rw[List.getD_eq_getElem?_getD,List.getElem?_eq_getElem hi'];rfl
   have hg:=hc.get hv
   rw[Nat.zero_add]
   exact⟨.inr ⟨b,hb b (.head _),hlt,rfl,rfl,_,hg⟩,hg⟩
  ·have:=hq.2 i hi
   have e:(cs.take xs.length).getD i Go.undef=cs.getD i Go.undef:=by
    have hi':i<xs.length:=by rw[hx.1]at hi;exact hi
    rw[List.getD_eq_getElem?_getD,List.getD_eq_getElem?_getD,List.getElem?_take,if_pos hi']
   rw[e]at this
   exact this
mutual
theorem VlO.settle {st st':St}:∀{v:Vl} {cs:List TV} {fp:List Nat},VlO st' v cs fp->(∀x,x∈fp->st.nb<=x)->∃cs',VlR St.zero v cs'/\EK st st' cs cs'
 | .mk s l f,cs,fp,h,hb=>by
  unfold VlO at h
  obtain⟨ub,ul,uf,xl,xf,bb,bl,bf,fl,ff,rfl,h1,h2,h3,h4,h5,rfl⟩:=h
  have m1:∀{x},x∈bb->st.nb<=x:=fun hx=>hb _ (List.mem_append_left _ hx)
  have m2:∀{x},x∈bl->st.nb<=x:=fun hx=>hb _ (List.mem_append_right _ (List.mem_append_left _ hx))
  have m3:∀{x},x∈fl->st.nb<=x:=fun hx=>hb _ (List.mem_append_right _ (List.mem_append_right _ (List.mem_append_left _ hx)))
  have m4:∀{x},x∈bf->st.nb<=x:=fun hx=>hb _ (List.mem_append_right _ (List.mem_append_right _ (List.mem_append_right _ (List.mem_append_left _ hx))))
  have m5:∀{x},x∈ff->st.nb<=x:=fun hx=>hb _ (List.mem_append_right _ (List.mem_append_right _ (List.mem_append_right _ (List.mem_append_right _ hx))))
  obtain⟨xl',q1,q2⟩:=VsO.settle h3 fun x hx=>m3 hx
  obtain⟨xf',q3,q4⟩:=FsO.settle h5 fun x hx=>m5 hx
  obtain⟨ub',r1,r2⟩:=h1.settle (fun x hx=>m1 hx) (EK.bytes st st' _)
  obtain⟨ul',r3,r4⟩:=h2.settle (fun x hx=>m2 hx) q2
  obtain⟨uf',r5,r6⟩:=h4.settle (fun x hx=>m4 hx) q4
  refine⟨AK s ub' ul' uf',?_,?_⟩
  ·unfold VlR
   exact⟨ub',ul',uf',xl',xf',rfl,.of_rd r1,.of_rd r3,q1,.of_rd r5,q3⟩
  ·have c:∀{x x':TV} {l l':List TV},FR st st' x x'->EK st st' l l'->EK st st' (x::l) (x'::l'):=fun h k=>(EK.one h).app k
   exact c (DM _ _ _ _) (c (J6 _ _ _) (c (J6 _ _ _) (c (Iq _ _ _) (c (DM _ _ _ _) (c (DM _ _ _ _) (c (DM _ _ _ _) (c (DM _ _ _ _) (c (DM _ _ _ _) (c (Iq _ _ _) (c r2 (c r4 (c r6 (EK.nil _ _)))))))))))))
theorem VsO.settle {st st':St}:∀{l:List Vl} {cs:List TV} {fp:List Nat},VsO st' l cs fp->(∀x,x∈fp->st.nb<=x)->∃cs',VsR St.zero l cs'/\EK st st' cs cs'
 | [],cs,fp,h,hb=>by
  unfold VsO at h
  obtain⟨rfl,rfl⟩:=h
  exact⟨[],by unfold VsR;rfl,EK.nil _ _⟩
 | v::r,cs,fp,h,hb=>by
  unfold VsO at h
  obtain⟨a,b,p,q,rfl,rfl,h1,h2⟩:=h
  obtain⟨a',q1,q2⟩:=VlO.settle h1 fun x hx=>hb x (List.mem_append_left _ hx)
  obtain⟨b',q3,q4⟩:=VsO.settle h2 fun x hx=>hb x (List.mem_append_right _ hx)
  exact⟨a'++b',by unfold VsR;exact⟨a',b',rfl,q1,q3⟩,q2.app q4⟩
theorem FdO.settle {st st':St}:∀{d:Fd} {cs:List TV} {fp:List Nat},FdO st' d cs fp->(∀x,x∈fp->st.nb<=x)->∃cs',FdR St.zero d cs'/\EK st st' cs cs'
 | .mk key v,cs,fp,h,hb=>by
  unfold FdO at h
  obtain⟨c,rfl,h1⟩:=h
  obtain⟨a',q1,q2⟩:=VlO.settle h1 hb
  exact⟨.str key::a',by unfold FdR;exact⟨a',rfl,q1⟩,(EK.one (Iq _ _ _)).app q2⟩
theorem FsO.settle {st st':St}:∀{l:List Fd} {cs:List TV} {fp:List Nat},FsO st' l cs fp->(∀x,x∈fp->st.nb<=x)->∃cs',FsR St.zero l cs'/\EK st st' cs cs'
 | [],cs,fp,h,hb=>by
  unfold FsO at h
  obtain⟨rfl,rfl⟩:=h
  exact⟨[],by unfold FsR;rfl,EK.nil _ _⟩
 | d::r,cs,fp,h,hb=>by
  unfold FsO at h
  obtain⟨a,b,p,q,rfl,rfl,h1,h2⟩:=h
  obtain⟨a',q1,q2⟩:=FdO.settle h1 fun x hx=>hb x (List.mem_append_left _ hx)
  obtain⟨b',q3,q4⟩:=FsO.settle h2 fun x hx=>hb x (List.mem_append_right _ hx)
  exact⟨a'++b',by unfold FsR;exact⟨a',b',rfl,q1,q3⟩,q2.app q4⟩
end
theorem PP {st st':St} {cs cs':List TV} (h:EK st st' cs cs'):FR st st' (.agg cs) (.agg cs'):=fun g' w' u s hr=>by
 cases hr with
 | agg _ vs hl hr=>
  have:=h.2 g' w' s vs ⟨hl,hr⟩
  exact .agg cs' vs this.1 this.2
theorem GM {v:Vl} (hN:v.sz<=2000000) (hC:v.cnt<=65536) {st:St} {cs:List TV} {K:Int->Bool->Bool->B8->Int->Int->Int->Int->Int->B8->TV->TV->TV->St->Prop} (h:VlR st v cs)
  (hk:∀ub ul uf st',VlR St.zero v (AK v.sc ub ul uf)->At ub=true->At ul=true->At uf=true->Al st st'->st'.nb=st.nb->K v.sc.kind v.sc.b v.sc.neg v.sc.dg v.sc.ex v.sc.tk v.sc.td v.sc.tn v.sc.tz v.sc.text ub ul uf st'):
  CallT PR Df [.agg cs] [.agg [.int .i64,.bool,.bool,.str,.int .i64,.int .i64,.int .i64,.int .i64,.int .i64,.str,.tv,.tv,.tv]] st K:=by
 refine CallT.settle (copy_ok hN hC h fun ub ul uf st' fp g o1 o2 o3 nd lo e=>?_)
 obtain⟨cs',q1,q2⟩:=g.settle lo
 refine⟨e,.agg cs',PP q2,?_⟩
 obtain⟨s,l,f⟩:=v
 have q0:=q1
 obtain⟨ub',ul',uf',xl,xf,rfl,w1,w2,_,w4,_⟩:=VlR.cells q0
 exact hk ub' ul' uf' (st'.upto st) q1 w1.one w2.one w4.one (Sq e) rfl
end
end Go.TVF
section
namespace Go.TVF
open Go.IntKind(i64 u8)
open Go Go.Proofs Go.ChangeShapes
section
variable {H:Type} {enc:TypeId×Value->H} {P:Program} {w:World} {base:Nat} {held:Bool}
def Op (enc:TypeId×Value->H) (P:Program) (w:World) (base:Nat) (held:Bool) (n c:Nat) (S:List TV->Prop) (e:TypeId):Prop:=
 P.cellsOf e=c/\∀vs x,DataW.trod enc P w base (fun _=>true) held n e vs=some x->∃tv,AL (Ghost.start w) w tv vs/\tv.length=c/\S tv
end
end Go.TVF
end
section
namespace Go.TVF
open Go.IntKind(i64 u8)
open Go Go.Proofs Go.ChangeShapes
structure Blk {H:Type} (bk:DataW H->Nat):Prop where
 one:∀d,1<=bk d
 str:∀b,b.length+1<=bk (.lit (.string b))
 sl:∀e s,(e.map bk).sum+1<=bk (.slice e s)
 agg:∀p,(p.map bk).sum+1<=bk (.agg p)
section
variable {H:Type} {enc:TypeId×Value->H} {P:Program} {w:World} {base:Nat} {held:Bool} {bk:DataW H->Nat}
def OpQ (bk:DataW H->Nat) (enc:TypeId×Value->H) (P:Program) (w:World) (base:Nat) (held:Bool) (n c:Nat) (S:Nat->List TV->Prop) (e:TypeId):Prop:=
 P.cellsOf e=c/\∀vs x,DataW.trod enc P w base (fun _=>true) held n e vs=some x->∃tv,AL (Ghost.start w) w tv vs/\tv.length=c/\S (bk x.1) tv
def cellQ (c:CTy) (k:Nat) (tv:List TV):Prop:=Lr [c] tv/\1<=k
def strQ (k:Nat) (tv:List TV):Prop:=∃l:B8,tv=[.str l]/\l.length<=maxLen/\l.length+1<=k
theorem opq_cell {n:Nat} {c:CTy} {e:TypeId} (hb:Blk bk) (h:T3 P c e) (hc:P.cellsOf e=1):OpQ bk enc P w base held n 1 (cellQ c) e:=⟨hc,fun vs x hd=>by
 obtain⟨v,u,rfl,hr,hf⟩:=RS (Ghost.start w) h hd
 exact⟨[v],.cons hr (.nil _ _),rfl,hf,hb.one _⟩⟩
theorem opq_str {n:Nat} {e:TypeId} (hb:Blk bk) (h:P.underlying e=some .string) (hc:P.cellsOf e=1):OpQ bk enc P w base held n 1 strQ e:=⟨hc,fun vs x hd=>by
 obtain⟨s,rfl,rfl,hs⟩:=DataW.trod_string h hd
 exact⟨[_],.cons (K4 (Ghost.start w) w s) (.nil _ _),rfl,_,rfl,by rw[Array.length_toList];exact hs,hb.str _⟩⟩
def SlQ (c:Nat) (S:Nat->List TV->Prop) (k:Nat) (v:TV):Prop:=
 v= .nilSlice∨∃ps:List (List TV×Nat),v= .list c .non ps.length (ps.map (·.1)).flatten/\(∀p,p∈ps->p.1.length=c/\S p.2 p.1)/\(ps.map (·.2)).sum+1<=k
theorem opq_slice {n c:Nat} {S:Nat->List TV->Prop} {t e:TypeId} (hb:Blk bk) (ht:P.underlying t=some (.slice e)) (ht1:P.cellsOf t=1) (hc1:1<=c) (hE:∀m,m<n->OpQ bk enc P w base held m c S e):
  OpQ bk enc P w base held n 1 (fun k tv=>∃v,tv=[v]/\SlQ c S k v) t:=by
 refine⟨ht1,fun vs x h=>?_⟩
 rcases DataW.trod_slice ht h with⟨rfl,_⟩ | ⟨a,len,cap,elems,rest,m,rfl,rfl,rfl,hbk,hl,hm,hel,hi,hsp,_⟩
 ·exact⟨[.nilSlice],.cons .nilSlice (.nil _ _),rfl,_,rfl,.inl rfl⟩
 ·obtain⟨hcE,hE⟩:=hE m (by omega)
  rw[hcE]at hi hsp
  have hbs:=hb.sl (elems.map (·.1)) (rest.map (·.1))
  rw[List.map_map]at hbs
  by_cases hcap:cap=0
  ·subst hcap
   obtain rfl:len=0:=by omega
   exact⟨[.list c .non 0 []],.cons (.listE _ _ _ (fun id h=>by cases h)) (.nil _ _),rfl,_,rfl,.inr ⟨[],rfl,(fun ck h=>by cases h),by simp only[List.map_nil,List.sum_nil];omega⟩⟩
  ·obtain⟨b,o,spot⟩:=a
   have hspot:spot=none:=by
    have key:∀(i:Nat) (l:List (DataW H×List MemPlace)) (k:Nat),k<l.length->i=0->(w.cells? base ((⟨b,o,spot⟩:Addr).add (i*c)) c).bind (DataW.trod enc P w base (fun _=>true) held m e)=l[k]?->spot=none:=by
     intro i l k hk hi0 h
     subst hi0
     rw[List.getElem?_eq_getElem hk]at h
     obtain⟨vs,h1,_⟩:=Option.bind_eq_some_iff.1 h
     obtain⟨_,hvl,hvc⟩:=World.cells?_some h1
     have:=World.cell?_spot ((hvc 0 (by omega)).trans (List.getElem?_eq_getElem (show 0<vs.length by omega)))
     rw[Nat.zero_mul]at this
     exact this
    by_cases h0:0<len
    ·exact key 0 elems 0 (by omega) rfl (hi 0 h0)
    ·obtain⟨hr,hs⟩:=hsp rfl
     exact key _ rest 0 (by omega) (by omega) (hs 0 (by omega))
   subst hspot
   have each:∀i (hil:i<len),∃tv vs,AL (Ghost.start w) w tv vs/\tv.length=c/\S (bk (elems[i]'(by omega)).1) tv/\vs.length=c/\∀j,j<c->w.cell? ⟨b,o+(i*c+j),none⟩=some (vs.getD j Go.undef):=by
    intro i hil
    have h:=hi i hil
    rw[List.getElem?_eq_getElem (by omega)]at h
    obtain⟨vs,h1,h2⟩:=Option.bind_eq_some_iff.1 h
    obtain⟨tv,hr,htl,hf⟩:=hE vs _ h2
    obtain⟨_,hvl,hvc⟩:=World.cells?_some h1
    refine⟨tv,vs,hr,htl,hf,hvl,fun j hj=>?_⟩
    have:=hvc j (by omega)
    rw[Deep.add_add,QF]at this
    rw[this]
    simp[List.getD,show j<vs.length by omega]
   have build:∀k,k<=len->∃ps:List (List TV×Nat),ps.length=k/\(∀p,p∈ps->p.1.length=c/\S p.2 p.1)/\ps.map (·.2)=(elems.take k).map (fun y=>bk y.1)/\(ps.map (·.1)).flatten.length=k*c/\∀i (h:i<(ps.map (·.1)).flatten.length),∃u,w.cell? ⟨b,o+i,none⟩=some u/\Rel (Ghost.start w) w (ps.map (·.1)).flatten[i] u:=by
    intro k
    induction k with
    | zero=>intro _;exact⟨[],rfl,(fun ck h=>by cases h),by simp,by simp,fun i h=>absurd h (Nat.not_lt_zero _)⟩
    | succ k ih=>
     intro hk
     obtain⟨ps,h0,h1,hm1,h2,h3⟩:=ih (by omega)
     obtain⟨tv,vs,hr,htl,hf,hvl,hvc⟩:=each k (by omega)
     have hfl:((ps++[(tv,bk (elems[k]'(by omega)).1)]).map (·.1)).flatten=(ps.map (·.1)).flatten++tv:=by simp
     refine⟨ps++[(tv,bk (elems[k]'(by omega)).1)],by simp[h0],fun p h=>?_,?_,by rw[hfl,List.length_append,h2,htl,Nat.succ_mul],fun i h=>?_⟩
     ·rcases List.mem_append.1 h with h | h
      ·exact h1 p h
      ·rw[List.mem_singleton.1 h];exact⟨htl,hf⟩
     ·rw[List.map_append,hm1,List.take_succ_eq_append_getElem (by omega),List.map_append];rfl
     ·simp only[hfl]at h⊢
      by_cases hix:i<(ps.map (·.1)).flatten.length
      ·rw[List.getElem_append_left hix];exact h3 i hix
      ·rw[List.getElem_append_right (by omega)]
       rw[List.length_append]at h
       have hj:i-(ps.map (·.1)).flatten.length<tv.length:=by omega
       refine⟨vs.getD (i-(ps.map (·.1)).flatten.length) Go.undef,?_,hr.2 _ hj⟩
       have:=hvc (i-(ps.map (·.1)).flatten.length) (by omega)
       rw[show o+i=o+(k*c+(i-(ps.map (·.1)).flatten.length)) by rw[<-h2];omega]
       exact this
   obtain⟨ps,h0,h1,hm1,h2,h3⟩:=build len (Nat.le_refl _)
   refine⟨[.list c .non ps.length (ps.map (·.1)).flatten],.cons ?_ (.nil _ _),rfl,_,rfl,.inr ⟨ps,rfl,h1,?_⟩⟩
   ·have hu:∀i,∃u,(h:i<(ps.map (·.1)).flatten.length)->w.cell? ⟨b,o+i,none⟩=some u/\Rel (Ghost.start w) w (ps.map (·.1)).flatten[i] u:=fun i=>by
     by_cases h:i<(ps.map (·.1)).flatten.length
     ·obtain⟨u,hu⟩:=h3 i h
      exact⟨u,fun _=>hu⟩
     ·exact⟨Go.undef,fun h'=>absurd h' h⟩
    rw[h0]
    refine .list _ _ _ _ b o cap (fun i=>Classical.choose (hu i)) h2 hl (fun i hi=>?_) (fun i hi=>(Classical.choose_spec (hu i) hi).2) trivial
    have:=(Classical.choose_spec (hu i) hi).1
    exact⟨⟨rfl,_,this⟩,this⟩
   ·rw[hm1,List.take_of_length_le (by omega)]
    exact hbs
def N8 (bk:DataW H->Nat) (enc:TypeId×Value->H) (P:Program) (w:World) (base:Nat) (held:Bool) (n:Nat):List (Nat×(Nat->List TV->Prop))->List Field->Nat->Prop
 | [],[],_=>True
 | S::Ss,f::fs,o=>f.offset=o/\OpQ bk enc P w base held n S.1 S.2 f.type/\N8 bk enc P w base held n Ss fs (o+S.1)
 | _,_,_=>False
def Rv:List (Nat×(Nat->List TV->Prop))->Nat->List TV->Prop
 | [],_,xs=>xs=[]
 | S::Ss,k,xs=>∃a b k1 k2,xs=a++b/\a.length=S.1/\S.2 k1 a/\Rv Ss k2 b/\k1+k2<=k
def Oi:List (Nat×(Nat->List TV->Prop))->Nat
 | []=>0
 | S::Ss=>S.1+Oi Ss
theorem Lc {n:Nat} {vs:List Value}:∀(Ss:List (Nat×(Nat->List TV->Prop))) (fs:List Field) (o:Nat) (xs:List (DataW H×List MemPlace)),N8 bk enc P w base held n Ss fs o->xs.length=fs.length->vs.length=o+Oi Ss->
  (∀(i:Nat) (f:Field),fs[i]? =some f->DataW.trod enc P w base (fun _=>true) held n f.type ((vs.drop f.offset).take (P.cellsOf f.type))=xs[i]?)->∃tv,AL (Ghost.start w) w tv (vs.drop o)/\tv.length=Oi Ss/\Rv Ss (xs.map (fun y=>bk y.1)).sum tv
 | [],[],o,xs,_,_,hl,_=>⟨[],by rw[List.drop_of_length_le (by simp[Oi]at hl;omega)];exact .nil _ _,rfl,rfl⟩
 | S::Ss,f::fs,o,[],_,hx,_,_=>by simp at hx
 | S::Ss,f::fs,o,x::xs,ht,hx,hl,hd=>by
  obtain⟨h1,⟨h2,h3⟩,h4⟩:=ht
  have hd0:=hd 0 f rfl
  rw[h1,h2]at hd0
  obtain⟨tv0,hr,htl,hf⟩:=h3 _ _ hd0
  obtain⟨tv,hr',hl',hf'⟩:=Lc (n:=n) (vs:=vs) Ss fs (o+S.1) xs h4 (by simpa using hx) (by simp only[Oi]at hl;omega) (fun i f' hi=>by simpa using hd (i+1) f' (by simpa using hi))
  refine⟨tv0++tv,?_,by simp[hl',htl,Oi],tv0,tv,_,_,rfl,htl,hf,hf',by simp only[List.map_cons,List.sum_cons];exact Nat.le_refl _⟩
  have hlt:o+S.1<=vs.length:=by simp only[Oi]at hl;omega
  have e:vs.drop o=(vs.drop o).take S.1++vs.drop (o+S.1):=by rw[<-List.drop_drop,List.take_append_drop]
  rw[e]
  exact AL.append hr hr'
 | [],f::fs,o,xs,ht,_,_,_=>ht.elim
 | S::Ss,[],o,xs,ht,_,_,_=>ht.elim
theorem opq_struct {n c:Nat} {Ss:List (Nat×(Nat->List TV->Prop))} {e:TypeId} {fs:Array Field} (hb:Blk bk) (ht:P.underlying e=some (.struct fs)) (hc:P.cellsOf e=c) (hl:Oi Ss=c) (hf:∀m,m<n->N8 bk enc P w base held m Ss fs.toList 0):
  OpQ bk enc P w base held n c (fun k tv=>∃k',k'+1<=k/\Rv Ss k' tv) e:=⟨hc,fun vs x hd=>by
 obtain⟨xs,m,rfl,rfl,hvl,hx,hi⟩:=DataW.trod_struct ht hd
 obtain⟨tv,h1,h2,h3⟩:=Lc (bk:=bk) (enc:=enc) (P:=P) (w:=w) (base:=base) (held:=held) (n:=m) (vs:=vs) Ss fs.toList 0 xs (hf m (by omega)) (by simpa using hx) (by omega) (fun i f h=>hi i f (by simpa using h))
 refine⟨tv,by simpa using h1,by omega,_,?_,h3⟩
 have:=hb.agg (xs.map (·.1))
 rw[List.map_map]at this
 exact this⟩
end
end Go.TVF
end
namespace Go.TVF
open Go.IntKind(i64 u8)
open Go Go.Proofs
section
abbrev decQs:List (Nat×(Nat->List TV->Prop)):=[(1,cellQ .bool),(1,strQ),(1,cellQ (.int .i64))]
abbrev timeQs:List (Nat×(Nat->List TV->Prop)):=[(1,cellQ (.int .i64)),(1,cellQ (.int .i64)),(1,cellQ (.int .i64)),(1,cellQ (.int .i64))]
def valQ (k:Nat) (tv:List TV):Prop:=∃v:Vl,VlR St.zero v tv/\v.sz<=k
def fldQ (k:Nat) (tv:List TV):Prop:=∃d:Fd,FdR St.zero d tv/\d.sz<=k
abbrev PO (c:Nat) (S:Nat->List TV->Prop) (k:Nat) (tv:List TV):Prop:=∃v,tv=[v]/\SlQ c S k v
abbrev inQ (Ss:List (Nat×(Nat->List TV->Prop))) (k:Nat) (tv:List TV):Prop:=∃k',k'+1<=k/\Rv Ss k' tv
abbrev valQs:List (Nat×(Nat->List TV->Prop)):=[(1,cellQ (.int .i64)),(1,cellQ .bool),(3,inQ decQs),(4,inQ timeQs),(1,strQ),(1,PO 1 (cellQ (.int .u8))),(1,PO 13 valQ),(1,PO 14 fldQ)]
abbrev fldQs:List (Nat×(Nat->List TV->Prop)):=[(1,strQ),(13,valQ)]
theorem SlQ.bytes {k:Nat} {v:TV} (h:SlQ 1 (cellQ (.int .u8)) k v):∃l:B8,SlR St.zero 1 v l.length (A5 l)/\l.length<=k:=by
 rcases h with rfl | ⟨ps,rfl,h,hk⟩
 ·exact⟨[],.inl (.inl ⟨rfl,rfl,rfl⟩),Nat.zero_le _⟩
 ·have:∃l:B8,l.length=ps.length/\(ps.map (·.1)).flatten=A5 l/\l.length<=(ps.map (·.2)).sum:=by
   clear hk
   induction ps with
   | nil=>exact⟨[],rfl,rfl,Nat.zero_le _⟩
   | cons p r ih=>
    obtain⟨l,h1,h2,h3⟩:=ih (fun q hq=>h q (.tail _ hq))
    obtain⟨hl,⟨n,ys,hp,hw,rfl⟩,h1k⟩:=h p (.head _)
    have hn:0<=n/\n<=255:=by simpa [Lit.wf,IntKind.min,IntKind.max,IntKind.signed,IntKind.bits]using hw
    refine⟨n.toNat.toUInt8::l,by simp[h1],?_,by simp only[List.length_cons,List.map_cons,List.sum_cons];omega⟩
    rw[List.map_cons,List.flatten_cons,hp,h2]
    simp only[A5,List.map_cons,Pu,List.cons_append,List.nil_append,List.cons.injEq,and_true,TV.int.injEq,true_and]
    have:=QU n.toNat (by omega)
    omega
  obtain⟨l,h1,h2,h3⟩:=this
  exact⟨l,.inl (.inr ⟨.non,by rw[h1,h2]⟩),by omega⟩
theorem SlQ.vals {k:Nat} {v:TV} (h:SlQ 13 valQ k v):∃l xl,SlR St.zero 13 v l.length xl/\VsR St.zero l xl/\Bz l<=k:=by
 rcases h with rfl | ⟨ps,rfl,h,hk⟩
 ·exact⟨[],[],.inl (.inl ⟨rfl,rfl,rfl⟩),by unfold VsR;rfl,by unfold Bz;exact Nat.zero_le _⟩
 ·have:∃l:List Vl,l.length=ps.length/\VsR St.zero l (ps.map (·.1)).flatten/\Bz l<=(ps.map (·.2)).sum:=by
   clear hk
   induction ps with
   | nil=>exact⟨[],rfl,by unfold VsR;rfl,by unfold Bz;exact Nat.zero_le _⟩
   | cons p r ih=>
    obtain⟨l,h1,h2,h3⟩:=ih (fun q hq=>h q (.tail _ hq))
    obtain⟨hl,v,hv,hz⟩:=h p (.head _)
    exact⟨v::l,by simp[h1],by unfold VsR;exact⟨_,_,by simp,hv,h2⟩,by unfold Bz;simp only[List.map_cons,List.sum_cons];omega⟩
  obtain⟨l,h1,h2,h3⟩:=this
  exact⟨l,_,.inl (.inr ⟨.non,by rw[h1]⟩),h2,by omega⟩
theorem SlQ.flds {k:Nat} {v:TV} (h:SlQ 14 fldQ k v):∃l xl,SlR St.zero 14 v l.length xl/\FsR St.zero l xl/\Bs l<=k:=by
 rcases h with rfl | ⟨ps,rfl,h,hk⟩
 ·exact⟨[],[],.inl (.inl ⟨rfl,rfl,rfl⟩),by unfold FsR;rfl,by unfold Bs;exact Nat.zero_le _⟩
 ·have:∃l:List Fd,l.length=ps.length/\FsR St.zero l (ps.map (·.1)).flatten/\Bs l<=(ps.map (·.2)).sum:=by
   clear hk
   induction ps with
   | nil=>exact⟨[],rfl,by unfold FsR;rfl,by unfold Bs;exact Nat.zero_le _⟩
   | cons p r ih=>
    obtain⟨l,h1,h2,h3⟩:=ih (fun q hq=>h q (.tail _ hq))
    obtain⟨hl,v,hv,hz⟩:=h p (.head _)
    exact⟨v::l,by simp[h1],by unfold FsR;exact⟨_,_,by simp,hv,h2⟩,by unfold Bs;simp only[List.map_cons,List.sum_cons];omega⟩
  obtain⟨l,h1,h2,h3⟩:=this
  exact⟨l,_,.inl (.inr ⟨.non,by rw[h1]⟩),h2,by omega⟩
theorem EN {kd:IntKind} {k:Nat} {tv:List TV} (h:cellQ (.int kd) k tv):∃n,tv=[.int kd n]:=by
 obtain⟨⟨n,ys,rfl,_,rfl⟩,_⟩:=h;exact⟨n,rfl⟩
theorem LI {k:Nat} {tv:List TV} (h:cellQ .bool k tv):∃b,tv=[.bool b]:=by
 obtain⟨⟨n,ys,rfl,rfl⟩,_⟩:=h;exact⟨n,rfl⟩
theorem each_field {k:Nat} {tv:List TV} (h:inQ fldQs k tv):fldQ k tv:=by
 obtain⟨k0,hk0,_,_,k1,k2,rfl,_,⟨key,rfl,_,hkey⟩,⟨_,_,k3,k4,rfl,_,⟨v,hv,hz⟩,rfl,h2⟩,h1⟩:=h
 refine⟨.mk key v,by unfold FdR;exact⟨_,by simp,hv⟩,by unfold Fd.sz;omega⟩
theorem each_value {k:Nat} {tv:List TV} (h:inQ valQs k tv):valQ k tv:=by
 obtain⟨k0,hk0,_,_,a1,r1,rfl,_,q1,⟨_,_,a2,r2,rfl,_,q2,⟨_,_,a3,r3,rfl,_,q3,⟨_,_,a4,r4,rfl,_,q4,⟨_,_,a5,r5,rfl,_,q5,⟨_,_,a6,r6,rfl,_,q6,⟨_,_,a7,r7,rfl,_,q7,⟨_,_,a8,r8,rfl,_,q8,rfl,h8⟩,h7⟩,h6⟩,h5⟩,h4⟩,h3⟩,h2⟩,h1⟩:=h
 obtain⟨kd,rfl⟩:=EN q1
 obtain⟨bo,rfl⟩:=LI q2
 obtain⟨d0,hd0,_,_,d1,d2,rfl,_,p1,⟨_,_,d3,d4,rfl,_,⟨dg,rfl,_,hdg⟩,⟨_,_,d5,d6,rfl,_,p3,rfl,g3⟩,g2⟩,g1⟩:=q3
 obtain⟨ng,rfl⟩:=LI p1
 obtain⟨ex,rfl⟩:=EN p3
 obtain⟨_,_,_,_,_,_,rfl,_,t1,⟨_,_,_,_,rfl,_,t2,⟨_,_,_,_,rfl,_,t3,⟨_,_,_,_,rfl,_,t4,rfl,_⟩,_⟩,_⟩,_⟩:=q4
 obtain⟨tk,rfl⟩:=EN t1
 obtain⟨td,rfl⟩:=EN t2
 obtain⟨tn,rfl⟩:=EN t3
 obtain⟨tz,rfl⟩:=EN t4
 obtain⟨tx,rfl,_,htx⟩:=q5
 obtain⟨ub,rfl,q6⟩:=q6
 obtain⟨ul,rfl,q7⟩:=q7
 obtain⟨uf,rfl,q8⟩:=q8
 obtain⟨bs,hb,hbl⟩:=q6.bytes
 obtain⟨l,xl,hl,hlv,hlz⟩:=q7.vals
 obtain⟨f,xf,hf,hfv,hfz⟩:=q8.flds
 refine⟨.mk ⟨kd,bo,ng,dg,ex,tk,td,tn,tz,tx,bs⟩ l f,?_,by rw[szs];simp only;omega⟩
 unfold VlR
 exact⟨ub,ul,uf,xl,xf,by simp,hb,hl,hlv,hf,hfv⟩
section
variable {H:Type} {enc:TypeId×Value->H} {P:Program} {w:World} {base b0:Nat} {held:Bool} {bk:DataW H->Nat}
end
end
section
def IsValU (t:TV):Prop:=∃v cs,t= .agg cs/\VlR St.zero v cs
section
variable {H:Type} {enc:TypeId×Value->H} {P:Program} {w:World} {base b0:Nat} {held:Bool} {bk:DataW H->Nat}
theorem open_valU {t:TypeId} {fs:Array Field} {v:Value} {d:DataW H} {p:List MemPlace} (ht:P.underlying t=some (.struct fs)) (hop:∀n,OpQ bk enc P w base held n 13 valQ t)
  (hval:Value.okWide P w .any b0 t v) (h:DataW.Trod enc P w base (fun _=>true) held t v d p):∃tv,Rel (Ghost.start w) w tv v/\IsValU tv:=by
 simp only[Value.okWide,ht]at hval
 obtain⟨vs,rfl,_,_⟩:=hval
 obtain⟨n,hn⟩:=h
 obtain⟨cs,hr,_,vl,hv,hz⟩:=(hop n).2 _ _ hn
 have:=Rel.agg cs vs.toList hr.1 hr.2
 rw[Array.toArray_toList]at this
 exact⟨_,this,vl,cs,rfl,hv⟩
end
end
section
theorem SlR.zero {sz n:Nat} {v:TV} {xs:List TV} (h:SlR St.zero sz v n xs):Rd sz v n xs:=by
 rcases h with h | ⟨b,_,_,_,_,hb,_⟩
 ·exact h
 ·exact absurd hb (Nat.not_lt_zero _)
abbrev StepV:=Bool×B8×Int
section
variable {st:St}
end
section
variable {st:St}
end
end
end Go.TVF
section
namespace Go.TVF
open Go.IntKind(i64 u8)
mutual
inductive Tb where
 | mk (b m:Nat) (hd:Bool) (es:List Kn)
inductive Kn where
 | mk (k:B8) (eb:Nat) (e:En)
inductive En where
 | opn (t:Tb)
 | lst (l:List Tb)
 | clo (v:Vl) (i:Nat)
end
def Tb.b:Tb->Nat | .mk b _ _ _=>b
def Tb.m:Tb->Nat | .mk _ m _ _=>m
def Tb.hd:Tb->Bool | .mk _ _ h _=>h
def Tb.es:Tb->List Kn | .mk _ _ _ es=>es
def Kn.key:Kn->B8 | .mk k _ _=>k
def Kn.eb:Kn->Nat | .mk _ e _=>e
def Kn.en:Kn->En | .mk _ _ e=>e
def scM:Sc:=⟨7,false,false,[],0,0,0,0,0,[],[]⟩
def scL:Sc:=⟨6,false,false,[],0,0,0,0,0,[],[]⟩
mutual
def Af:Tb->Vl
 | .mk _ _ _ es=> .mk scM [] (AJ es)
def AJ:List Kn->List Fd
 | []=>[]
 | .mk k _ e::r=> .mk k (AH e)::AJ r
def AH:En->Vl
 | .opn t=>Af t
 | .lst l=> .mk scL (AZ l) []
 | .clo v _=>v
def AZ:List Tb->List Vl
 | []=>[]
 | t::r=>Af t::AZ r
end
theorem Hz:∀a b:List Kn,AJ (a++b)=AJ a++AJ b
 | [],b=>by simp[AJ]
 | .mk k e x::r,b=>by simp only[List.cons_append,AJ,Hz r b]
theorem B6:∀l:List Tb,AZ l=l.map Af
 | []=>rfl
 | t::r=>by rw[AZ,List.map_cons,B6 r]
theorem Hy:∀l:List Kn,AJ l=l.map fun d=>Fd.mk d.key (AH d.en)
 | []=>rfl
 | .mk k e x::r=>by rw[AJ,List.map_cons,Hy r];rfl
def Ah (k:B8):List Kn->Option (Nat×En)
 | []=>none
 | .mk k' eb e::r=>if k=k' then some (eb,e)else Ah k r
def BN (k:B8) (x:En):List Kn->List Kn
 | []=>[]
 | .mk k' eb e::r=>if k=k' then .mk k' eb x::r else .mk k' eb e::BN k x r
theorem HH {k:B8}:∀{es:List Kn} {eb:Nat} {e:En},Ah k es=some (eb,e)->Kn.mk k eb e∈es
 | .mk k' eb' e'::r,eb,e,h=>by
  unfold Ah at h
  split at h
  ·rename_i hk;cases h;subst hk;exact .head _
  ·exact .tail _ (HH h)
theorem Iz {k:B8}:∀{es:List Kn},Ah k es=none->∀d,d∈es->d.key≠k
 | [],h,d,hd=>by cases hd
 | .mk k' eb' e'::r,h,d,hd=>by
  unfold Ah at h
  split at h
  ·cases h
  ·rename_i hk
   rcases List.mem_cons.1 hd with rfl | hd
   ·exact fun h=>hk h.symm
   ·exact Iz h d hd
theorem Mo {k:B8} {x:En}:∀es:List Kn,(BN k x es).map Kn.key=es.map Kn.key
 | []=>rfl
 | .mk k' eb e::r=>by
  unfold BN
  split
  ·rfl
  ·rw[List.map_cons,List.map_cons,Mo r]
theorem D3 {k:B8} {x:En}:∀{es:List Kn} {eb:Nat} {e:En},Ah k es=some (eb,e)->Ah k (BN k x es)=some (eb,x)
 | .mk k' eb' e'::r,eb,e,h=>by
  unfold Ah at h
  unfold BN
  split at h
  ·rename_i hk;cases h;subst hk;rw[if_pos rfl];simp[Ah]
  ·rename_i hk;rw[if_neg hk,Ah,if_neg hk];exact D3 h
theorem Kb {k k2:B8} {x:En} (hne:k2≠k):∀{es:List Kn},Ah k2 (BN k x es)=Ah k2 es
 | []=>rfl
 | .mk k' eb' e'::r=>by
  unfold BN
  split
  ·rename_i hk;subst hk;unfold Ah;rw[if_neg hne,if_neg hne]
  ·unfold Ah;split
   ·rfl
   ·exact Kb hne
theorem Lh {k k2:B8} {eb:Nat} {x:En}:∀{es:List Kn},Ah k2 (es++[.mk k eb x])=match Ah k2 es with | some p=>some p | none=>if k2=k then some (eb,x)else none
 | []=>by simp[Ah]
 | .mk k' eb' e'::r=>by
  rw[List.cons_append,Ah,Ah]
  split
  ·rfl
  ·exact Lh
theorem set_set {k:B8} {x y:En}:∀es:List Kn,BN k y (BN k x es)=BN k y es
 | []=>rfl
 | .mk k' eb e::r=>by
  by_cases hk:k=k'
  ·rw[BN,if_pos hk,BN,BN,if_pos hk,if_pos hk]
  ·rw[BN,if_neg hk,BN,BN,if_neg hk,if_neg hk,set_set r]
abbrev Hop:=B8×Option Nat
def atT:Tb->List Hop->Option Tb
 | t,[]=>some t
 | .mk _ _ _ es,(k,none)::h=>match Ah k es with
  | some (_,.opn u)=>atT u h
  | _=>none
 | .mk _ _ _ es,(k,some i)::h=>match Ah k es with
  | some (_,.lst l)=>match l[i]? with
   | some u=>atT u h
   | none=>none
  | _=>none
def Ay:Tb->List Hop->Tb->Tb
 | _,[],x=>x
 | .mk b m hd es,(k,none)::h,x=>match Ah k es with
  | some (_,.opn u)=> .mk b m hd (BN k (.opn (Ay u h x)) es)
  | _=> .mk b m hd es
 | .mk b m hd es,(k,some i)::h,x=>match Ah k es with
  | some (_,.lst l)=>match l[i]? with
   | some u=> .mk b m hd (BN k (.lst (l.set i (Ay u h x))) es)
   | none=> .mk b m hd es
  | _=> .mk b m hd es
theorem HO:∀(h g:List Hop) (T:Tb),atT T (h++g)=(atT T h).bind fun t=>atT t g
 | [],g,T=>by cases T;rfl
 | (k,none)::h,g,.mk b m hd es=>by
  rw[List.cons_append,atT,atT]
  rcases Ah k es with _ | ⟨eb,u | l | ⟨v,i⟩⟩
  ·rfl
  ·exact HO h g u
  ·rfl
  ·rfl
 | (k,some i)::h,g,.mk b m hd es=>by
  rw[List.cons_append,atT,atT]
  rcases Ah k es with _ | ⟨eb,u | l | ⟨v,i⟩⟩
  ·rfl
  ·rfl
  ·simp only
   cases l[i]? with
   | none=>rfl
   | some u=>exact HO h g u
  ·rfl
theorem BJ:∀(h:List Hop) {T t x:Tb},atT T h=some t->atT (Ay T h x) h=some x
 | [],T,t,x,_=>by cases x;rfl
 | (k,none)::h,.mk b m hd es,t,x,hA=>by
  rw[atT]at hA
  rw[Ay]
  rcases hl:Ah k es with _ | ⟨eb,u | l | ⟨v,i⟩⟩<;>rw[hl]at hA<;>simp only at hA⊢<;>try (cases hA;done)
  ·rw[atT,D3 hl];exact BJ h hA
 | (k,some i)::h,.mk b m hd es,t,x,hA=>by
  rw[atT]at hA
  rw[Ay]
  rcases hl:Ah k es with _ | ⟨eb,u | l | ⟨v,i⟩⟩<;>rw[hl]at hA<;>simp only at hA⊢<;>try (cases hA;done)
  ·cases hi:l[i]? with
   | none=>simp[hi]at hA
   | some u=>
    rw[hi]at hA
    have hlt:=(List.getElem?_eq_some_iff.1 hi).1
    simp only at hA⊢
    rw[atT,D3 hl]
    simp only
    rw[List.getElem?_set_self hlt]
    exact BJ h hA
theorem Fk:∀(h:List Hop) {T t x:Tb},atT T h=some t->x.b=t.b->(Ay T h x).b=T.b
 | [],T,t,x,hA,hx=>by cases T;cases hA;exact hx
 | (k,none)::h,.mk b m hd es,t,x,hA,hx=>by
  rw[Ay]
  split<;>rfl
 | (k,some i)::h,.mk b m hd es,t,x,hA,hx=>by
  rw[Ay]
  split
  ·split<;>rfl
  ·rfl
theorem HC:∀(h g:List Hop) {T t x:Tb},atT T h=some t->Ay T (h++g) x=Ay T h (Ay t g x)
 | [],g,T,t,x,hA=>by cases T;cases hA;rfl
 | (k,none)::h,g,.mk b m hd es,t,x,hA=>by
  rw[atT]at hA
  rw[List.cons_append,Ay,Ay]
  rcases hl:Ah k es with _ | ⟨eb,u | l | ⟨v,i⟩⟩<;>rw[hl]at hA<;>simp only at hA⊢<;>try (cases hA;done)
  ·rw[HC h g hA]
 | (k,some i)::h,g,.mk b m hd es,t,x,hA=>by
  rw[atT]at hA
  rw[List.cons_append,Ay,Ay]
  rcases hl:Ah k es with _ | ⟨eb,u | l | ⟨v,i⟩⟩<;>rw[hl]at hA<;>simp only at hA⊢<;>try (cases hA;done)
  ·cases hi:l[i]? with
   | none=>simp[hi]at hA
   | some u=>rw[hi]at hA;simp only at hA⊢;rw[HC h g hA]
theorem CX:∀(h:List Hop) {T t x y:Tb},atT T h=some t->Ay (Ay T h x) h y=Ay T h y
 | [],T,t,x,y,hA=>by cases x;cases T;rfl
 | (k,none)::h,.mk b m hd es,t,x,y,hA=>by
  rw[atT]at hA
  rw[Ay,Ay]
  rcases hl:Ah k es with _ | ⟨eb,u | l | ⟨v,i⟩⟩<;>rw[hl]at hA<;>simp only at hA⊢<;>try (cases hA;done)
  ·rw[Ay,D3 hl];simp only;rw[CX h hA,set_set]
 | (k,some i)::h,.mk b m hd es,t,x,y,hA=>by
  rw[atT]at hA
  rw[Ay,Ay]
  rcases hl:Ah k es with _ | ⟨eb,u | l | ⟨v,i⟩⟩<;>rw[hl]at hA<;>simp only at hA⊢<;>try (cases hA;done)
  ·cases hi:l[i]? with
   | none=>simp[hi]at hA
   | some u=>
    rw[hi]at hA
    have hlt:=(List.getElem?_eq_some_iff.1 hi).1
    simp only at hA⊢
    rw[Ay,D3 hl]
    simp only
    rw[List.getElem?_set_self hlt]
    simp only
    rw[CX h hA,set_set,List.set_set]
end Go.TVF
end
section
namespace Go.TVF
open Go.IntKind(i64 u8)
inductive Stp where
 | key (k:B8)
 | idx (i:Nat)
deriving DecidableEq
def scO:Sc:=⟨0,false,false,[],0,0,0,0,0,[],[]⟩
def vlO:Vl:= .mk scO [] []
end Go.TVF
end
section
namespace Go.TVF
open Go.IntKind(i64 u8)
def AO (t:Tb) (k:B8) (eb:Nat) (e:En):Tb:= .mk t.b t.m t.hd (t.es++[.mk k eb e])
def CZ (t:Tb) (k:B8) (e:En):Tb:= .mk t.b t.m t.hd (BN k e t.es)
theorem Jc {t:Tb} {k k2:B8} {eb:Nat} {e:En} (h:Ah k t.es=none):Ah k2 (AO t k eb e).es=if k2=k then some (eb,e)else Ah k2 t.es:=by
 show Ah k2 (t.es++[.mk k eb e])=_
 rw[Lh]
 by_cases hk:k2=k
 ·subst hk;simp[h]
 ·rw[if_neg hk,if_neg hk]
  cases Ah k2 t.es<;>rfl
theorem SX {t:Tb} {k k2:B8} {eb:Nat} {e x:En} (h:Ah k t.es=some (eb,e)):Ah k2 (CZ t k x).es=if k2=k then some (eb,x)else Ah k2 t.es:=by
 show Ah k2 (BN k x t.es)=_
 by_cases hk:k2=k
 ·subst hk;rw[if_pos rfl,D3 h]
 ·rw[if_neg hk,Kb hk]
structure Asg where
 tab:Bool
 elem:Bool
 keys:List B8
 val:Vl
structure Nu where
 b:Nat
 m:Nat
 eb:Nat
def AI (nu:Nu) (hd:Bool):Tb:= .mk nu.b nu.m hd []
def DI (nu:Nu) (hd:Bool) (T:Tb) (h:List Hop) (k:B8):Option (Tb×List Hop):=
 match atT T h with
 | none=>none
 | some t=>match Ah k t.es with
  | none=>some (Ay T h (AO t k nu.eb (.opn (AI nu false))),h++[(k,none)])
  | some (_,.opn _)=>some (T,h++[(k,none)])
  | some (_,.lst l)=>if hd=true then some (T,h++[(k,some (l.length-1))])else none
  | some (_,.clo _ _)=>none
def hops (nu:Nat->Nu) (hd:Bool):Nat->Tb->List Hop->List B8->Option (Tb×List Hop)
 | _,T,h,[]=>some (T,h)
 | j,T,h,k::ks=>match DI (nu j) hd T h k with
  | none=>none
  | some (T',h')=>hops nu hd (j+1) T' h' ks
def CA:Tb->Tb | .mk b m _ es=> .mk b m true es
def Ca (nu:Nu) (a:Asg) (i:Nat) (T:Tb) (h cur:List Hop) (k:B8):Except Int (Tb×List Hop):=
 match atT T h with
 | none=> .error 0
 | some t=>
  if a.elem=true then(match Ah k t.es with
   | none=> .ok (Ay T h (AO t k nu.eb (.lst [AI nu false])),h++[(k,some 0)])
   | some (_,.lst l)=> .ok (Ay T h (CZ t k (.lst (l++[AI nu false]))),h++[(k,some l.length)])
   | some _=> .error 6)
  else if a.tab=true then(match Ah k t.es with
   | none=> .ok (Ay T h (AO t k nu.eb (.opn (AI nu true))),h++[(k,none)])
   | some (_,.opn u)=>if u.hd=true then .error 8 else .ok (Ay T h (CZ t k (.opn (CA u))),h++[(k,none)])
   | some _=> .error 8)
  else(match Ah k t.es with
   | none=> .ok (Ay T h (AO t k nu.eb (.clo a.val i)),cur)
   | some _=> .error 8)
deriving instance DecidableEq for Sc
def J4 (v:Vl):Bool:=decide (v.sc=scO)&&v.list.isEmpty&&v.flds.isEmpty
def Cz (a:Asg):Bool:= !a.keys.isEmpty&&(a.tab || !a.elem)&&(!a.tab || J4 a.val)
def CI (nu:Nat->Nu) (i:Nat) (T:Tb) (cur:List Hop) (a:Asg):Except Int (Tb×List Hop):=
 if Cz a=false then .error 1
 else match hops nu a.tab 0 T (if a.tab=true then []else cur) a.keys.dropLast with
  | none=> .error 8
  | some (T',h)=>Ca (nu a.keys.length) a i T' h cur (a.keys.getLastD [])
end Go.TVF
end
section
namespace Go.TVF
open Go.IntKind(i64 u8)
inductive ShE where
 | opn (b:Nat)
 | lst (bs:List Nat)
 | clo (v:Vl) (i:Nat)
structure Sh where
 b:Nat
 m:Nat
 hd:Bool
 d:Nat
 es:List (B8×Nat×ShE)
def shE:En->ShE
 | .opn t=> .opn t.b
 | .lst l=> .lst (l.map Tb.b)
 | .clo v i=> .clo v i
def shK (d:Kn):B8×Nat×ShE:=(d.key,d.eb,shE d.en)
mutual
def shT:Nat->Tb->List Sh
 | d,.mk b m hd es=>⟨b,m,hd,d,es.map shK⟩::BR d es
def BR:Nat->List Kn->List Sh
 | _,[]=>[]
 | d,.mk _ _ e::r=>A9 d e++BR d r
def A9:Nat->En->List Sh
 | d,.opn t=>shT (d+1) t
 | d,.lst l=>Dy (d+2) l
 | _,.clo _ _=>[]
def Dy:Nat->List Tb->List Sh
 | _,[]=>[]
 | d,t::r=>shT d t++Dy d r
end
theorem OB (d:Nat):∀a b:List Kn,BR d (a++b)=BR d a++BR d b
 | [],b=>by simp[BR]
 | .mk k eb e::r,b=>by simp only[List.cons_append,BR,OB d r b,List.append_assoc]
theorem IU (d:Nat):∀a b:List Tb,Dy d (a++b)=Dy d a++Dy d b
 | [],b=>by simp[Dy]
 | t::r,b=>by simp only[List.cons_append,Dy,IU d r b,List.append_assoc]
theorem FV (d:Nat) {k:B8}:∀{es:List Kn} {eb:Nat} {e:En},Ah k es=some (eb,e)->∃P Q,BR d es=P++(A9 d e++Q)/\∀x,BR d (BN k x es)=P++(A9 d x++Q)
 | .mk k' eb' e'::r,eb,e,h=>by
  unfold Ah at h
  by_cases hk:k=k'
  ·rw[if_pos hk]at h
   cases h
   exact⟨[],BR d r,by rw[BR,List.nil_append],fun x=>by rw[BN,if_pos hk,BR,List.nil_append]⟩
  ·rw[if_neg hk]at h
   obtain⟨P,Q,h1,h2⟩:=FV d h
   exact⟨A9 d e'++P,Q,by rw[BR,h1,List.append_assoc],fun x=>by rw[BN,if_neg hk,BR,h2 x,List.append_assoc]⟩
theorem Nm {k:B8} {x:En}:∀{es:List Kn} {eb:Nat} {e:En},Ah k es=some (eb,e)->shE x=shE e->(BN k x es).map shK=es.map shK
 | .mk k' eb' e'::r,eb,e,h,hx=>by
  unfold Ah at h
  by_cases hk:k=k'
  ·rw[if_pos hk]at h
   cases h
   rw[BN,if_pos hk,List.map_cons,List.map_cons]
   show(k',eb',shE x)::_=(k',eb',shE e')::_
   rw[hx]
  ·rw[if_neg hk]at h
   rw[BN,if_neg hk,List.map_cons,List.map_cons,Nm h hx]
theorem Oz (d:Nat):∀{l:List Tb} {i:Nat} {u:Tb},l[i]? =some u->∃P Q,Dy d l=P++(shT d u++Q)/\∀x,Dy d (l.set i x)=P++(shT d x++Q)
 | t::r,0,u,h=>by
  cases h
  exact⟨[],Dy d r,by rw[Dy,List.nil_append],fun x=>by rw[List.set_cons_zero,Dy,List.nil_append]⟩
 | t::r,i+1,u,h=>by
  obtain⟨P,Q,h1,h2⟩:=Oz d (l:=r) (i:=i) (u:=u) (by simpa using h)
  exact⟨shT d t++P,Q,by rw[Dy,h1,List.append_assoc],fun x=>by rw[List.set_cons_succ,Dy,h2 x,List.append_assoc]⟩
def dpH:List Hop->Nat
 | []=>0
 | (_,none)::h=>dpH h+1
 | (_,some _)::h=>dpH h+2
theorem GK:∀a b:List Hop,dpH (a++b)=dpH a+dpH b
 | [],b=>by simp[dpH]
 | (k,none)::a,b=>by rw[List.cons_append,dpH,dpH,GK a b];omega
 | (k,some i)::a,b=>by rw[List.cons_append,dpH,dpH,GK a b];omega
theorem box_set {l:List Tb} {i:Nat} {u x:Tb} (h:l[i]? =some u) (hx:x.b=u.b):(l.set i x).map Tb.b=l.map Tb.b:=by
 rw[List.map_set,hx]
 apply List.ext_getElem?
 intro j
 by_cases hj:i=j
 ·subst hj
  obtain⟨hlt,hu⟩:=List.getElem?_eq_some_iff.1 h
  rw[List.getElem?_set_self (by rw[List.length_map];exact hlt),List.getElem?_map,h];rfl
 ·rw[List.getElem?_set_ne hj]
theorem HV:∀(h:List Hop) {T t:Tb},atT T h=some t->∀d,∃A B,shT d T=A++(shT (d+dpH h) t++B)/\∀t',t'.b=t.b->shT d (Ay T h t')=A++(shT (d+dpH h) t'++B)
 | [],T,t,hA,d=>by
  cases T;cases hA
  exact⟨[],[],by rw[List.nil_append,List.append_nil];rfl,fun t' _=>by rw[List.nil_append,List.append_nil];rfl⟩
 | (k,none)::h,.mk b m hd es,t,hA,d=>by
  rw[atT]at hA
  rcases hl:Ah k es with _ | ⟨eb,u | l | ⟨v,i⟩⟩<;>rw[hl]at hA<;>simp only at hA<;>try (cases hA;done)
  obtain⟨A,B,h1,h2⟩:=HV h hA (d+1)
  obtain⟨P,Q,h3,h4⟩:=FV d hl
  have e:d+1+dpH h=d+dpH ((k,none)::h):=by rw[dpH];omega
  rw[e]at h1 h2
  refine⟨⟨b,m,hd,d,es.map shK⟩::(P++A),B++Q,?_,fun t' ht=>?_⟩
  ·rw[shT,h3,A9,h1]
   simp only[List.cons_append,List.append_assoc]
  ·rw[Ay,hl]
   simp only
   rw[shT,h4,A9,h2 t' ht,Nm hl (by show ShE.opn _=ShE.opn _;rw[Fk h hA ht])]
   simp only[List.cons_append,List.append_assoc]
 | (k,some j)::h,.mk b m hd es,t,hA,d=>by
  rw[atT]at hA
  rcases hl:Ah k es with _ | ⟨eb,u | l | ⟨v,i⟩⟩<;>rw[hl]at hA<;>simp only at hA<;>try (cases hA;done)
  cases hj:l[j]? with
  | none=>simp[hj]at hA
  | some u=>
  rw[hj]at hA
  simp only at hA
  obtain⟨A,B,h1,h2⟩:=HV h hA (d+2)
  obtain⟨P,Q,h3,h4⟩:=FV d hl
  obtain⟨P2,Q2,h5,h6⟩:=Oz (d+2) hj
  have e:d+2+dpH h=d+dpH ((k,some j)::h):=by rw[dpH];omega
  rw[e]at h1 h2
  refine⟨⟨b,m,hd,d,es.map shK⟩::(P++(P2++A)),B++(Q2++Q),?_,fun t' ht=>?_⟩
  ·rw[shT,h3,A9,h5,h1]
   simp only[List.cons_append,List.append_assoc]
  ·rw[Ay,hl]
   simp only[hj]
   rw[shT,h4,A9,h6,h2 t' ht,Nm hl (by show ShE.lst _=ShE.lst _;rw[box_set hj (Fk h hA ht)])]
   simp only[List.cons_append,List.append_assoc]
theorem Nl (d:Nat) (t:Tb) (k:B8) (eb:Nat) (e:En):shT d (AO t k eb e)=⟨t.b,t.m,t.hd,d,t.es.map shK++[(k,eb,shE e)]⟩::(BR d t.es++A9 d e):=by
 unfold AO
 rw[shT,List.map_append,OB,BR,BR,List.append_nil]
 rfl
theorem Ep (d:Nat) (t:Tb):shT d t=⟨t.b,t.m,t.hd,d,t.es.map shK⟩::BR d t.es:=by cases t;rfl
def D4 (k:B8):List (B8×Nat×ShE)->Option (Nat×ShE)
 | []=>none
 | (k',p)::r=>if k=k' then some p else D4 k r
theorem Gc (k:B8):∀es:List Kn,D4 k (es.map shK)=(Ah k es).map fun p=>(p.1,shE p.2)
 | []=>rfl
 | .mk k' eb e::r=>by
  rw[List.map_cons,Ah]
  show(if k=k' then some (eb,shE e)else D4 k (r.map shK))=_
  by_cases hk:k=k'
  ·rw[if_pos hk,if_pos hk];rfl
  ·rw[if_neg hk,if_neg hk,Gc k r]
theorem Mw {k k2:B8} {p:Nat×ShE}:∀{es:List (B8×Nat×ShE)},D4 k2 (es++[(k,p)])=match D4 k2 es with | some q=>some q | none=>if k2=k then some p else none
 | []=>by simp[D4]
 | (k',q)::r=>by
  rw[List.cons_append,D4,D4]
  split
  ·rfl
  ·exact Mw
def bxS (s:Sh):List Nat:=s.b::s.m::s.es.map fun x=>x.2.1
def bxL (L:List Sh):List Nat:=L.flatMap bxS
theorem AN (A B:List Sh):bxL (A++B)=bxL A++bxL B:=by unfold bxL;rw[List.flatMap_append]
theorem A1 (s:Sh) (L:List Sh):bxL (s::L)=bxS s++bxL L:=by unfold bxL;rw[List.flatMap_cons]
theorem Bn {x:Nat} {s:Sh} {L:List Sh} (hs:s∈L) (hx:x∈bxS s):x∈bxL L:=List.mem_flatMap.2 ⟨s,hs,hx⟩
end Go.TVF
end
namespace Go.TVF
open Go.IntKind(i64 u8)
open Go Go.Proofs
def Bf:TV->Option Nat
 | .list _ (.own id) _ _=>some id
 | _=>none
def C0 (v:TV) (xs:List TV):Prop:=(v= .nilSlice/\xs=[])∨∃tip,v= .list 1 tip xs.length xs/\(tip= .full∨∃id,tip= .own id)
theorem C0.nil:C0 .nilSlice []:= .inl ⟨rfl,rfl⟩
theorem C0.sl {v:TV} {xs:List TV} (h:C0 v xs):isSl v=true:=by
 rcases h with⟨rfl,_⟩ | ⟨tip,rfl,_⟩<;>rfl
theorem C0.len {v:TV} {xs:List TV} (h:C0 v xs):lenS v=xs.length:=by
 rcases h with⟨rfl,rfl⟩ | ⟨tip,rfl,_⟩<;>rfl
theorem C0.lenZ {v:TV} {xs:List TV} (h:C0 v xs):lenZ 1 v=xs.length:=by
 rcases h with⟨rfl,rfl⟩ | ⟨tip,rfl,_⟩<;>rfl
theorem LL {T bytes:Nat} {st:St} {v y:TV} {xs:List TV} {K:TV->St->Prop} (h:C0 v xs) (ht:∀id,Bf v=some id->id<st.nt/\st.live id=true) (hby:(xs.length+1)*bytes<=140737488355328)
  (hK:∀v' st',C0 v' (xs++[y])->Bf v'=some st.nt->st'.box=st.box->st'.nb=st.nb->st'.bt=st.bt->st'.nt=st.nt+1->st'.live st.nt=true->(∀i,i<st.nt->Bf v≠some i->st'.live i=st.live i)->K v' st'):
  Cx T 1 bytes v 1 [y] st K:=by
 rcases h with⟨rfl,rfl⟩ | ⟨tip,rfl,rfl | ⟨id,rfl⟩⟩
 ·simp only[Cx]
  refine Aa (by rw[Nat.ble_eq];simpa using hby) (hK _ _ (.inr ⟨.own st.nt,rfl,.inr ⟨_,rfl⟩⟩) rfl rfl rfl rfl rfl (by simp[St.fresh]) fun i hi _=>?_)
  simp only[St.fresh];rw[if_neg (by omega)]
 ·simp only[Cx,Nat.beq_refl]
  refine⟨hby,hK _ _ (.inr ⟨.own st.nt,by simp,.inr ⟨_,rfl⟩⟩) rfl rfl rfl rfl rfl (by simp[St.fresh]) fun i hi _=>?_⟩
  simp only[St.fresh];rw[if_neg (by omega)]
 ·obtain⟨h1,h2⟩:=ht id rfl
  simp only[Cx,Nat.beq_refl]
  refine⟨hby,h2,hK _ _ (.inr ⟨.own st.nt,by simp,.inr ⟨_,rfl⟩⟩) rfl rfl rfl rfl rfl (by simp[St.fresh,St.retire]) fun i hi hne=>?_⟩
  have h3:i≠id:=fun e=>hne (by rw[e];rfl)
  have h4:i≠st.nt:=by omega
  simp[St.fresh,St.retire,h3,h4]
theorem Nf {t m e d:Nat} {kv:TV} {ks:List B8} {key:B8} {es:List (B8×TV)} {st:St} {K:St->Prop} (hb:st.box t= .cells [kv,.map m,.int .i64 d]) (hm:st.box m= .map es)
  (hr:C0 kv (ks.map TV.str)) (ht:∀id,Bf kv=some id->id<st.nt/\st.live id=true) (hl:ks.length<=1000000)
  (hk:∀kv' st',C0 kv' ((ks++[key]).map TV.str)->Bf kv'=some st.nt->st'.box=(fun x=>if x=m then .map (FD key (.box e 0) es)else if x=t then .cells [kv',.map m,.int .i64 d]else st.box x)->st'.nb=st.nb->st'.bt=st.bt->st'.nt=st.nt+1->
   st'.live st.nt=true->(∀i,i<st.nt->Bf kv≠some i->st'.live i=st.live i)->K st'):
  CallT PR AS [.box t 0,.str key,.box e 0] [] st K:=by
 have hmt:m≠t:=fun h=>by rw[h,hb]at hm;cases hm
 refine G1 t key e st K (Ae (x:=kv) (by simp only[Ac,hb];rfl) (LL hr ht (by rw[List.length_map];omega) fun v' st1 h1 h2 h3 h4 h5 h6 h7 h8=>?_))
 have h1':At v'=true:=by
  rcases h1 with⟨_,hx⟩ | ⟨tip,h9,_⟩
  ·simp at hx
  ·rw[h9];rfl
 refine Aa (by simp[h1']) ?_
 have hb1:st1.box t= .cells [kv,.map m,.int .i64 d]:=by rw[h3];exact hb
 refine⟨_,hb1,by simp,?_⟩
 refine Ae (x:= .map m) (by simp[Ac,St.put,setAll]) ?_
 refine⟨es,by simp only[St.put];rw[if_neg hmt,h3];exact hm,?_⟩
 refine hk v' _ (by rw[List.map_append];exact h1) h2 ?_ h4 h5 h6 h7 h8
 funext x
 simp only[St.put,h3,setAll]
 rfl
theorem allC {st:St} {up:List (Nat×TV)} (h:∀p,p∈up->Ao st p.1=true):(up.all fun p=>Ao st p.1)=true:=List.all_eq_true.2 h
theorem JJ {st:St} {ub k:Nat} {up:List (Nat×TV)} (hu:st.box ub= .pmap up) (h:∀p,p∈up->Ao st p.1=true) (hk:Ao st k=true):Lb st (.map ub) (.box k 0)=some (up,k):=by
 simp only[Lb,K8,hu,pkey,Nat.beq_refl,hk,allC h]
 rfl
theorem HM {bb ub d:Nat} {r n:TV} {nodes:Int} {up:List (Nat×TV)} {st:St} {K:TV->St->Prop} (hb:st.box bb= .cells [r,n,.map ub,.int .i64 nodes]) (hu:st.box ub= .pmap up) (hbb:bb<st.nb) (hub:ub<st.nb)
  (hc:∀p,p∈up->Ao st p.1=true/\p.1<st.nb) (hn:0<=nodes/\nodes<1000000000)
  (hk:∀st',st'.nb=st.nb+2->st'.box=(fun x=>if x=bb then .cells [r,n,.map ub,.int .i64 (nodes+1)]else if x=ub then .pmap (Ew (st.nb+1) (.bool true) up)else if x=st.nb+1 then .cells [.nilSlice,.map st.nb,.int .i64 d]else if x=st.nb then .map []else st.box x)->
   st'.nt=st.nt->st'.live=st.live->K (.box (st.nb+1) 0) st'):
  CallT PR AC [.box bb 0,.int .i64 d] [.one .tv] st K:=by
 have hbu:ub≠bb:=fun h=>by rw[h,hb]at hu;cases hu
 have e1:bb≠st.nb:=by omega
 have e2:bb≠st.nb+1:=by omega
 have e3:ub≠st.nb:=by omega
 have e4:ub≠st.nb+1:=by omega
 refine Fz bb d st K (Aa rfl (Ae (x:= .map ub) (by simp[Ac,St.push,e1,e2,hb]) ?_))
 have hg:Lb ((st.push (.map []) none).push (.cells [.nilSlice,.map st.nb,.int .i64 d]) (some 77)) (.map ub) (.box (st.nb+1) 0)=some (up,st.nb+1):=by
  refine JJ (by simp[St.push,e3,e4,hu]) (fun p hp=>?_) (by simp[Ao,St.push])
  obtain⟨h1,h2⟩:=hc p hp
  have h3:p.1≠st.nb:=by omega
  have h4:p.1≠st.nb+1:=by omega
  simp only[Ao]at h1
  simp[Ao,St.push,h3,h4,h1]
 refine Ae hg ?_
 refine Ae (x:= .int .i64 nodes) (by simp[Ac,St.push,St.put,Hh,Ne.symm hbu,e1,e2,hb]) (BE ?_)
 refine⟨[r,n,.map ub,.int .i64 nodes],by simp[St.push,St.put,Hh,Ne.symm hbu,e1,e2,hb],by simp,?_⟩
 rw[Ai _ (by omega) (by omega)]
 refine hk _ rfl ?_ rfl rfl
 funext x
 simp only[St.push,St.put,Hh,setAll]
 rfl
def z13:List TV:=AK scO .nilSlice .nilSlice .nilSlice
def Ky (σ:Nat->TV) (st:St) (eb:Nat):ShE->Prop
 | .opn b=>st.box eb= .cells (.box b 0:: .nilSlice::(z13++[.int .i64 0]))/\Bf (σ eb)=none
 | .lst bs=>C0 (σ eb) (bs.map fun b=> .box b 0)/\bs≠ []/\st.box eb= .cells (.nilPtr::σ eb::(z13++[.int .i64 0]))
 | .clo v i=>∃cs,VlR St.zero v cs/\cs.length=13/\st.box eb= .cells (.nilPtr:: .nilSlice::(cs++[.int .i64 i]))/\Bf (σ eb)=none
structure LP (σ:Nat->TV) (st:St) (s:Sh):Prop where
 cell:st.box s.b= .cells [σ s.b,.map s.m,.int .i64 s.d]
 row:C0 (σ s.b) ((s.es.map fun x=>x.1).map TV.str)
 mp:∃mp,st.box s.m= .map mp/\∀k,AA k mp=(D4 k s.es).map fun p=> .box p.1 0
 en:∀x,x∈s.es->Ky σ st x.2.1 x.2.2
structure HP (σ:Nat->TV) (st:St) (L:List Sh):Prop where
 nd:(bxL L).Nodup
 lt:∀x,x∈bxL L->x<st.nb
 sh:∀s,s∈L->LP σ st s
 tip:∀x,x∈bxL L->∀id,Bf (σ x)=some id->id<st.nt/\st.live id=true
 td:∀x,x∈bxL L->∀y,y∈bxL L->x≠y->∀id,Bf (σ x)=some id->Bf (σ y)≠some id
theorem Ky.fr {σ σ':Nat->TV} {st st':St} {eb:Nat} {e:ShE} (h:Ky σ st eb e) (hb:st'.box eb=st.box eb) (hs:σ' eb=σ eb):Ky σ' st' eb e:=by
 cases e with
 | opn b=>unfold Ky at h⊢;rw[hb,hs];exact h
 | lst bs=>unfold Ky at h⊢;rw[hb,hs];exact h
 | clo v i=>unfold Ky at h⊢;rw[hb,hs];exact h
theorem EA {s:Sh} {x:B8×Nat×ShE} (h:x∈s.es):x.2.1∈bxS s:= .tail _ (.tail _ (List.mem_map.2 ⟨x,h,rfl⟩))
theorem LP.fr {σ σ':Nat->TV} {st st':St} {s:Sh} (h:LP σ st s) (hb:∀x,x∈bxS s->st'.box x=st.box x/\σ' x=σ x):LP σ' st' s:=by
 have h1:=hb s.b (.head _)
 have h2:=hb s.m (.tail _ (.head _))
 exact⟨by rw[h1.1,h1.2];exact h.cell,by rw[h1.2];exact h.row,by rw[h2.1];exact h.mp,fun x hx=>(h.en x hx).fr (hb _ (EA hx)).1 (hb _ (EA hx)).2⟩
theorem Ja {A X B:List Sh} (h:(bxL (A++(X++B))).Nodup):(bxL A++bxL B).Nodup/\(bxL X).Nodup/\∀x,x∈bxL X->x∉bxL A/\x∉bxL B:=by
 rw[AN,AN]at h
 obtain⟨h1,h2,h3⟩:=List.nodup_append.1 h
 obtain⟨h4,h5,h6⟩:=List.nodup_append.1 h2
 exact⟨List.nodup_append.2 ⟨h1,h5,fun a ha b hb=>h3 a ha b (List.mem_append_right _ hb)⟩,h4,fun x hx=>⟨fun ha=>h3 x ha x (List.mem_append_left _ hx) rfl,fun hb=>h6 x hx x hb rfl⟩⟩
theorem HP.upd {σ σ':Nat->TV} {st st':St} {A X X' B:List Sh} (h:HP σ st (A++(X++B))) (hnb:st.nb<=st'.nb)
  (hbx:∀x,x∈bxL A∨x∈bxL B->st'.box x=st.box x/\σ' x=σ x)
  (hlv:∀x,x∈bxL A∨x∈bxL B->∀id,Bf (σ x)=some id->id<st'.nt/\st'.live id=true)
  (hX:∀s,s∈X'->LP σ' st' s) (hnd:(bxL X').Nodup) (hnew:∀x,x∈bxL X'->x<st'.nb/\(x∈bxL X∨st.nb<=x))
  (htip:∀x,x∈bxL X'->∀id,Bf (σ' x)=some id->id<st'.nt/\st'.live id=true/\((∃y,y∈bxL X/\Bf (σ y)=some id)∨st.nt<=id))
  (htd:∀x,x∈bxL X'->∀y,y∈bxL X'->x≠y->∀id,Bf (σ' x)=some id->Bf (σ' y)≠some id):HP σ' st' (A++(X'++B)):=by
 obtain⟨n1,n2,n3⟩:=Ja h.nd
 have mA:∀{x},x∈bxL A->x∈bxL (A++(X++B)):=fun hx=>by rw[AN];exact List.mem_append_left _ hx
 have mB:∀{x},x∈bxL B->x∈bxL (A++(X++B)):=fun hx=>by rw[AN,AN];exact List.mem_append_right _ (List.mem_append_right _ hx)
 have mX:∀{x},x∈bxL X->x∈bxL (A++(X++B)):=fun hx=>by rw[AN,AN];exact List.mem_append_right _ (List.mem_append_left _ hx)
 have mAB:∀{x},x∈bxL A∨x∈bxL B->x∈bxL (A++(X++B)):=fun hx=>hx.elim mA mB
 have dAB:∀{x},x∈bxL X'->¬(x∈bxL A∨x∈bxL B):=fun {x} hx hm=>by
  rcases (hnew x hx).2 with h1 | h1
  ·exact hm.elim (n3 x h1).1 (n3 x h1).2
  ·have:=h.lt x (mAB hm);omega
 have tAB:∀{x y},x∈bxL X'->(y∈bxL A∨y∈bxL B)->∀{id},Bf (σ' x)=some id->Bf (σ y)=some id->False:=fun {x y} hx hy {id} h1 h2=>by
  rcases (htip x hx id h1).2.2 with⟨z,hz,h3⟩ | h3
  ·exact h.td z (mX hz) y (mAB hy) (fun e=>by subst e;exact hy.elim (n3 z hz).1 (n3 z hz).2) id h3 h2
  ·have:=(h.tip y (mAB hy) id h2).1;omega
 have spl:∀{x},x∈bxL (A++(X'++B))->(x∈bxL A∨x∈bxL B)∨x∈bxL X':=fun {x} hx=>by
  rw[AN,AN]at hx
  rcases List.mem_append.1 hx with h1 | h1
  ·exact .inl (.inl h1)
  ·rcases List.mem_append.1 h1 with h2 | h2
   ·exact .inr h2
   ·exact .inl (.inr h2)
 refine⟨?_,fun x hx=>?_,fun s hs=>?_,fun x hx id hid=>?_,fun x hx y hy hne id h1 h2=>?_⟩
 ·rw[AN,AN]
  obtain⟨a1,a2,a3⟩:=List.nodup_append.1 n1
  refine List.nodup_append.2 ⟨a1,List.nodup_append.2 ⟨hnd,a2,fun x hx y hy e=>dAB hx (.inr (by rw[e];exact hy))⟩,fun x hx y hy e=>?_⟩
  rcases List.mem_append.1 hy with h1 | h1
  ·exact dAB h1 (.inl (by rw[<-e];exact hx))
  ·exact a3 x hx y h1 e
 ·rcases spl hx with h1 | h1
  ·exact Nat.lt_of_lt_of_le (h.lt x (mAB h1)) hnb
  ·exact(hnew x h1).1
 ·rcases List.mem_append.1 hs with h1 | h1
  ·exact(h.sh s (List.mem_append_left _ h1)).fr fun x hx=>hbx x (.inl (Bn h1 hx))
  ·rcases List.mem_append.1 h1 with h2 | h2
   ·exact hX s h2
   ·exact(h.sh s (List.mem_append_right _ (List.mem_append_right _ h2))).fr fun x hx=>hbx x (.inr (Bn h2 hx))
 ·rcases spl hx with h1 | h1
  ·exact hlv x h1 id ((hbx x h1).2▸hid)
  ·exact⟨(htip x h1 id hid).1,(htip x h1 id hid).2.1⟩
 ·rcases spl hx with h3 | h3<;>rcases spl hy with h4 | h4
  ·exact h.td x (mAB h3) y (mAB h4) hne id ((hbx x h3).2▸h1) ((hbx y h4).2▸h2)
  ·exact tAB h4 h3 h2 ((hbx x h3).2▸h1)
  ·exact tAB h3 h4 h1 ((hbx y h4).2▸h2)
  ·exact htd x h3 y h4 hne id h1 h2
theorem HP.add {σ σ':Nat->TV} {st st':St} {A R N B:List Sh} {s:Sh} {k:B8} {eb:Nat} {e:ShE} (h:HP σ st (A++((s::R)++B))) (hnb:st.nb<=st'.nb)
  (hbx:∀x,x∈bxL (A++((s::R)++B))->x≠s.b->x≠s.m->st'.box x=st.box x/\σ' x=σ x)
  (hlv:∀x,x∈bxL (A++((s::R)++B))->x≠s.b->∀id,Bf (σ x)=some id->id<st'.nt/\st'.live id=true)
  (hc:st'.box s.b= .cells [σ' s.b,.map s.m,.int .i64 s.d]) (hr:C0 (σ' s.b) (((s.es++[(k,eb,e)]).map fun x=>x.1).map TV.str))
  (hm:∃mp,st.box s.m= .map mp/\st'.box s.m= .map (FD k (.box eb 0) mp)) (hsm:σ' s.m=σ s.m) (hk:D4 k s.es=none) (he:Ky σ' st' eb e)
  (hN:∀s',s'∈N->LP σ' st' s') (hnd:(eb::bxL N).Nodup) (hnew:∀x,x∈eb::bxL N->st.nb<=x/\x<st'.nb)
  (htip:∀x,x∈s.b::eb::bxL N->∀id,Bf (σ' x)=some id->st.nt<=id/\id<st'.nt/\st'.live id=true)
  (htd:∀x,x∈s.b::eb::bxL N->∀y,y∈s.b::eb::bxL N->x≠y->∀id,Bf (σ' x)=some id->Bf (σ' y)≠some id):
  HP σ' st' (A++((⟨s.b,s.m,s.hd,s.d,s.es++[(k,eb,e)]⟩::(R++N))++B)):=by
 obtain⟨n1,n2,n3⟩:=Ja h.nd
 have hin:∀{x},x∈bxL (s::R)->x∈bxL (A++((s::R)++B)):=fun hx=>by rw[AN,AN];exact List.mem_append_right _ (List.mem_append_left _ hx)
 have hsR:s∈A++((s::R)++B):=List.mem_append_right _ (List.mem_append_left _ (.head _))
 have hsb:s.b∈bxL (s::R):=by rw[A1];exact List.mem_append_left _ (.head _)
 have hsmm:s.m∈bxL (s::R):=by rw[A1];exact List.mem_append_left _ (.tail _ (.head _))
 have hS:=h.sh s hsR
 rw[A1]at n2
 obtain⟨m1,m2,m3⟩:=List.nodup_append.1 n2
 have hbm:s.m≠s.b:=fun e=>by
  have:=hS.cell;obtain⟨mp,h1,_⟩:=hS.mp;rw[e,this]at h1;cases h1
 have eE:bxL (⟨s.b,s.m,s.hd,s.d,s.es++[(k,eb,e)]⟩::(R++N))=(s.b::s.m::(s.es.map (fun x=>x.2.1)++[eb]))++(bxL R++bxL N):=by
  rw[A1,AN]
  show(s.b::s.m::(s.es++[(k,eb,e)]).map (fun x=>x.2.1))++_=_
  rw[List.map_append];rfl
 have mem':∀{x},x∈bxL (⟨s.b,s.m,s.hd,s.d,s.es++[(k,eb,e)]⟩::(R++N))->x∈bxL (s::R)∨x∈eb::bxL N:=fun {x} hx=>by
  rw[eE]at hx
  rw[A1]
  rcases List.mem_append.1 hx with h1 | h1
  ·rcases List.mem_cons.1 h1 with rfl | h1
   ·exact .inl (List.mem_append_left _ (.head _))
   ·rcases List.mem_cons.1 h1 with rfl | h1
    ·exact .inl (List.mem_append_left _ (.tail _ (.head _)))
    ·rcases List.mem_append.1 h1 with h2 | h2
     ·exact .inl (List.mem_append_left _ (.tail _ (.tail _ h2)))
     ·rw[List.mem_singleton.1 h2];exact .inr (.head _)
  ·rcases List.mem_append.1 h1 with h2 | h2
   ·exact .inl (List.mem_append_right _ h2)
   ·exact .inr (.tail _ h2)
 have old:∀{x},x∈bxL (s::R)->x≠s.b->σ' x=σ x:=fun {x} hx hne=>by
  by_cases hxm:x=s.m
  ·rw[hxm];exact hsm
  ·exact(hbx x (hin hx) hne hxm).2
 have hRes:∀s',s'∈R->∀x,x∈bxS s'->st'.box x=st.box x/\σ' x=σ x:=fun s' hs' x hx=>by
  have hxR:x∈bxL R:=Bn hs' hx
  refine hbx x (hin (by rw[A1];exact List.mem_append_right _ hxR)) (fun e=>?_) fun e=>?_
  ·exact m3 s.b (.head _) x hxR e.symm
  ·exact m3 s.m (.tail _ (.head _)) x hxR e.symm
 refine h.upd hnb (fun x hx=>?_) (fun x hx id hid=>?_) (fun s' hs'=>?_) ?_ (fun x hx=>?_) (fun x hx id hid=>?_) fun x hx y hy hne id h1 h2=>?_
 ·have hx':x∈bxL (A++((s::R)++B)):=by
   rw[AN,AN];exact hx.elim (fun h=>List.mem_append_left _ h) fun h=>List.mem_append_right _ (List.mem_append_right _ h)
  refine hbx x hx' (fun e=>?_) fun e=>?_
  ·subst e;exact hx.elim (n3 _ hsb).1 (n3 _ hsb).2
  ·subst e;exact hx.elim (n3 _ hsmm).1 (n3 _ hsmm).2
 ·have hx':x∈bxL (A++((s::R)++B)):=by
   rw[AN,AN];exact hx.elim (fun h=>List.mem_append_left _ h) fun h=>List.mem_append_right _ (List.mem_append_right _ h)
  exact hlv x hx' (fun e=>by subst e;exact hx.elim (n3 _ hsb).1 (n3 _ hsb).2) id hid
 ·rcases List.mem_cons.1 hs' with rfl | hs'
  ·refine⟨hc,hr,?_,fun x hx=>?_⟩
   ·obtain⟨mp,h1,h2⟩:=hm
    obtain⟨mp2,h3,h4⟩:=hS.mp
    rw[h3]at h1;cases h1
    refine⟨_,h2,fun k2=>?_⟩
    rw[IG,h4 k2,Mw]
    by_cases hkk:k2=k
    ·subst hkk;rw[if_pos rfl,hk,if_pos rfl];rfl
    ·rw[if_neg hkk,if_neg hkk]
     cases D4 k2 s.es<;>rfl
   ·rcases List.mem_append.1 hx with h1 | h1
    ·have hxb:x.2.1∈s.es.map fun x=>x.2.1:=List.mem_map.2 ⟨x,h1,rfl⟩
     have hxn:x.2.1≠s.b:=fun e=>by
      have:=(List.nodup_cons.1 m1).1
      exact this (.tail _ (e▸hxb))
     have hxm:x.2.1≠s.m:=fun e=>by
      have:=(List.nodup_cons.1 (List.nodup_cons.1 m1).2).1
      exact this (e▸hxb)
     have:=hbx x.2.1 (Bn hsR (EA h1)) hxn hxm
     exact(hS.en x h1).fr this.1 this.2
    ·rw[List.mem_singleton.1 h1];exact he
  ·rcases List.mem_append.1 hs' with h1 | h1
   ·exact(h.sh s' (List.mem_append_right _ (List.mem_append_left _ (.tail _ h1)))).fr (hRes s' h1)
   ·exact hN s' h1
 ·have hlt:∀{x},x∈bxS s++bxL R->x<st.nb:=fun hx=>h.lt _ (hin (by rw[A1];exact hx))
  obtain⟨q1,q2⟩:=List.nodup_cons.1 hnd
  have e2:bxS s=s.b::s.m::s.es.map fun x=>x.2.1:=rfl
  rw[eE]
  refine List.nodup_append.2 ⟨?_,List.nodup_append.2 ⟨m2,q2,fun x hx y hy e=>?_⟩,fun x hx y hy e=>?_⟩
  ·have e3:s.b::s.m::(s.es.map (fun x=>x.2.1)++[eb])=bxS s++[eb]:=rfl
   rw[e3]
   refine List.nodup_append.2 ⟨m1,by simp,fun x hx y hy e=>?_⟩
   rw[List.mem_singleton.1 hy]at e
   have h1:=hlt (List.mem_append_left _ hx)
   have h2:=(hnew eb (.head _)).1
   omega
  ·have h1:=hlt (List.mem_append_right _ hx)
   have h2:=(hnew y (.tail _ hy)).1
   omega
  ·have e3:s.b::s.m::(s.es.map (fun x=>x.2.1)++[eb])=bxS s++[eb]:=rfl
   rw[e3]at hx
   subst e
   rcases List.mem_append.1 hx with h1 | h1
   ·rcases List.mem_append.1 hy with h2 | h2
    ·exact m3 x h1 x h2 rfl
    ·have h3:=hlt (List.mem_append_left _ h1)
     have h4:=(hnew x (.tail _ h2)).1
     omega
   ·have h5:=List.mem_singleton.1 h1
    subst h5
    rcases List.mem_append.1 hy with h2 | h2
    ·have h3:=hlt (List.mem_append_right _ h2)
     have h4:=(hnew x (.head _)).1
     omega
    ·exact q1 h2
 ·rcases mem' hx with h1 | h1
  ·exact⟨Nat.lt_of_lt_of_le (h.lt x (hin h1)) hnb,.inl h1⟩
  ·exact⟨(hnew x h1).2,.inr (hnew x h1).1⟩
 ·rcases mem' hx with h1 | h1
  ·by_cases hxb:x=s.b
   ·subst hxb
    have:=htip _ (.head _) id hid
    exact⟨this.2.1,this.2.2,.inr this.1⟩
   ·rw[old h1 hxb]at hid
    have:=hlv x (hin h1) hxb id hid
    exact⟨this.1,this.2,.inl ⟨x,h1,hid⟩⟩
  ·have:=htip x (.tail _ h1) id hid
   exact⟨this.2.1,this.2.2,.inr this.1⟩
 ·have cl:∀{x},x∈bxL (s::R)∨x∈eb::bxL N->(x∈s.b::eb::bxL N)∨(x∈bxL (s::R)/\x≠s.b):=fun {x} hx=>by
   rcases hx with h3 | h3
   ·by_cases hxb:x=s.b
    ·rw[hxb];exact .inl (.head _)
    ·exact .inr ⟨h3,hxb⟩
   ·exact .inl (.tail _ h3)
  rcases cl (mem' hx)with h3 | ⟨h3,h3'⟩<;>rcases cl (mem' hy)with h4 | ⟨h4,h4'⟩
  ·exact htd x h3 y h4 hne id h1 h2
  ·have g1:=(htip x h3 id h1).1
   rw[old h4 h4']at h2
   have g2:=(h.tip y (hin h4) id h2).1
   omega
  ·have g1:=(htip y h4 id h2).1
   rw[old h3 h3']at h1
   have g2:=(h.tip x (hin h3) id h1).1
   omega
  ·rw[old h3 h3']at h1
   rw[old h4 h4']at h2
   exact h.td x (hin h3) y (hin h4) hne id h1 h2
end Go.TVF
section
namespace Go.TVF
open Go.IntKind(i64 u8)
structure Chg (v v' u u':Vl) (g:Nat):Prop where
 cnt:v'.cnt+u.cnt=v.cnt+u'.cnt
 sz:v'.sz+u.sz=v.sz+u'.sz
 lv:lvV v'<=max (lvV v) (g+lvV u')
 lvu:g+lvV u<=lvV v
 vu:Az v->Az u
 va:Az v->Az u'->Az v'
theorem Chg.refl (u u':Vl):Chg u u' u u' 0:=⟨by omega,by omega,by omega,by omega,id,fun _ h=>h⟩
theorem Chg.trans {v v' w w' u u':Vl} {g h:Nat} (a:Chg v v' w w' g) (b:Chg w w' u u' h):Chg v v' u u' (g+h):=
 ⟨by have:=a.cnt;have:=b.cnt;omega,by have:=a.sz;have:=b.sz;omega,by have:=a.lv;have:=b.lv;have:=a.lvu;omega,by have:=a.lvu;have:=b.lvu;omega,fun x=>b.vu (a.vu x),fun x y=>a.va x (b.va (a.vu x) y)⟩
theorem Jb (l m:List Fd):BI (l++m)=max (BI l) (BI m):=by
 induction l with
 | nil=>simp[BI]
 | cons d r ih=>simp only[List.cons_append,BI,ih];omega
theorem Hi (l m:List Vl):BS (l++m)=max (BS l) (BS m):=by
 induction l with
 | nil=>simp[BS]
 | cons d r ih=>simp only[List.cons_append,BS,ih];omega
theorem ES (l m:List Fd):Bb (l++m)↔Bb l/\Bb m:=by
 induction l with
 | nil=>simp[Bb]
 | cons d r ih=>simp only[List.cons_append,Bb,ih,and_assoc]
theorem DL (l m:List Vl):AX (l++m)↔AX l/\AX m:=by
 induction l with
 | nil=>simp[AX]
 | cons d r ih=>simp only[List.cons_append,AX,ih,and_assoc]
theorem MD:∀(f f':List Fd) (seen:List B8),f.map Fd.key=f'.map Fd.key->Dd seen f=Dd seen f'
 | [],[],_,_=>rfl
 | [],d::r,_,h=>by simp at h
 | d::r,[],_,h=>by simp at h
 | d::r,d'::r',seen,h=>by
  rw[List.map_cons,List.map_cons,List.cons.injEq]at h
  unfold Dd
  rw[h.1,MD r r' _ h.2]
theorem OP {f f':List Fd} (h:Kj scM [] f) (hk:Dd [] f'=0):Kj scM [] f':=
 ⟨⟨h.own.k0,h.own.k7,h.own.bo,h.own.nu,h.own.ti,h.own.tx,h.own.by_,h.own.ls,fun h=>absurd rfl h⟩,h.dec,h.time,h.text,h.tlen,h.blen,hk⟩
theorem SI {l l':List Vl} (h:Kj scL l []):Kj scL l' []:=
 ⟨⟨h.own.k0,h.own.k7,h.own.bo,h.own.nu,h.own.ti,h.own.tx,h.own.by_,fun h=>absurd rfl h,h.own.fs⟩,h.dec,h.time,h.text,h.tlen,h.blen,h.keys⟩
theorem Chg.fld (F G:List Fd) (k:B8) (u u':Vl):Chg (.mk scM [] (F++ .mk k u::G)) (.mk scM [] (F++ .mk k u'::G)) u u' 1:=by
 refine⟨?_,?_,?_,?_,fun h=>?_,fun h g=>?_⟩
 ·simp only[Vl.cnt,DR,Av,Fd.cnt];omega
 ·simp only[Vl.sz,Hm,Bs,Fd.sz];omega
 ·simp only[lvV,Jb,BI,lvD];omega
 ·simp only[lvV,Jb,BI,lvD];omega
 ·unfold Az at h
  have:=((ES _ _).1 h.2.2).2
  unfold Bb Cl at this
  exact this.1
 ·unfold Az at h⊢
  obtain⟨h1,h2,h3⟩:=h
  obtain⟨h4,h5⟩:=(ES _ _).1 h3
  refine⟨OP h1 ?_,h2,(ES _ _).2 ⟨h4,?_⟩⟩
  ·rw[<-h1.keys];exact MD _ _ _ (by simp[Fd.key])
  ·unfold Bb Cl at h5⊢;exact⟨g,h5.2⟩
theorem Chg.lst (A B:List Vl) (u u':Vl):Chg (.mk scL (A++u::B) []) (.mk scL (A++u'::B) []) u u' 1:=by
 refine⟨?_,?_,?_,?_,fun h=>?_,fun h g=>?_⟩
 ·simp only[Vl.cnt,CV,Aw];omega
 ·simp only[Vl.sz,G0,Bz];omega
 ·simp only[lvV,Hi,BS];omega
 ·simp only[lvV,Hi,BS];omega
 ·unfold Az at h
  have:=((DL _ _).1 h.2.1).2
  unfold AX at this
  exact this.1
 ·unfold Az at h⊢
  obtain⟨h1,h2,h3⟩:=h
  obtain⟨h4,h5⟩:=(DL _ _).1 h2
  refine⟨SI h1,(DL _ _).2 ⟨h4,?_⟩,h3⟩
  unfold AX at h5⊢;exact⟨g,h5.2⟩
theorem DP {k:B8}:∀{es:List Kn} {eb:Nat} {e:En},Ah k es=some (eb,e)->∃F G,AJ es=F++ .mk k (AH e)::G/\∀x,AJ (BN k x es)=F++ .mk k (AH x)::G
 | .mk k' eb' e'::r,eb,e,h=>by
  unfold Ah at h
  by_cases hk:k=k'
  ·rw[if_pos hk]at h
   cases h
   subst hk
   exact⟨[],AJ r,by rw[AJ,List.nil_append],fun x=>by rw[BN,if_pos rfl,AJ,List.nil_append]⟩
  ·rw[if_neg hk]at h
   obtain⟨F,G,h1,h2⟩:=DP h
   exact⟨.mk k' (AH e')::F,G,by rw[AJ,h1];rfl,fun x=>by rw[BN,if_neg hk,AJ,h2 x];rfl⟩
theorem MG:∀{l:List Tb} {i:Nat} {u:Tb},l[i]? =some u->∃A B,AZ l=A++Af u::B/\∀x,AZ (l.set i x)=A++Af x::B
 | t::r,0,u,h=>by cases h;exact⟨[],AZ r,by rw[AZ,List.nil_append],fun x=>by rw[List.set_cons_zero,AZ,List.nil_append]⟩
 | t::r,i+1,u,h=>by
  obtain⟨A,B,h1,h2⟩:=MG (l:=r) (i:=i) (u:=u) (by simpa using h)
  exact⟨Af t::A,B,by rw[AZ,h1];rfl,fun x=>by rw[List.set_cons_succ,AZ,h2 x];rfl⟩
theorem CR:∀(h:List Hop) {T t:Tb},atT T h=some t->∀t',Chg (Af T) (Af (Ay T h t')) (Af t) (Af t') (dpH h)
 | [],T,t,hA,t'=>by cases T;cases hA;exact Chg.refl _ _
 | (k,none)::h,.mk b m hd es,t,hA,t'=>by
  rw[atT]at hA
  rcases hl:Ah k es with _ | ⟨eb,u | l | ⟨v,i⟩⟩<;>rw[hl]at hA<;>simp only at hA<;>try (cases hA;done)
  obtain⟨F,G,h1,h2⟩:=DP hl
  have:=(Chg.fld F G k (Af u) (Af (Ay u h t'))).trans (CR h hA t')
  rw[Ay,hl]
  simp only
  rw[Af,Af,h1,h2,AH,AH,dpH,Nat.add_comm]
  exact this
 | (k,some j)::h,.mk b m hd es,t,hA,t'=>by
  rw[atT]at hA
  rcases hl:Ah k es with _ | ⟨eb,u | l | ⟨v,i⟩⟩<;>rw[hl]at hA<;>simp only at hA<;>try (cases hA;done)
  cases hj:l[j]? with
  | none=>simp[hj]at hA
  | some u=>
  rw[hj]at hA
  simp only at hA
  obtain⟨F,G,h1,h2⟩:=DP hl
  obtain⟨A,B,h3,h4⟩:=MG hj
  have:=((Chg.fld F G k (.mk scL (A++Af u::B) []) (.mk scL (A++Af (Ay u h t')::B) [])).trans (Chg.lst A B _ _)).trans (CR h hA t')
  rw[Ay,hl]
  simp only[hj]
  rw[Af,Af,h1,h2,AH,AH,h3,h4,dpH,show dpH h+2=1+1+dpH h by omega]
  exact this
theorem Eh (t:Tb):Af t= .mk scM [] (AJ t.es):=by cases t;rw[Af];rfl
theorem IO (t:Tb) (k:B8) (eb:Nat) (e:En):Af (AO t k eb e)= .mk scM [] (AJ t.es++[.mk k (AH e)]):=by
 unfold AO
 rw[Af,Hz,AJ,AJ]
theorem Jp (t:Tb) (k:B8) (eb:Nat) (e:En):(Af (AO t k eb e)).cnt=(Af t).cnt+(AH e).cnt:=by
 rw[IO,Eh t]
 simp only[Vl.cnt,DR,Av,Fd.cnt];omega
theorem PI (t:Tb) (k:B8) (eb:Nat) (e:En):(Af (AO t k eb e)).sz=(Af t).sz+k.length+(AH e).sz:=by
 rw[IO,Eh t]
 simp only[Vl.sz,Hm,Bs,Fd.sz];omega
theorem NB (t:Tb) (k:B8) (eb:Nat) (e:En):lvV (Af (AO t k eb e))=max (lvV (Af t)) (1+lvV (AH e)):=by
 rw[IO,Eh t]
 simp only[lvV,Jb,BI,lvD];omega
theorem O0 (es:List Kn):(AJ es).map Fd.key=es.map Kn.key:=by
 rw[Hy,List.map_map];rfl
theorem Jw {t:Tb} {k:B8} {eb:Nat} {e:En} (h:Az (Af t)) (hl:Ah k t.es=none) (h8:U8 k) (hk:k.length<=1024) (he:Az (AH e)):Az (Af (AO t k eb e)):=by
 rw[Eh]at h
 rw[IO]
 unfold Az at h⊢
 obtain⟨h1,h2,h3⟩:=h
 obtain⟨k1,k2⟩:=Jg _ _ h1.keys
 refine⟨OP h1 (O1 _ _ ?_ fun d hd=>?_),h2,(ES _ _).2 ⟨h3,?_⟩⟩
 ·unfold Cm at k1⊢
  rw[List.map_append]
  refine List.nodup_append.2 ⟨k1,by simp,fun x hx y hy e=>?_⟩
  rw[O0]at hx
  obtain⟨d,hd,rfl⟩:=List.mem_map.1 hx
  simp only[List.map_cons,List.map_nil,List.mem_singleton]at hy
  subst hy
  exact Iz hl d hd e
 ·rcases List.mem_append.1 hd with h4 | h4
  ·exact k2 d h4
  ·rw[List.mem_singleton.1 h4];exact⟨by simp,h8,hk⟩
 ·unfold Bb Cl Bb;exact⟨he,trivial⟩
theorem NE (t:Tb):t.es.length<(Af t).cnt:=by
 rw[Eh]
 have:∀es:List Kn,es.length<=Av (AJ es):=by
  intro es
  induction es with
  | nil=>simp
  | cons d r ih=>
   obtain⟨k,eb,e⟩:=d
   rw[AJ,Av,Fd.cnt,List.length_cons]
   have:1<=(AH e).cnt:=by cases AH e;unfold Vl.cnt;omega
   omega
 have:=this t.es
 unfold Vl.cnt
 omega
theorem Rq {T t:Tb} {h:List Hop} (hA:atT T h=some t):(Af t).cnt<=(Af T).cnt/\(Af t).sz<=(Af T).sz:=by
 have:=CR h hA (.mk 0 0 false [])
 have h1:=this.cnt
 have h2:=this.sz
 have h3:(Af (.mk 0 0 false [])).cnt=1:=by rw[Af,AJ];simp[Vl.cnt,Aw,Av]
 have h4:(Af (.mk 0 0 false [])).sz=1:=by rw[Af,AJ];simp[Vl.sz,Bz,Bs,scM]
 have h5:1<=(Af (Ay T h (.mk 0 0 false []))).cnt:=by cases Af (Ay T h (.mk 0 0 false []));unfold Vl.cnt;omega
 have h6:=(Af (Ay T h (.mk 0 0 false []))).sz_pos
 omega
end Go.TVF
end
namespace Go.TVF
open Go.IntKind(i64 u8)
open Go Go.Proofs
theorem NA {a b:Nat} (h:a≠b):Nat.beq a b=false:=by rw[Bool.eq_false_iff];exact fun e=>h (Nat.eq_of_beq_eq_true e)
theorem DT (k k':Nat) (v:TV):∀es:List (Nat×TV),BD k (Ew k' v es)=if k=k' then some v else BD k es
 | []=>by
  unfold Ew BD
  by_cases h:k=k'
  ·subst h;simp[BD]
  ·have:Nat.beq k k'=false:=NA (h)
   rw[this,if_neg h];rfl
 | (k2,v2)::es=>by
  unfold Ew
  by_cases h2:k'=k2
  ·subst h2
   rw[Nat.beq_refl]
   by_cases h:k=k'
   ·subst h;simp[BD]
   ·have:Nat.beq k k'=false:=NA (h)
    simp only[BD,this,if_neg h]
  ·have e:Nat.beq k' k2=false:=NA (h2)
   rw[e]
   simp only[BD]
   by_cases h:k=k2
   ·subst h;rw[Nat.beq_refl,if_neg (fun g=>h2 g.symm)]
   ·have:Nat.beq k k2=false:=NA (h)
    rw[this]
    simp only
    exact DT k k' v es
theorem IX (k:Nat) (v:TV):∀es:List (Nat×TV),∀p,p∈Ew k v es->p=(k,v)∨p∈es
 | [],p,h=> .inl (List.mem_singleton.1 h)
 | (k2,v2)::es,p,h=>by
  unfold Ew at h
  cases hb:Nat.beq k k2 with
  | true=>
   rw[hb]at h
   rcases List.mem_cons.1 h with rfl | h
   ·exact .inl rfl
   ·exact .inr (.tail _ h)
  | false=>
   rw[hb]at h
   rcases List.mem_cons.1 h with rfl | h
   ·exact .inr (.head _)
   ·exact(IX k v es p h).imp id (.tail _)
theorem HD (k:Nat) (v:TV):∀es:List (Nat×TV),(∀p,p∈es->p.1≠k)->(Ew k v es).map Prod.fst=es.map Prod.fst++[k]
 | [],_=>rfl
 | (k2,v2)::es,h=>by
  have h2:=h (k2,v2) (.head _)
  have e:Nat.beq k k2=false:=NA (Ne.symm h2)
  unfold Ew
  rw[e]
  simp only[List.map_cons,List.cons_append]
  rw[HD k v es fun p hp=>h p (.tail _ hp)]
theorem LA (k:Nat):∀es:List (Nat×TV),∀p,p∈GL k es->p∈es
 | [],p,h=>by cases h
 | (k2,v2)::es,p,h=>by
  unfold GL at h
  cases hb:Nat.beq k k2 with
  | true=>rw[hb]at h;exact .tail _ h
  | false=>
   rw[hb]at h
   rcases List.mem_cons.1 h with rfl | h
   ·exact .head _
   ·exact .tail _ (LA k es p h)
theorem Rl (k:Nat):∀es:List (Nat×TV),(es.map Prod.fst).Nodup->((GL k es).map Prod.fst).Nodup
 | [],_=>List.nodup_nil
 | (k2,v2)::es,h=>by
  rw[List.map_cons,List.nodup_cons]at h
  unfold GL
  cases hb:Nat.beq k k2 with
  | true=>exact h.2
  | false=>
   simp only[List.map_cons,List.nodup_cons]
   refine⟨fun hm=>?_,Rl k es h.2⟩
   obtain⟨p,hp,he⟩:=List.mem_map.1 hm
   exact h.1 (List.mem_map.2 ⟨p,LA k es p hp,he⟩)
theorem Lt {k:Nat}:∀{es:List (Nat×TV)},k∉es.map Prod.fst->BD k es=none
 | [],_=>rfl
 | (k2,v2)::es,h=>by
  rw[List.map_cons,List.mem_cons,not_or]at h
  have:Nat.beq k k2=false:=NA (h.1)
  simp only[BD,this]
  exact Lt h.2
theorem JX (k k':Nat):∀es:List (Nat×TV),(es.map Prod.fst).Nodup->BD k (GL k' es)=if k=k' then none else BD k es
 | [],_=>by unfold GL BD;split<;>rfl
 | (k2,v2)::es,h=>by
  rw[List.map_cons,List.nodup_cons]at h
  unfold GL
  by_cases h2:k'=k2
  ·subst h2
   rw[Nat.beq_refl]
   by_cases hk:k=k'
   ·subst hk;rw[if_pos rfl];exact Lt h.1
   ·have:Nat.beq k k'=false:=NA (hk)
    simp only[BD,this,if_neg hk]
  ·have e:Nat.beq k' k2=false:=NA (h2)
   rw[e]
   simp only[BD]
   by_cases hk:k=k2
   ·subst hk;rw[Nat.beq_refl,if_neg (fun g=>h2 g.symm)]
   ·have:Nat.beq k k2=false:=NA (hk)
    rw[this]
    simp only
    exact JX k k' es h.2
structure Un (ub:Nat) (L:List Sh) (st:St) (up:List (Nat×TV)):Prop where
 box:st.box ub= .pmap up
 nd:(up.map Prod.fst).Nodup
 ok:∀p,p∈up->Ao st p.1=true/\p.1<st.nb
 fd:∀s,s∈L->BD s.b up=if s.hd=true then none else some (.bool true)
structure BH (bb ub:Nat) (now:TV) (T:Tb) (nodes:Nat) (σ:Nat->TV) (st:St):Prop where
 hp:HP σ st (shT 1 T)
 cell:st.box bb= .cells [.box T.b 0,now,.map ub,.int .i64 nodes]
 un:∃up,Un ub (shT 1 T) st up
 bl:bb<st.nb
 ul:ub<st.nb
 bx:bb∉bxL (shT 1 T)
 ux:ub∉bxL (shT 1 T)
theorem QW {A R N B:List Sh} {s s':Sh} {eb:Nat} (hs:bxS s'=bxS s++[eb]) {x:Nat} (h:x∈bxL (A++((s'::(R++N))++B))):x∈bxL (A++((s::R)++B))∨x=eb∨x∈bxL N:=by
 simp only[AN,A1,List.mem_append,hs,List.mem_singleton]at h⊢
 rcases h with h | (((h | h) | h | h) | h)
 ·exact .inl (.inl h)
 ·exact .inl (.inr (.inl (.inl h)))
 ·exact .inr (.inl h)
 ·exact .inl (.inr (.inl (.inr h)))
 ·exact .inr (.inr h)
 ·exact .inl (.inr (.inr h))
theorem OO {bb ub:Nat} {now:TV} {T t:Tb} {nodes:Nat} {σ:Nat->TV} {st:St} {h:List Hop} {k:B8} (H:BH bb ub now T nodes σ st) (hA:atT T h=some t) (hl:Ah k t.es=none) (hn:nodes<900000) (hcn:(Af T).cnt=nodes)
  {K:TV->St->St->Prop}
  (hk:∀nu σ' st2 st',nu.eb=st2.nb->BH bb ub now (Ay T h (AO t k nu.eb (.opn (AI nu false)))) (nodes+1) σ' st'->K (.box nu.b 0) st2 st'):
  CallT PR AC [.box bb 0,.int .i64 ((1+dpH h+1:Nat):Int)] [.one .tv] st fun v st2=>need (List.all [v] At)
   (CallT PR AS [.box t.b 0,.str k,.box st2.nb 0] [] (st2.push (.cells (v:: .nilSlice::(z13++[.int .i64 0]))) (some 81)) fun st3=>K v st2 st3):=by
 obtain⟨A,B,e1,e2⟩:=HV h hA 1
 rw[Ep (1+dpH h) t]at e1
 have hp:=H.hp
 rw[e1]at hp
 obtain⟨up,hup⟩:=H.un
 have ht':=e2 (AO t k (st.nb+2) (.opn (AI ⟨st.nb+1,st.nb,st.nb+2⟩ false))) rfl
 rw[Nl]at ht'
 have hS:=hp.sh _ (List.mem_append_right A (List.mem_append_left B (List.mem_cons_self ..)))
 have hin:∀{x},x∈bxS ⟨t.b,t.m,t.hd,1+dpH h,t.es.map shK⟩->x∈bxL (A++((⟨t.b,t.m,t.hd,1+dpH h,t.es.map shK⟩::BR (1+dpH h) t.es)++B)):=fun hx=>
  Bn (List.mem_append_right A (List.mem_append_left B (List.mem_cons_self ..))) hx
 have itb:=hin (x:=t.b) (.head _)
 have itm:=hin (x:=t.m) (.tail _ (.head _))
 have ltb:t.b<st.nb:=hp.lt _ itb
 have ltm:t.m<st.nb:=hp.lt _ itm
 have bx:=H.bx
 have ux:=H.ux
 rw[e1]at bx ux
 have nb1:t.b≠bb:=fun e=>bx (e▸itb)
 have nb2:t.b≠ub:=fun e=>ux (e▸itb)
 have nm1:t.m≠bb:=fun e=>bx (e▸itm)
 have nm2:t.m≠ub:=fun e=>ux (e▸itm)
 have hbl:=H.bl
 have hul:=H.ul
 have hbu:bb≠ub:=fun e=>by have:=H.cell;rw[e,hup.box]at this;cases this
 obtain⟨mp,hm1,hm2⟩:=hS.mp
 have hmt:t.m≠t.b:=fun e=>by have:=hS.cell;simp only at this hm1;rw[e,this]at hm1;cases hm1
 refine HM H.cell hup.box hbl hul hup.ok ⟨by omega,by omega⟩ fun st1 hnb hbox hnt hlive=>Aa rfl ?_
 have k1:∀x,x<st.nb->x≠bb->x≠ub->st1.box x=st.box x:=fun x h1 h2 h3=>by
  rw[hbox];simp only;rw[if_neg h2,if_neg h3,if_neg (by omega),if_neg (by omega)]
 have hlen:(t.es.map shK).length<=1000000:=by
  rw[List.length_map];have:=NE t;have:=(Rq hA).1;omega
 refine Nf (kv:=σ t.b) (d:=1+dpH h) (m:=t.m) (ks:=(t.es.map shK).map fun x=>x.1) (es:=mp) ?_ ?_ hS.row ?_ (by rw[List.length_map];exact hlen) fun kv' st' r1 r2 r3 r4 r5 r6 r7 r8=>?_
 ·show(if t.b=st1.nb then _ else st1.box t.b)=_
  rw[if_neg (by omega),k1 _ ltb nb1 nb2];exact hS.cell
 ·show(if t.m=st1.nb then _ else st1.box t.m)=_
  rw[if_neg (by omega),k1 _ ltm nm1 nm2];exact hm1
 ·intro id hid
  obtain⟨q1,q2⟩:=hp.tip t.b itb id hid
  show id<st1.nt/\st1.live id=true
  rw[hnt,hlive];exact⟨q1,q2⟩
 have bx':∀x,st'.box x=if x=t.m then .map (FD k (.box (st.nb+2) 0) mp)else if x=t.b then .cells [kv',.map t.m,.int .i64 ((1+dpH h:Nat):Int)]else if x=st.nb+2 then .cells (.box (st.nb+1) 0:: .nilSlice::(z13++[.int .i64 0]))else st1.box x:=fun x=>by
  rw[r3];simp only[St.push,hnb]
 have nb':st'.nb=st.nb+3:=by rw[r4];simp only[St.push,hnb]
 have nt':st'.nt=st.nt+1:=by rw[r6];simp only[St.push,hnt]
 have lv':∀i,i<st.nt->Bf (σ t.b)≠some i->st'.live i=st.live i:=fun i h1 h2=>by
  rw[r8 i (by simp only[St.push,hnt];exact h1) h2];simp only[St.push,hlive]
 have tip':Bf kv'=some st.nt/\st'.live st.nt=true:=by
  simp only[St.push,hnt]at r2 r7;exact⟨r2,r7⟩
 have k2:∀x,x<st.nb->x≠bb->x≠ub->x≠t.b->x≠t.m->st'.box x=st.box x:=fun x h1 h2 h3 h4 h5=>by
  rw[bx',if_neg h5,if_neg h4,if_neg (by omega),k1 x h1 h2 h3]
 have kbb:st'.box bb= .cells [.box T.b 0,now,.map ub,.int .i64 ((nodes:Int)+1)]:=by
  rw[bx',if_neg (Ne.symm nm1),if_neg (Ne.symm nb1),if_neg (by omega),hbox];simp only;rw[if_pos trivial]
 have kub:st'.box ub= .pmap (Ew (st.nb+1) (.bool true) up):=by
  rw[bx',if_neg (Ne.symm nm2),if_neg (Ne.symm nb2),if_neg (by omega),hbox];simp only;rw[if_neg (Ne.symm hbu),if_pos trivial]
 have kb1:st'.box (st.nb+1)= .cells [.nilSlice,.map st.nb,.int .i64 ((1+dpH h+1:Nat):Int)]:=by
  rw[bx',if_neg (by omega),if_neg (by omega),if_neg (by omega),hbox];simp only;rw[if_neg (by omega),if_neg (by omega),if_pos trivial]
 have kb0:st'.box st.nb= .map []:=by
  rw[bx',if_neg (by omega),if_neg (by omega),if_neg (by omega),hbox];simp only;rw[if_neg (by omega),if_neg (by omega),if_neg (by omega),if_pos trivial]
 have kb2:st'.box (st.nb+2)= .cells (.box (st.nb+1) 0:: .nilSlice::(z13++[.int .i64 0])):=by
  rw[bx',if_neg (by omega),if_neg (by omega),if_pos rfl]
 have eN:A9 (1+dpH h) (.opn (AI ⟨st.nb+1,st.nb,st.nb+2⟩ false))=[⟨st.nb+1,st.nb,false,1+dpH h+1,[]⟩]:=by
  rw[A9,AI,shT,BR];rfl
 rw[eN]at ht'
 have bN:bxL [⟨st.nb+1,st.nb,false,1+dpH h+1,[]⟩]=[st.nb+1,st.nb]:=rfl
 let σ':Nat->TV:=fun x=>if x=t.b then kv' else if x<st.nb then σ x else .nilSlice
 have s1:σ' t.b=kv':=if_pos rfl
 have s2:∀x,x<st.nb->x≠t.b->σ' x=σ x:=fun x h1 h2=>by simp only[σ'];rw[if_neg h2,if_pos h1]
 have s3:∀x,st.nb<=x->σ' x= .nilSlice:=fun x h1=>by simp only[σ'];rw[if_neg (by omega),if_neg (by omega)]
 have HP':HP σ' st' (A++((⟨t.b,t.m,t.hd,1+dpH h,t.es.map shK++[(k,st.nb+2,.opn (st.nb+1))]⟩::(BR (1+dpH h) t.es++[⟨st.nb+1,st.nb,false,1+dpH h+1,[]⟩]))++B)):=by
  refine HP.add hp (by omega) (fun x hx h2 h3=>?_) (fun x hx hne id hid=>?_) ?_ ?_ ⟨mp,hm1,?_⟩ (s2 _ ltm hmt) ?_ ⟨kb2,by rw[s3 _ (by omega)];rfl⟩ (fun s' hs'=>?_) ?_ (fun x hx=>?_) (fun x hx id hid=>?_) fun x hx y hy hne id g1 g2=>?_
  ·exact⟨k2 x (hp.lt x hx) (fun e=>bx (e▸hx)) (fun e=>ux (e▸hx)) h2 h3,s2 x (hp.lt x hx) h2⟩
  ·have hq:=hp.tip x hx id hid
   refine⟨by omega,?_⟩
   rw[lv' id hq.1 fun e=>hp.td x hx t.b itb hne id hid e]
   exact hq.2
  ·rw[s1,bx',if_neg (Ne.symm hmt),if_pos rfl]
  ·rw[s1];simp only[List.map_append]at r1⊢;exact r1
  ·rw[bx',if_pos rfl]
  ·rw[Gc,hl];rfl
  ·rw[List.mem_singleton.1 hs']
   have s4:σ' (st.nb+1)= .nilSlice:=s3 _ (by omega)
   exact⟨by show st'.box (st.nb+1)= .cells [σ' (st.nb+1),_,_];rw[s4];exact kb1,by show C0 (σ' (st.nb+1)) _;rw[s4];exact C0.nil,⟨[],kb0,fun _=>rfl⟩,fun x hx=>by cases hx⟩
  ·rw[bN];simp
  ·rw[bN]at hx
   rcases List.mem_cons.1 hx with rfl | hx
   ·omega
   ·rcases List.mem_cons.1 hx with rfl | hx
    ·omega
    ·rw[List.mem_singleton.1 hx];omega
  ·by_cases hxb:x=t.b
   ·rw[hxb,s1,tip'.1]at hid
    cases hid
    exact⟨Nat.le_refl _,by omega,tip'.2⟩
   ·rw[s3 x ?_]at hid
    ·cases hid
    ·rw[bN]at hx
     rcases List.mem_cons.1 hx with h1 | hx
     ·exact absurd h1 hxb
     ·rcases List.mem_cons.1 hx with rfl | hx
      ·omega
      ·rcases List.mem_cons.1 hx with rfl | hx
       ·omega
       ·rw[List.mem_singleton.1 hx];exact Nat.le_refl _
  ·have nn:∀{z},z∈t.b::(st.nb+2)::bxL [⟨st.nb+1,st.nb,false,1+dpH h+1,[]⟩]->z≠t.b->st.nb<=z:=fun {z} hz hne=>by
    rw[bN]at hz
    rcases List.mem_cons.1 hz with h1 | hz
    ·exact absurd h1 hne
    ·rcases List.mem_cons.1 hz with rfl | hz
     ·omega
     ·rcases List.mem_cons.1 hz with rfl | hz
      ·omega
      ·rw[List.mem_singleton.1 hz];exact Nat.le_refl _
   by_cases hxb:x=t.b
   ·have:=nn hy (fun e=>hne (hxb.trans e.symm))
    rw[s3 y this]at g2;cases g2
   ·rw[s3 x (nn hx hxb)]at g1;cases g1
 have memb:∀x,x∈bxL (A++((⟨t.b,t.m,t.hd,1+dpH h,t.es.map shK++[(k,st.nb+2,.opn (st.nb+1))]⟩::(BR (1+dpH h) t.es++[⟨st.nb+1,st.nb,false,1+dpH h+1,[]⟩]))++B))->
   x∈bxL (A++((⟨t.b,t.m,t.hd,1+dpH h,t.es.map shK⟩::BR (1+dpH h) t.es)++B))∨st.nb<=x:=fun x hx=>by
  rcases QW (s:=⟨t.b,t.m,t.hd,1+dpH h,t.es.map shK⟩) (eb:=st.nb+2) (by simp[bxS]) hx with h1 | h1 | h1
  ·exact .inl h1
  ·exact .inr (by omega)
  ·rw[bN]at h1
   rcases List.mem_cons.1 h1 with rfl | h1
   ·exact .inr (by omega)
   ·rw[List.mem_singleton.1 h1];exact .inr (Nat.le_refl _)
 have fdo:∀s,s∈A++((⟨t.b,t.m,t.hd,1+dpH h,t.es.map shK⟩::BR (1+dpH h) t.es)++B)->BD s.b (Ew (st.nb+1) (.bool true) up)=if s.hd=true then none else some (.bool true):=fun s hs=>by
  have hlt:s.b<st.nb:=hp.lt _ (Bn hs (.head _))
  rw[DT,if_neg (by omega)]
  refine hup.fd s ?_
  rw[e1];exact hs
 refine hk ⟨st.nb+1,st.nb,st.nb+2⟩ σ' st1 st' hnb.symm ⟨by rw[ht'];exact HP',by rw[Fk h (x:=AO t k (st.nb+2) (.opn (AI ⟨st.nb+1,st.nb,st.nb+2⟩ false))) hA rfl,kbb];simp,⟨_,kub,?_,fun p hp'=>?_,fun s hs=>?_⟩,by omega,by omega,fun hx=>?_,fun hx=>?_⟩
 ·rw[HD _ _ _ fun p hp' e=>by have:=(hup.ok p hp').2;omega]
  refine List.nodup_append.2 ⟨hup.nd,by simp,fun x hx y hy e=>?_⟩
  obtain⟨p,hp',rfl⟩:=List.mem_map.1 hx
  have:=(hup.ok p hp').2
  rw[List.mem_singleton.1 hy]at e
  omega
 ·rcases IX _ _ _ p hp' with rfl | hp'
  ·exact⟨by simp[Ao,kb1],by show st.nb+1<st'.nb;omega⟩
  ·obtain⟨q1,q2⟩:=hup.ok p hp'
   refine⟨?_,by omega⟩
   by_cases c1:p.1=t.m
   ·have hm1':st.box t.m= .map mp:=hm1
    rw[c1]at q1;simp[Ao,hm1']at q1
   ·by_cases c2:p.1=t.b
    ·rw[c2];simp only[Ao,bx',if_neg (Ne.symm hmt),if_pos trivial]
    ·by_cases c3:p.1=bb
     ·rw[c3];simp[Ao,kbb]
     ·by_cases c4:p.1=ub
      ·rw[c4]at q1;simp[Ao,hup.box]at q1
      ·simp only[Ao,k2 _ q2 c3 c4 c2 c1]at q1⊢;exact q1
 ·rw[ht']at hs
  rcases List.mem_append.1 hs with h1 | h1
  ·exact fdo s (List.mem_append_left _ h1)
  ·rcases List.mem_append.1 h1 with h1 | h1
   ·rcases List.mem_cons.1 h1 with rfl | h1
    ·exact fdo ⟨t.b,t.m,t.hd,1+dpH h,t.es.map shK⟩ (List.mem_append_right _ (List.mem_append_left _ (.head _)))
    ·rcases List.mem_append.1 h1 with h1 | h1
     ·exact fdo s (List.mem_append_right _ (List.mem_append_left _ (.tail _ h1)))
     ·rw[List.mem_singleton.1 h1,DT,if_pos rfl];rfl
   ·exact fdo s (List.mem_append_right _ (List.mem_append_right _ h1))
 ·rw[ht']at hx
  rcases memb bb hx with h1 | h1
  ·exact bx h1
  ·omega
 ·rw[ht']at hx
  rcases memb ub hx with h1 | h1
  ·exact ux h1
  ·omega
section
theorem IE {hd:Bool}:∀(ks:List B8) {nu nu':Nat->Nu} (j:Nat) (T:Tb) (h:List Hop),(∀i,j<=i->i<j+ks.length->nu i=nu' i)->hops nu hd j T h ks=hops nu' hd j T h ks
 | [],_,_,_,_,_,_=>rfl
 | k::ks,nu,nu',j,T,h,he=>by
  unfold hops
  rw[he j (Nat.le_refl _) (by simp only[List.length_cons];omega)]
  cases DI (nu' j) hd T h k with
  | none=>rfl
  | some p=>exact IE ks (j+1) p.1 p.2 fun i h1 h2=>he i (by omega) (by simp only[List.length_cons];omega)
theorem ME {nu:Nat->Nu} {hd:Bool}:∀(ks:List B8) (j:Nat) (T:Tb) (h:List Hop) (k:B8),hops nu hd j T h (ks++[k])=(hops nu hd j T h ks).bind fun p=>DI (nu (j+ks.length)) hd p.1 p.2 k
 | [],j,T,h,k=>by
  simp only[List.nil_append,hops,Option.bind_some,List.length_nil,Nat.add_zero]
  cases DI (nu j) hd T h k with
  | none=>rfl
  | some p=>rfl
 | a::ks,j,T,h,k=>by
  rw[List.cons_append]
  unfold hops
  cases DI (nu j) hd T h a with
  | none=>rfl
  | some p=>
   simp only
   rw[ME ks (j+1) p.1 p.2 k,List.length_cons,show j+1+ks.length=j+(ks.length+1) by omega]
theorem JS {nu:Nat->Nu} {hd:Bool}:∀(ks rs:List B8) (j:Nat) (T:Tb) (h:List Hop),hops nu hd j T h ks=none->hops nu hd j T h (ks++rs)=none
 | [],rs,j,T,h,hn=>by unfold hops at hn;cases hn
 | a::ks,rs,j,T,h,hn=>by
  rw[List.cons_append]
  unfold hops at hn⊢
  cases hh:DI (nu j) hd T h a with
  | none=>rfl
  | some p=>
   rw[hh]at hn
   exact JS ks rs (j+1) p.1 p.2 hn
def J9 (nu:Nat->Nu) (j:Nat) (x:Nu):Nat->Nu:=fun i=>if i=j then x else nu i
theorem Te {nu:Nat->Nu} {hd:Bool} {ks:List B8} {T:Tb} {h:List Hop} {x:Nu}:hops (J9 nu ks.length x) hd 0 T h ks=hops nu hd 0 T h ks:=
 IE ks 0 T h fun i _ h2=>by unfold J9;rw[if_neg (by omega)]
theorem J2 {T t:Tb} {h:List Hop} {k:B8} {nu:Nu} {hd:Bool} (hA:atT T h=some t) (hl:Ah k t.es=none):atT (Ay T h (AO t k nu.eb (.opn (AI nu hd)))) (h++[(k,none)])=some (AI nu hd):=by
 rw[HO,BJ h hA]
 show atT (AO t k nu.eb (.opn (AI nu hd))) [(k,none)]=_
 have:=Jc (t:=t) (k:=k) (k2:=k) (eb:=nu.eb) (e:= .opn (AI nu hd)) hl
 rw[if_pos rfl]at this
 unfold AO at this⊢
 rw[atT]
 simp only[Tb.es]at this⊢
 rw[this]
 rfl
theorem LJ {T t u:Tb} {h:List Hop} {k:B8} {eb:Nat} (hA:atT T h=some t) (hl:Ah k t.es=some (eb,.opn u)):atT T (h++[(k,none)])=some u:=by
 rw[HO,hA]
 obtain⟨b,m,hd,es⟩:=t
 show atT (.mk b m hd es) [(k,none)]=_
 rw[atT]
 simp only[Tb.es]at hl
 rw[hl]
 cases u;rfl
theorem Ht {T t u:Tb} {h:List Hop} {k:B8} {eb i:Nat} {l:List Tb} (hA:atT T h=some t) (hl:Ah k t.es=some (eb,.lst l)) (hi:l[i]? =some u):atT T (h++[(k,some i)])=some u:=by
 rw[HO,hA]
 obtain⟨b,m,hd,es⟩:=t
 show atT (.mk b m hd es) [(k,some i)]=_
 rw[atT]
 simp only[Tb.es]at hl
 rw[hl]
 simp only[hi]
 cases u;rfl
section
variable {bb ub:Nat} {now:TV} {T t:Tb} {nodes:Nat} {σ:Nat->TV} {st:St} {h:List Hop}
theorem BH.tab (H:BH bb ub now T nodes σ st) (hA:atT T h=some t):LP σ st ⟨t.b,t.m,t.hd,1+dpH h,t.es.map shK⟩/\(⟨t.b,t.m,t.hd,1+dpH h,t.es.map shK⟩:Sh)∈shT 1 T:=by
 obtain⟨A,B,e1,_⟩:=HV h hA 1
 rw[Ep (1+dpH h) t]at e1
 have hm:(⟨t.b,t.m,t.hd,1+dpH h,t.es.map shK⟩:Sh)∈shT 1 T:=by
  rw[e1];exact List.mem_append_right A (List.mem_append_left B (List.mem_cons_self ..))
 exact⟨H.hp.sh _ hm,hm⟩
theorem BH.ldm (H:BH bb ub now T nodes σ st) (hA:atT T h=some t) {f:TV->Prop} (hf:f (.map t.m)):Ar (Ac st [] (.t (.box t.b 1)) 0) f:=by
 have:=(H.tab hA).1.cell
 refine Ae (x:= .map t.m) ?_ hf
 simp only at this
 simp only[Ac,this]
 rfl
theorem BH.ldd (H:BH bb ub now T nodes σ st) (hA:atT T h=some t) {f:TV->Prop} (hf:f (.int .i64 ((1+dpH h:Nat):Int))):Ar (Ac st [] (.t (.box t.b 2)) 0) f:=by
 have:=(H.tab hA).1.cell
 refine Ae (x:= .int .i64 ((1+dpH h:Nat):Int)) ?_ hf
 simp only at this
 simp only[Ac,this]
 rfl
theorem BH.map (H:BH bb ub now T nodes σ st) (hA:atT T h=some t) {f:List (B8×TV)->Prop} (hf:∀es,(∀k,AA k es=(Ah k t.es).map fun p=> .box p.1 0)->f es):Ar (Er st (.map t.m)) f:=by
 obtain⟨mp,h1,h2⟩:=(H.tab hA).1.mp
 refine Ae (x:=mp) ?_ (hf mp fun k=>?_)
 ·simp only at h1
  simp only[Er,h1]
 ·rw[h2 k,Gc]
  cases Ah k t.es<;>rfl
theorem BH.ent (H:BH bb ub now T nodes σ st) (hA:atT T h=some t) {k:B8} {eb:Nat} {e:En} (hl:Ah k t.es=some (eb,e)):Ky σ st eb (shE e):=
 (H.tab hA).1.en (k,eb,shE e) (List.mem_map.2 ⟨.mk k eb e,HH hl,rfl⟩)
theorem BH.ent0 (H:BH bb ub now T nodes σ st) (hA:atT T h=some t) {k:B8} {eb:Nat} {e:En} (hl:Ah k t.es=some (eb,e)) {f:TV->Prop} (hf:f (match e with | .opn u=> .box u.b 0 | _=> .nilPtr)):Ar (Ac st [] (.t (.box eb 0)) 0) f:=by
 have:=H.ent hA hl
 cases e with
 | opn u=>
  obtain⟨h1,_⟩:=this
  exact Ae (by simp only[Ac,h1];rfl) hf
 | lst l=>
  obtain⟨_,_,h1⟩:=this
  exact Ae (by simp only[Ac,h1];rfl) hf
 | clo v i=>
  obtain⟨cs,_,_,h1,_⟩:=this
  exact Ae (by simp only[Ac,h1];rfl) hf
def OG:En->List TV
 | .lst l=>l.map fun t=> .box t.b 0
 | _=>[]
theorem BH.ent1 (H:BH bb ub now T nodes σ st) (hA:atT T h=some t) {k:B8} {eb:Nat} {e:En} (hl:Ah k t.es=some (eb,e)) {f:TV->Prop} (hf:∀v,C0 v (OG e)->f v):Ar (Ac st [] (.t (.box eb 1)) 0) f:=by
 have:=H.ent hA hl
 cases e with
 | opn u=>
  obtain⟨h1,_⟩:=this
  exact Ae (by simp only[Ac,h1];rfl) (hf _ C0.nil)
 | lst l=>
  obtain⟨h0,_,h1⟩:=this
  refine Ae (x:=σ eb) (by simp only[Ac,h1];rfl) (hf _ ?_)
  rw[List.map_map]at h0
  exact h0
 | clo v i=>
  obtain⟨cs,_,_,h1,_⟩:=this
  exact Ae (by simp only[Ac,h1];rfl) (hf _ C0.nil)
end
theorem C0.get {v:TV} {xs:List TV} (h:C0 v xs) {st:St} {i:Nat} {x:TV} (hx:xs[i]? =some x) {f:TV->Prop} (hf:f x):Ar (Ac st [] (.t (ixT 1 v i)) 0) f:=by
 rcases h with⟨rfl,rfl⟩ | ⟨tip,rfl,_⟩
 ·simp at hx
 ·refine Ae (x:=x) ?_ hf
  simp only[ixT,Ac,Nat.mul_one,List.getElem?_drop,Nat.add_zero]
  exact hx
end
end Go.TVF
