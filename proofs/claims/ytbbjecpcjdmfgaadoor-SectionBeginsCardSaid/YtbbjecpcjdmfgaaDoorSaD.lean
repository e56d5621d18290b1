/- What the laws below rest on: a framework for Go programs, and contracts of the functions that they reach. -/
import Derived.Test.YtbbjecpcjdmfgaaDoorSaC
import Derived.Lib.DecodeN
set_option maxRecDepth 20000
set_option linter.unusedVariables false
set_option linter.unusedSimpArgs false
namespace Go.TVF
open Go.IntKind(i64 u8)
open Go Go.Proofs
theorem Qk {st0 st:St} {ul:TV} {xl:List TV} {l:List Vl} (hke:Bp st0 st) (h2:SlR st0 13 ul l.length xl) (h3:VsR st0 l xl) {i:Int} {k:Nat} (hi:i=k) (hk:k<l.length) {f:Fun [.int .i64,.bool,.bool,.str,.int .i64,.int .i64,.int .i64,.int .i64,.int .i64,.str,.tv,.tv,.tv] Prop}
  (hf:∀s' l' f' ub1 ul1 uf1,l[k]? =some (.mk s' l' f')->VlR st0 (.mk s' l' f') (AC s' ub1 ul1 uf1)->List.all (AC s' ub1 ul1 uf1) Aq=true->f s'.kind s'.b s'.neg s'.dg s'.ex s'.tk s'.td s'.tn s'.tz s'.text ub1 ul1 uf1):
  (0<=i/\i<(lenZ 13 ul:Int))/\Al ((Am st [] (.t (ixT 13 ul (Int.toNat i))) 0 13).map TV.agg) fun x=>Dz [.int .i64,.bool,.bool,.str,.int .i64,.int .i64,.int .i64,.int .i64,.int .i64,.str,.tv,.tv,.tv] x f:=by
 subst hi
 have gw:l[k]? =some l[k]:=List.getElem?_eq_getElem hk
 obtain⟨cw,hw,hcw,hcl⟩:=h3.get gw
 rw[h2.lenZ,Int.toNat_natCast,(h2.keep hke).ldc h3.len hk,hcw]
 generalize l[k]=w at*
 cases w with
 | mk s' l' f'=>
 have hw0:=hw
 unfold VlR at hw0
 obtain⟨ub',ul',uf',xl',xf',rfl,w1,w2,w3,w4,w5⟩:=hw0
 exact⟨⟨by omega,by omega⟩,Ad rfl (Jw (hf s' l' f' ub' ul' uf' gw hw (C5 w1.one w2.one w4.one)))⟩
theorem el14 {st0 st:St} {uf:TV} {xf:List TV} {l:List Fd} (hke:Bp st0 st) (h2:SlR st0 14 uf l.length xf) (h3:FsR st0 l xf) {i:Int} {k:Nat} (hi:i=k) (hk:k<l.length) {f:Fun [.str,.int .i64,.bool,.bool,.str,.int .i64,.int .i64,.int .i64,.int .i64,.int .i64,.str,.tv,.tv,.tv] Prop}
  (hf:∀key s' l' f' ub1 ul1 uf1,l[k]? =some (.mk key (.mk s' l' f'))->VlR st0 (.mk s' l' f') (AC s' ub1 ul1 uf1)->List.all (.str key::AC s' ub1 ul1 uf1) Aq=true->f key s'.kind s'.b s'.neg s'.dg s'.ex s'.tk s'.td s'.tn s'.tz s'.text ub1 ul1 uf1):
  (0<=i/\i<(lenZ 14 uf:Int))/\Al ((Am st [] (.t (ixT 14 uf (Int.toNat i))) 0 14).map TV.agg) fun x=>Dz [.str,.int .i64,.bool,.bool,.str,.int .i64,.int .i64,.int .i64,.int .i64,.int .i64,.str,.tv,.tv,.tv] x f:=by
 subst hi
 have gw:l[k]? =some l[k]:=List.getElem?_eq_getElem hk
 obtain⟨cw,hw,hcw,hcl⟩:=h3.get gw
 rw[h2.lenZ,Int.toNat_natCast,(h2.keep hke).ldc h3.len hk,hcw]
 generalize l[k]=w at*
 cases w with
 | mk key w=>
 cases w with
 | mk s' l' f'=>
 have hw0:=hw
 unfold FdR at hw0
 obtain⟨cw2,rfl,hw1⟩:=hw0
 have hw2:=hw1
 unfold VlR at hw2
 obtain⟨ub',ul',uf',xl',xf',rfl,w1,w2,w3,w4,w5⟩:=hw2
 exact⟨⟨by omega,by omega⟩,Ad rfl (Qp (hf key s' l' f' ub' ul' uf' gw hw1 (PF w1.one w2.one w4.one)))⟩
theorem ED {α:Type} {l:List α} {k:Nat} {v:α} (h:l[k]? =some v):l.take (k+1)=l.take k++[v]:=by
 obtain⟨q1,q2⟩:=List.getElem?_eq_some_iff.1 h
 rw[List.take_succ_eq_append_getElem q1,q2]
theorem I5 {α:Type} {l:List α} {k:Nat} {v:α} (h:l[k]? =some v):v∈l:=by
 obtain⟨q1,q2⟩:=List.getElem?_eq_some_iff.1 h
 rw[<-q2];exact List.getElem_mem q1
end Go.TVF
section
namespace Go.TVF
open Go.IntKind(i64 u8)
open Go
theorem or_i64 (x y:Nat) (hx:x<2^63) (hy:y<2^63):BL .or .i64 (x:Int) (y:Int)=((x ||| y:Nat):Int):=by
 have h:x ||| y<2^63:=Nat.or_lt_two_pow hx hy
 show IntKind.wrap .i64 ((BitVec.ofInt 64 (x:Int) ||| BitVec.ofInt 64 (y:Int)).toNat:Int)=_
 simp only[BitVec.ofInt_natCast,BitVec.toNat_or,BitVec.toNat_ofNat]
 rw[Nat.mod_eq_of_lt (by omega),Nat.mod_eq_of_lt (by omega),Ap _ (by omega) (by omega)]
theorem QF (x y:Nat) (hx:x<2^8) (hy:y<2^8):BL .and .u8 (x:Int) (y:Int)=((x&&&y:Nat):Int):=by
 have h:x&&&y<2^8:=Nat.and_lt_two_pow _ hy
 show IntKind.wrap .u8 ((BitVec.ofInt 8 (x:Int)&&&BitVec.ofInt 8 (y:Int)).toNat:Int)=_
 simp only[BitVec.ofInt_natCast,BitVec.toNat_and,BitVec.toNat_ofNat]
 rw[Nat.mod_eq_of_lt (by omega),Nat.mod_eq_of_lt (by omega),wrapU8 _ (by omega) (by omega)]
theorem or_add (a b m:Nat) (hb:b<2^m) (h:a*2^m+b<2^63):BL .or .i64 ((a*2^m:Nat):Int) (b:Int)=((a*2^m+b:Nat):Int):=by
 have hb':b<2^63:=by omega
 rw[or_i64 _ _ (by omega) hb',Nat.mul_comm a,Nat.two_pow_add_eq_or_of_lt hb]
theorem EM {α:Type} (l:List α) (i:Nat) (d:α) (h:i<l.length):l.take (i+1)=l.take i++[l.getD i d]:=by
 rw[List.take_add_one,List.getElem?_eq_getElem h,List.getD,List.getElem?_eq_getElem h];rfl
theorem O3 {α:Type} (l:List α) (i j:Nat) (d:α):(l.drop i).getD j d=l.getD (i+j) d:=by
 simp[List.getD,List.getElem?_drop]
def bt (l:B8) (i:Nat):Nat:=(l.getD i 0).toNat
theorem Ee (l:B8) (i:Nat):bt l i<256:=(l.getD i 0).toNat_lt
theorem bt_drop (l:B8) (i j:Nat):bt (l.drop i) j=bt l (i+j):=by simp[bt,O3]
def dN (l:B8):Nat×Nat:=Lib.decodeN l.length (bt l 0) (bt l 1) (bt l 2) (bt l 3)
def ul (l:B8):Nat:=if l=[]∨dN l=(65533,1)then 0 else(dN l).2
def ur (l:B8):Nat:=(dN l).1
def Bw (r:Nat):Prop:=r<=1114111/\(r<55296∨57343<r)
instance (r:Nat):Decidable (Bw r):=by unfold Bw;infer_instance
def EQ (r:Nat):B8:=
 if r<128 then [UInt8.ofNat r]else if r<2048 then [UInt8.ofNat (192+r/64),UInt8.ofNat (128+r%64)]
 else if r<65536 then [UInt8.ofNat (224+r/4096),UInt8.ofNat (128+r/64%64),UInt8.ofNat (128+r%64)]
 else [UInt8.ofNat (240+r/262144),UInt8.ofNat (128+r/4096%64),UInt8.ofNat (128+r/64%64),UInt8.ofNat (128+r%64)]
theorem BV (n:Nat) (c:UInt8):UInt8.ofNat n=c↔n%256=c.toNat:=by
 rw[<-UInt8.toNat_inj];simp
theorem GY (l:B8) (h:1<=l.length):l.take 1=[l.getD 0 0]:=by
 rw[EM l 0 0 (by omega)];rfl
theorem GX (l:B8) (h:2<=l.length):l.take 2=[l.getD 0 0,l.getD 1 0]:=by
 rw[EM l 1 0 (by omega),GY l (by omega)];rfl
theorem E0 (l:B8) (h:3<=l.length):l.take 3=[l.getD 0 0,l.getD 1 0,l.getD 2 0]:=by
 rw[EM l 2 0 (by omega),GX l (by omega)];rfl
theorem Hu (l:B8) (h:4<=l.length):l.take 4=[l.getD 0 0,l.getD 1 0,l.getD 2 0,l.getD 3 0]:=by
 rw[EM l 3 0 (by omega),E0 l (by omega)];rfl
def rsz (b0:Nat):Nat:=if 240<=b0 then 4 else if 224<=b0 then 3 else if 192<=b0 then 2 else 1
def rb0 (b0:Nat):Nat:=if 240<=b0 then b0%8 else if 224<=b0 then b0%16 else if 192<=b0 then b0%32 else b0
def Cd (l:B8) (r0:Nat):Nat->Nat
 | 0=>r0
 | j+1=>Cd l r0 j*64+bt l (j+1)%64
theorem Oe (l:B8) (r0:Nat) (h:r0<256):∀j,Cd l r0 j<256*64^j
 | 0=>by simpa [Cd]using h
 | j+1=>by
  have:=Oe l r0 h j
  have h2:=Nat.mod_lt (bt l (j+1)) (show 0<64 by omega)
  simp only[Cd,Nat.pow_succ]
  omega
theorem rsz_le (b0:Nat):1<=rsz b0/\rsz b0<=4:=by
 unfold rsz
 repeat' split
 all_goals omega
def PA (l:B8):Nat×Nat:=
 let size:=rsz (bt l 0)
 let r:=Cd l (rb0 (bt l 0)) (size-1)
 if l.length<size then(0,0)else if Bw r/\EQ r=l.take size then(r,size)else(0,0)
theorem B0 {a b:UInt8} {x y:B8}:(a::x=b::y)↔a=b/\x=y:=by simp
set_option maxHeartbeats 4000000 in
theorem Lc (l:B8) (h:l≠ []):PA l=if ul l=0 then(0,0)else(ur l,ul l):=by
 have hl:1<=l.length:=by cases l with | nil=>exact absurd rfl h | cons a r=>simp
 have h0:=Ee l 0
 have h1:=Ee l 1
 have h2:=Ee l 2
 have h3:=Ee l 3
 have e0:(l.getD 0 0).toNat=bt l 0:=rfl
 have e1:(l.getD 1 0).toNat=bt l 1:=rfl
 have e2:(l.getD 2 0).toNat=bt l 2:=rfl
 have e3:(l.getD 3 0).toNat=bt l 3:=rfl
 have hul:ul l=if dN l=(65533,1)then 0 else(dN l).2:=by simp[ul,h]
 rw[hul,ur]
 unfold dN
 generalize hb0:bt l 0=b0 at*
 generalize hb1:bt l 1=b1 at*
 generalize hb2:bt l 2=b2 at*
 generalize hb3:bt l 3=b3 at*
 unfold PA
 simp only[hb0]
 by_cases c4:240<=b0
 ·have r4:rsz b0=4:=by unfold rsz;rw[if_pos c4]
  have rb:rb0 b0=b0%8:=by unfold rb0;rw[if_pos c4]
  rw[r4,rb]
  simp only[Nat.reduceSub,Cd,hb1,hb2,hb3,Nat.zero_add,Nat.reduceAdd]
  by_cases hn:l.length<4
  ·rw[if_pos hn]
   have:Lib.decodeN l.length b0 b1 b2 b3=(65533,1):=by
    unfold Lib.decodeN
    rw[if_neg (by omega),if_neg (by omega),if_neg (by omega),if_neg (by omega)]
   rw[this];simp
  ·rw[if_neg hn]
   have hEnc:(Bw (((b0%8*64+b1%64)*64+b2%64)*64+b3%64)/\EQ (((b0%8*64+b1%64)*64+b2%64)*64+b3%64)=l.take 4)↔(b0/8=30/\b1/64=2/\b2/64=2/\b3/64=2/\65536<=((b0%8*64+b1%64)*64+b2%64)*64+b3%64/\((b0%8*64+b1%64)*64+b2%64)*64+b3%64<=1114111):=by
    rw[Hu l (by omega)]
    generalize hr:((b0%8*64+b1%64)*64+b2%64)*64+b3%64=r
    unfold Bw EQ
    by_cases k1:r<128
    ·rw[if_pos k1];simp;omega
    ·rw[if_neg k1]
     by_cases k2:r<2048
     ·rw[if_pos k2];simp;omega
     ·rw[if_neg k2]
      by_cases k3:r<65536
      ·rw[if_pos k3];simp;omega
      ·rw[if_neg k3]
       simp only[B0,BV,e0,e1,e2,e3,and_true]
       omega
   by_cases hE:b0/8=30/\b1/64=2/\b2/64=2/\b3/64=2/\65536<=((b0%8*64+b1%64)*64+b2%64)*64+b3%64/\((b0%8*64+b1%64)*64+b2%64)*64+b3%64<=1114111
   ·rw[if_pos (hEnc.2 hE)]
    have:Lib.decodeN l.length b0 b1 b2 b3=(((b0%8*64+b1%64)*64+b2%64)*64+b3%64,4):=by
     unfold Lib.decodeN
     rw[if_neg (by omega),if_neg (by omega),if_neg (by omega),if_pos (by omega),if_pos (by omega)]
     simp only[Prod.mk.injEq,and_true];omega
    rw[this];simp
   ·rw[if_neg (fun hh=>hE (hEnc.1 hh))]
    have:Lib.decodeN l.length b0 b1 b2 b3=(65533,1):=by
     unfold Lib.decodeN
     rw[if_neg (by omega),if_neg (by omega),if_neg (by omega)]
     split
     ·rw[if_neg (by omega)]
     ·rfl
    rw[this];simp
 ·by_cases c3:224<=b0
  ·have r4:rsz b0=3:=by unfold rsz;rw[if_neg c4,if_pos c3]
   have rb:rb0 b0=b0%16:=by unfold rb0;rw[if_neg c4,if_pos c3]
   rw[r4,rb]
   simp only[Nat.reduceSub,Cd,hb1,hb2,Nat.zero_add,Nat.reduceAdd]
   by_cases hn:l.length<3
   ·rw[if_pos hn]
    have:Lib.decodeN l.length b0 b1 b2 b3=(65533,1):=by
     unfold Lib.decodeN
     rw[if_neg (by omega),if_neg (by omega),if_neg (by omega),if_neg (by omega)]
    rw[this];simp
   ·rw[if_neg hn]
    have hEnc:(Bw ((b0%16*64+b1%64)*64+b2%64)/\EQ ((b0%16*64+b1%64)*64+b2%64)=l.take 3)↔(b1/64=2/\b2/64=2/\2048<=(b0%16*64+b1%64)*64+b2%64/\Bw ((b0%16*64+b1%64)*64+b2%64)):=by
     rw[E0 l (by omega)]
     generalize hr:(b0%16*64+b1%64)*64+b2%64=r
     unfold Bw EQ
     by_cases k1:r<128
     ·rw[if_pos k1];simp;omega
     ·rw[if_neg k1]
      by_cases k2:r<2048
      ·rw[if_pos k2];simp;omega
      ·rw[if_neg k2]
       by_cases k3:r<65536
       ·rw[if_pos k3]
        simp only[B0,BV,e0,e1,e2,and_true]
        omega
       ·omega
    by_cases hE:b1/64=2/\b2/64=2/\2048<=(b0%16*64+b1%64)*64+b2%64/\Bw ((b0%16*64+b1%64)*64+b2%64)
    ·rw[if_pos (hEnc.2 hE)]
     have:Lib.decodeN l.length b0 b1 b2 b3=((b0%16*64+b1%64)*64+b2%64,3):=by
      unfold Bw at hE
      unfold Lib.decodeN
      rw[if_neg (by omega),if_neg (by omega),if_pos (by omega),if_pos (by omega)]
      simp only[Prod.mk.injEq,and_true];omega
     rw[this];simp
    ·rw[if_neg (fun hh=>hE (hEnc.1 hh))]
     have:Lib.decodeN l.length b0 b1 b2 b3=(65533,1):=by
      unfold Bw at hE
      unfold Lib.decodeN
      rw[if_neg (by omega),if_neg (by omega)]
      split
      ·rw[if_neg (by omega)]
      ·rw[if_neg (by omega)]
     rw[this];simp
  ·by_cases c2:192<=b0
   ·have r4:rsz b0=2:=by unfold rsz;rw[if_neg c4,if_neg c3,if_pos c2]
    have rb:rb0 b0=b0%32:=by unfold rb0;rw[if_neg c4,if_neg c3,if_pos c2]
    rw[r4,rb]
    simp only[Nat.reduceSub,Cd,hb1,Nat.zero_add,Nat.reduceAdd]
    by_cases hn:l.length<2
    ·rw[if_pos hn]
     have:Lib.decodeN l.length b0 b1 b2 b3=(65533,1):=by
      unfold Lib.decodeN
      rw[if_neg (by omega),if_neg (by omega),if_neg (by omega),if_neg (by omega)]
     rw[this];simp
    ·rw[if_neg hn]
     have hEnc:(Bw (b0%32*64+b1%64)/\EQ (b0%32*64+b1%64)=l.take 2)↔(b1/64=2/\128<=b0%32*64+b1%64):=by
      rw[GX l (by omega)]
      generalize hr:b0%32*64+b1%64=r
      unfold Bw EQ
      by_cases k1:r<128
      ·rw[if_pos k1];simp;omega
      ·rw[if_neg k1,if_pos (by omega)]
       simp only[B0,BV,e0,e1,and_true]
       omega
     by_cases hE:b1/64=2/\128<=b0%32*64+b1%64
     ·rw[if_pos (hEnc.2 hE)]
      have:Lib.decodeN l.length b0 b1 b2 b3=(b0%32*64+b1%64,2):=by
       unfold Lib.decodeN
       rw[if_neg (by omega),if_pos (by omega),if_pos (by omega)]
      rw[this];simp
     ·rw[if_neg (fun hh=>hE (hEnc.1 hh))]
      have:Lib.decodeN l.length b0 b1 b2 b3=(65533,1):=by
       unfold Lib.decodeN
       rw[if_neg (by omega)]
       split
       ·rw[if_neg (by omega)]
       ·rw[if_neg (by omega),if_neg (by omega)]
      rw[this];simp
   ·have r4:rsz b0=1:=by unfold rsz;rw[if_neg c4,if_neg c3,if_neg c2]
    have rb:rb0 b0=b0:=by unfold rb0;rw[if_neg c4,if_neg c3,if_neg c2]
    rw[r4,rb]
    simp only[Nat.reduceSub,Cd]
    rw[if_neg (by omega),GY l hl]
    have hEnc:(Bw b0/\EQ b0=[l.getD 0 0])↔b0<128:=by
     unfold Bw EQ
     by_cases k1:b0<128
     ·rw[if_pos k1];simp only[B0,BV,e0,and_true];omega
     ·rw[if_neg k1,if_pos (by omega)];simp;omega
    by_cases hE:b0<128
    ·rw[if_pos (hEnc.2 hE)]
     have:Lib.decodeN l.length b0 b1 b2 b3=(b0,1):=by unfold Lib.decodeN;rw[if_pos hE]
     rw[this,if_neg (by simp;omega)]
     simp only[Prod.mk.injEq]
     rw[if_neg (by omega)]
     simp
    ·rw[if_neg (fun hh=>hE (hEnc.1 hh))]
     have:Lib.decodeN l.length b0 b1 b2 b3=(65533,1):=by
      unfold Lib.decodeN
      rw[if_neg (by omega),if_neg (by omega),if_neg (by omega),if_neg (by omega)]
     rw[this];simp
theorem ul_char (l:B8) (h:ul l≠0):Bw (ur l)/\EQ (ur l)=l.take (ul l)/\ul l<=l.length/\ul l<=4:=by
 have hne:l≠ []:=fun h0=>h (by simp[ul,h0])
 have e:=Lc l hne
 rw[if_neg h]at e
 unfold PA at e
 simp only at e
 split at e
 ·simp only[Prod.mk.injEq]at e;omega
 ·split at e
  ·rename_i hn hc
   simp only[Prod.mk.injEq]at e
   rw[<-e.1,<-e.2]
   exact⟨hc.1,hc.2,by omega,(rsz_le _).2⟩
  ·simp only[Prod.mk.injEq]at e;omega
theorem Ob (l:B8):ul l<=l.length:=by
 by_cases h:ul l=0
 ·omega
 ·exact(ul_char l h).2.2.1
theorem Pr (l:B8) (h:l≠ []) (hb:bt l 0<128):ul l=1/\ur l=bt l 0:=by
 have:dN l=(bt l 0,1):=by unfold dN Lib.decodeN;rw[if_pos hb]
 unfold ul ur
 rw[this,if_neg (by simp[h];omega)]
 exact⟨rfl,rfl⟩
theorem KV (l:B8) (h:l≠ []):ul l=0↔dN l=(65533,1):=by
 have hul:ul l=if dN l=(65533,1)then 0 else(dN l).2:=by simp[ul,h]
 rw[hul]
 constructor
 ·intro h0
  by_cases hd:dN l=(65533,1)
  ·exact hd
  ·rw[if_neg hd]at h0
   exfalso
   unfold dN Lib.decodeN at h0
   repeat' split at h0
   all_goals simp at h0
 ·intro h0;rw[if_pos h0]
theorem Qq (l:B8) (h:ul l≠0):dN l=(ur l,ul l):=by
 have hne:l≠ []:=fun h0=>h (by simp[ul,h0])
 have hul:ul l=if dN l=(65533,1)then 0 else(dN l).2:=by simp[ul,hne]
 have hd:dN l≠(65533,1):=fun hd=>h ((KV l hne).2 hd)
 rw[if_neg hd]at hul
 rw[hul];rfl
theorem ul_not (l:B8) (h:ul l≠0):¬(ur l=65533/\ul l=1):=by
 intro hh
 have hne:l≠ []:=fun h0=>h (by simp[ul,h0])
 have:=Qq l h
 rw[hh.1,hh.2]at this
 exact h ((KV l hne).2 this)
def D2 (l:B8):Nat:=if h:ul l=0 then 0 else ul l+D2 (l.drop (ul l))
termination_by l.length
decreasing_by
 have:=Ob l
 simp only[List.length_drop];omega
theorem Bu (l:B8) (h:ul l=0):D2 l=0:=by rw[D2,dif_pos h]
theorem FX (l:B8) (h:ul l≠0):D2 l=ul l+D2 (l.drop (ul l)):=by rw[D2,dif_neg h]
theorem N9:∀(n:Nat) (l:B8),l.length<=n->D2 l<=l.length
 | 0,l,h=>by
  have:l=[]:=List.eq_nil_of_length_eq_zero (by omega)
  subst this
  rw[Bu _ (by simp[ul])];simp
 | n+1,l,h=>by
  by_cases h0:ul l=0
  ·rw[Bu l h0];omega
  ·have h1:=Ob l
   have h2:=N9 n (l.drop (ul l)) (by simp only[List.length_drop];omega)
   rw[FX l h0]
   simp only[List.length_drop]at h2;omega
end Go.TVF
end
namespace Go.TVF
open Go.IntKind(i64 u8)
open Go Go.Proofs
def Lk (c:UInt8):Prop:=48<=c.toNat/\c.toNat<=57
instance (c:UInt8):Decidable (Lk c):=inferInstanceAs (Decidable (_/\_))
def Ho (l:B8):Nat:=(l.reverse.takeWhile (·==48)).length
def De (neg:Bool) (dg:B8) (ex:Int):Prop:=
 (dg=[]->neg=false/\ex=0)/\(dg≠ []->dg.length<=120/\(∀c,c∈dg->Lk c)/\dg.getD 0 0≠48/\Ho dg=0/\ -400<=ex/\ex<=400)
instance (neg:Bool) (dg:B8) (ex:Int):Decidable (De neg dg ex):=inferInstanceAs (Decidable ((_->_)/\(_->_)))
def Ey (k d n z:Int):Prop:=
 1<=k/\k<=4/\0<=d/\d<=3652058/\0<=n/\n<=86399999999999/\ -1439<=z/\z<=1439/\(k=2->d=0)/\(k=1->n=0)/\(k≠4->z=0)
instance (k d n z:Int):Decidable (Ey k d n z):=inferInstanceAs (Decidable (_/\_/\_/\_/\_/\_/\_/\_/\(_->_)/\(_->_)/\(_->_)))
def leapY (y:Nat):Prop:=y%4=0/\(y%100≠0∨y%400=0)
instance (y:Nat):Decidable (leapY y):=inferInstanceAs (Decidable (_/\_))
section
structure JH (s:Sc) (l:List Vl) (f:List Fd):Prop where
 k0:0<=s.kind
 k7:s.kind<=7
 bo:s.kind≠1->s.b=false
 nu:s.kind≠2->s.neg=false/\s.dg=[]/\s.ex=0
 ti:s.kind≠3->s.tk=0/\s.td=0/\s.tn=0/\s.tz=0
 tx:s.kind≠4->s.text=[]
 by_:s.kind≠5->s.bytes=[]
 ls:s.kind≠6->l=[]
 fs:s.kind≠7->f=[]
noncomputable instance (s:Sc) (l:List Vl) (f:List Fd):Decidable (JH s l f):=Classical.propDecidable _
def U8 (s:B8):Prop:=D2 s=s.length
instance (s:B8):Decidable (U8 s):=inferInstanceAs (Decidable (_=_))
def Ck (seen:List B8):List Fd->Nat
 | []=>0
 | d::r=>if U8 d.key then(if 1024<d.key.length then 10 else if d.key∈seen then 8 else Ck (d.key::seen) r)else 5
noncomputable def DO (s:Sc) (l:List Vl) (f:List Fd):Nat:=
 if JH s l f then(if De s.neg s.dg s.ex then(if s.kind=3->Ey s.tk s.td s.tn s.tz then(if U8 s.text then(if 65536<s.text.length then 10 else if 65536<s.bytes.length then 10 else Ck [] f)else 5)else 2)else 2)else 6
noncomputable def Fp (x:Nat×Nat) (f:Nat->Nat×Nat):Nat×Nat:=if x.2=0 then f x.1 else x
mutual
noncomputable def BT (d n:Nat):Vl->Nat×Nat
 | .mk s l f=>if 48<d then(n,9)else if 65536<=n then(n,10)else if DO s l f≠0 then(n,DO s l f)else Fp (BK (d+1) (n+1) l) fun m=>Bx (d+1) m f
noncomputable def BK (d n:Nat):List Vl->Nat×Nat
 | []=>(n,0)
 | v::r=>Fp (BT d n v) fun m=>BK d m r
noncomputable def Hk (d n:Nat):Fd->Nat×Nat
 | .mk _ v=>BT d n v
noncomputable def Bx (d n:Nat):List Fd->Nat×Nat
 | []=>(n,0)
 | x::r=>Fp (Hk d n x) fun m=>Bx d m r
end
noncomputable def AO (v:Vl):Nat:=(BT 1 0 v).2
theorem A8 {x:Nat×Nat} {f:Nat->Nat×Nat} (h:(Fp x f).2=0):x.2=0/\(f x.1).2=0:=by
 unfold Fp at h
 split at h
 ·rename_i h0;exact⟨h0,h⟩
 ·rename_i h0;exact absurd h h0
theorem BD {x:Nat×Nat} {f:Nat->Nat×Nat} (h:x.2=0):Fp x f=f x.1:=by unfold Fp;rw[if_pos h]
theorem Ht {x:Nat×Nat} {f:Nat->Nat×Nat} (h:x.2≠0):Fp x f=x:=by unfold Fp;rw[if_neg h]
theorem Mu:∀(f:List Fd) (seen:List B8),Ck seen f=0->JI f/\(∀d,d∈f->d.key∉seen/\U8 d.key/\d.key.length<=1024)
 | [],seen,_=>⟨List.nodup_nil,fun d h=>by cases h⟩
 | d::r,seen,h=>by
  unfold Ck at h
  split at h
  ·rename_i h1
   split at h
   ·cases h
   ·rename_i h2
    split at h
    ·cases h
    ·rename_i h3
     obtain⟨k1,k2⟩:=Mu r (d.key::seen) h
     refine⟨?_,fun x hx=>?_⟩
     ·unfold JI
      rw[List.map_cons,List.nodup_cons]
      refine⟨fun hm=>?_,k1⟩
      obtain⟨x,hx,he⟩:=List.mem_map.1 hm
      exact(k2 x hx).1 (he▸.head _)
     ·rcases List.mem_cons.1 hx with rfl | hx
      ·exact⟨h3,h1,by omega⟩
      ·obtain⟨q1,q2,q3⟩:=k2 x hx
       exact⟨fun hm=>q1 (.tail _ hm),q2,q3⟩
  ·cases h
structure KQ (s:Sc) (l:List Vl) (f:List Fd):Prop where
 own:JH s l f
 dec:De s.neg s.dg s.ex
 time:s.kind=3->Ey s.tk s.td s.tn s.tz
 text:U8 s.text
 tlen:s.text.length<=65536
 blen:s.bytes.length<=65536
 keys:Ck [] f=0
theorem Kh {s:Sc} {l:List Vl} {f:List Fd}:DO s l f=0↔KQ s l f:=by
 unfold DO
 constructor
 ·intro h
  split at h
  ·rename_i h1
   split at h
   ·rename_i h2
    split at h
    ·rename_i h3
     split at h
     ·rename_i h4
      split at h
      ·cases h
      ·rename_i h5
       split at h
       ·cases h
       ·rename_i h6
        exact⟨h1,h2,h3,h4,by omega,by omega,h⟩
     ·cases h
    ·cases h
   ·cases h
  ·cases h
 ·intro h
  rw[if_pos h.own,if_pos h.dec,if_pos h.time,if_pos h.text,if_neg (by have:=h.tlen;omega),if_neg (by have:=h.blen;omega)]
  exact h.keys
mutual
def AK:Vl->Prop
 | .mk s l f=>KQ s l f/\By l/\Bz f
def By:List Vl->Prop
 | []=>True
 | v::r=>AK v/\By r
def Fo:Fd->Prop
 | .mk _ v=>AK v
def Bz:List Fd->Prop
 | []=>True
 | d::r=>Fo d/\Bz r
end
mutual
theorem Lt:∀(v:Vl) (d n:Nat),(BT d n v).2=0->AK v
 | .mk s l f,d,n,h=>by
  unfold BT at h
  unfold AK
  split at h
  ·cases h
  ·split at h
   ·cases h
   ·split at h
    ·rename_i h1;exact absurd h h1
    ·rename_i h1
     obtain⟨h2,h3⟩:=A8 h
     exact⟨Kh.1 (Decidable.of_not_not h1),ML l _ _ h2,MQ f _ _ h3⟩
theorem ML:∀(l:List Vl) (d n:Nat),(BK d n l).2=0->By l
 | [],d,n,_=>by unfold By;trivial
 | v::r,d,n,h=>by
  unfold BK at h
  unfold By
  obtain⟨h2,h3⟩:=A8 h
  exact⟨Lt v _ _ h2,ML r _ _ h3⟩
theorem chkD_ok:∀(x:Fd) (d n:Nat),(Hk d n x).2=0->Fo x
 | .mk k v,d,n,h=>by unfold Hk at h;unfold Fo;exact Lt v _ _ h
theorem MQ:∀(l:List Fd) (d n:Nat),(Bx d n l).2=0->Bz l
 | [],d,n,_=>by unfold Bz;trivial
 | x::r,d,n,h=>by
  unfold Bx at h
  unfold Bz
  obtain⟨h2,h3⟩:=A8 h
  exact⟨chkD_ok x _ _ h2,MQ r _ _ h3⟩
end
end
theorem SlR.isPtr {st:St} {sz n i:Nat} {u:TV} {xs:List TV} (h:SlR st sz u n xs) (hi:i<n):TVF.isPtr (ixT sz u i)=true:=by
 rcases h with(⟨rfl,rfl,rfl⟩ | ⟨tip,rfl⟩) | ⟨b,off,cap,l,rfl,_⟩
 ·omega
 ·rfl
 ·rfl
theorem SlR.ldcf {st:St} {sz n i f m:Nat} {u:TV} {xs:List TV} (h:SlR st sz u n xs) (hl:xs.length=n*sz) (hi:i<n) (hf:f+m<=sz):Am st [] (.t (AE (ixT sz u i) f)) 0 m=some ((xs.drop (i*sz+f)).take m):=by
 have hm:(i+1)*sz<=n*sz:=Nat.mul_le_mul_right _ hi
 rw[Nat.add_mul,Nat.one_mul]at hm
 rcases h with(⟨rfl,rfl,rfl⟩ | ⟨tip,rfl⟩) | ⟨b,off,cap,l,rfl,h2,h3,h4,h5,rfl⟩
 ·omega
 ·show Am st [] (.t (.rptr ((xs.drop (i*sz)).drop f))) 0 m=_
  rw[List.drop_drop,Jb m 0 (by rw[List.length_drop];omega),List.drop_zero]
 ·have hc:n*sz<=cap*sz:=Nat.mul_le_mul_right _ h5
  have e1:(((l.drop off).take (n*sz)).drop (i*sz+f)).take m=(l.drop (off+i*sz+f)).take m:=by
   rw[List.drop_take,List.drop_drop,List.take_take,Nat.min_eq_left (by omega),Nat.add_assoc]
  rw[e1]
  have e:=Iq (B:=l.drop (off+i*sz+f+m)) (st:=st) (b:=b) ((l.drop (off+i*sz+f)).take m) l 0 (off+i*sz+f) h3 (by
   have:=List.take_append_drop m (l.drop (off+i*sz+f))
   rw[List.drop_drop]at this
   rw[Nat.add_zero];exact this.symm)
  rw[show((l.drop (off+i*sz+f)).take m).length=m by simp;omega]at e
  exact e
theorem SlR.ldf {st:St} {sz n i f:Nat} {u x:TV} {xs:List TV} (h:SlR st sz u n xs) (hl:xs.length=n*sz) (hi:i<n) (hf:f<sz) (hx:xs[i*sz+f]? =some x):Ac st [] (.t (AE (ixT sz u i) f)) 0=some x:=by
 have:=h.ldcf (f:=f) (m:=1) hl hi (by omega)
 have hlt:i*sz+f<xs.length:=by
  obtain⟨q,_⟩:=List.getElem?_eq_some_iff.1 hx
  exact q
 rw[List.drop_eq_getElem_cons hlt]at this
 rw[List.getElem?_eq_getElem hlt]at hx
 simp only[Am,List.take_succ_cons,List.take_zero]at this
 cases hq:Ac st [] (.t (AE (ixT sz u i) f)) 0 with
 | none=>rw[hq]at this;cases this
 | some y=>
  rw[hq]at this
  simp only[Option.map_some,Option.some.injEq,List.cons.injEq,and_true]at this
  rw[this];exact hx
theorem val14 {st0 st:St} {uf:TV} {xf:List TV} {l:List Fd} (hke:Bp st0 st) (h2:SlR st0 14 uf l.length xf) (h3:FsR st0 l xf) {i:Int} {k:Nat} (hi:i=k) (hk:k<l.length) {f:Fun [.int .i64,.bool,.bool,.str,.int .i64,.int .i64,.int .i64,.int .i64,.int .i64,.str,.tv,.tv,.tv] Prop}
  (hf:∀key s' l' f' ub1 ul1 uf1,l[k]? =some (.mk key (.mk s' l' f'))->VlR st0 (.mk s' l' f') (AC s' ub1 ul1 uf1)->List.all (AC s' ub1 ul1 uf1) Aq=true->f s'.kind s'.b s'.neg s'.dg s'.ex s'.tk s'.td s'.tn s'.tz s'.text ub1 ul1 uf1):
  (0<=i/\i<(lenZ 14 uf:Int))/\need (TVF.isPtr (ixT 14 uf (Int.toNat i))) (Al ((Am st [] (.t (AE (ixT 14 uf (Int.toNat i)) 1)) 0 13).map TV.agg) fun x=>Dz [.int .i64,.bool,.bool,.str,.int .i64,.int .i64,.int .i64,.int .i64,.int .i64,.str,.tv,.tv,.tv] x f):=by
 subst hi
 have gw:l[k]? =some l[k]:=List.getElem?_eq_getElem hk
 obtain⟨cw,hw,hcw,hcl⟩:=h3.get gw
 rw[h2.lenZ,Int.toNat_natCast]
 refine⟨⟨by omega,by omega⟩,Aa (h2.isPtr hk) ?_⟩
 rw[(h2.keep hke).ldcf (f:=1) (m:=13) h3.len hk (by omega)]
 generalize l[k]=w at*
 cases w with
 | mk key w=>
 cases w with
 | mk s' l' f'=>
 unfold FdR at hw
 obtain⟨cw2,rfl,hw1⟩:=hw
 have hw2:=hw1
 unfold VlR at hw2
 obtain⟨ub',ul',uf',xl',xf',rfl,w1,w2,w3,w4,w5⟩:=hw2
 have e:(xf.drop (k*14+1)).take 13=AC s' ub' ul' uf':=by
  rw[<-List.drop_drop]
  have:=congrArg (fun z=>z.drop 1) hcw
  simp only[List.drop_take]at this
  simpa [AC]using this
 rw[e]
 exact Ad rfl (Jw (hf key s' l' f' ub' ul' uf' gw hw1 (C5 w1.one w2.one w4.one)))
theorem Rd.src {sz n:Nat} {v:TV} {xs:List TV} (h:Rd sz v n xs) (hl:xs.length=n*sz) (st:St):CG st sz v=some (n,xs):=(SlR.of_rd (st:=st) h).src hl
theorem Bp.trans {a b c:St} (h:Bp a b) (k:Bp b c):Bp a c:=⟨Nat.le_trans h.1 k.1,fun i hi=>(k.2 i (Nat.lt_of_lt_of_le hi h.1)).trans (h.2 i hi)⟩
theorem Da {s:B8} {f:B8->Prop} (h:f s):A1 .str (.str s) f:=h
theorem BJ {k:IntKind} {n:Int} {f:Int->Prop} (h:f n):A1 (.int k) (.int k n) f:=by
 simp only[A1];exact h
theorem ER {b:Bool} {f:Bool->Prop} (h:f b):A1 .bool (.bool b) f:=h
theorem LF {α:Type} {K:α->St->Prop} {a b:α} {st:St} (h:a=b) (hk:K b st):K a st:=h▸hk
def rD (l:B8):Nat×Nat:=if ul l=0 then(0,0)else(ur l,ul l)
theorem Pp (l:B8):D2 l<=l.length:=N9 _ l (Nat.le_refl _)
theorem LP:D2 []=0:=Bu _ (by simp[ul])
theorem Rd.ldx {sz:Nat} {v:TV} {n:Nat} {xs:List TV} (h:Rd sz v n xs) (st:St) (i j:Nat) {x:TV} (hx:xs[i*sz+j]? =some x):Ac st [] (.t (ixT sz v i)) j=some x:=by
 obtain⟨hlt,hx⟩:=List.getElem?_eq_some_iff.1 hx
 rw[h.ld st i j hlt,hx]
theorem Rd.ldfx {sz:Nat} {v:TV} {n:Nat} {xs:List TV} (h:Rd sz v n xs) (st:St) (i j:Nat) {x:TV} (hx:xs[i*sz+j]? =some x):Ac st [] (.t (AE (ixT sz v i) j)) 0=some x:=by
 obtain⟨hlt,hx⟩:=List.getElem?_eq_some_iff.1 hx
 rw[h.ldf st i j hlt,hx]
def hdS (b:Nat):Nat:=if b<128 then 1 else if 192<=b/\b<224 then 2 else if 224<=b/\b<240 then 3 else if 240<=b/\b<248 then 4 else 0
def hdB (b:Nat):Nat:=if b<128 then b else if 192<=b/\b<224 then b%32 else if 224<=b/\b<240 then b%16 else if 240<=b/\b<248 then b%8 else 0
def wid (r:Nat):Nat:=if r<128 then 1 else if r<2048 then 2 else if r<65536 then 3 else 4
theorem Gj (a m:Nat) (ha:a<256) (hm:m<=8):BL .and .u8 (a:Int) ((2^m-1:Nat):Int)=((a%2^m:Nat):Int):=by
 have:2^m<=2^8:=Nat.pow_le_pow_right (by decide) hm
 rw[QF _ _ ha (by omega),Nat.and_two_pow_sub_one_eq_mod]
theorem head_ok {B:Int} {b:Nat} {st:St} {K:Int->Int->St->Prop} (hB:B=(b:Int)) (hb:b<256) (hk:K (hdS b:Nat) (hdB b:Nat) st):CallT PR FS [.int .u8 B] [.one (.int .i64),.one (.int .i64)] st K:=by
 have m31:BL .and .u8 B (31:Int)=((b%32:Nat):Int):=by rw[hB];exact Gj b 5 hb (by decide)
 have m15:BL .and .u8 B (15:Int)=((b%16:Nat):Int):=by rw[hB];exact Gj b 4 hb (by decide)
 have m7:BL .and .u8 B (7:Int)=((b%8:Nat):Int):=by rw[hB];exact Gj b 3 hb (by decide)
 unfold hdS hdB at hk
 have kk:∀(x y x' y':Int),x=x'->y=y'->K x' y' st->K x y st:=fun x y x' y' h1 h2 hk=>by rw[h1,h2];exact hk
 refine LQ B st K ?_
 rw[m31,m15,m7,Ap B (by omega) (by omega),Ap ((b%32:Nat):Int) (by omega) (by omega),Ap ((b%16:Nat):Int) (by omega) (by omega),Ap ((b%8:Nat):Int) (by omega) (by omega)]
 by_cases g1:b<128
 ·rw[if_pos g1,if_pos g1]at hk
  exact Ab (fun _=>kk _ _ _ _ rfl hB hk) fun h=>by omega
 rw[if_neg g1,if_neg g1]at hk
 refine Ab (fun h=>by omega) fun _=>?_
 by_cases g2:192<=b/\b<224
 ·rw[if_pos g2,if_pos g2]at hk
  exact Ab (fun _=>Ab (fun _=>hk) fun h=>by omega) fun h=>by omega
 rw[if_neg g2,if_neg g2]at hk
 by_cases g3:224<=b/\b<240
 ·rw[if_pos g3,if_pos g3]at hk
  refine Ab (fun _=>Ab (fun h=>by omega) fun _=>?_) fun h=>by omega
  exact Ab (fun _=>Ab (fun _=>hk) fun h=>by omega) fun h=>by omega
 rw[if_neg g3,if_neg g3]at hk
 by_cases g4:240<=b/\b<248
 ·rw[if_pos g4,if_pos g4]at hk
  refine Ab (fun _=>Ab (fun h=>by omega) fun _=>?_) fun h=>by omega
  refine Ab (fun _=>Ab (fun h=>by omega) fun _=>?_) fun h=>by omega
  exact Ab (fun _=>Ab (fun _=>hk) fun h=>by omega) fun h=>by omega
 rw[if_neg g4,if_neg g4]at hk
 repeat' first
  | exact hk
  | omega
  | refine Ab (fun _=>?_) fun _=>?_
theorem OT {R:Int} {r:Nat} {st:St} {K:Bool->St->Prop} (hR:R=(r:Int)) (hk:K (decide (Bw r)) st):CallT PR Es [.int .i64 R] [.one (.bool)] st K:=by
 unfold Bw at hk
 refine JP R st K (Ab (fun _=>Ab (fun h2=>Ab (fun h3=>?_) fun h3=>?_) fun h2=>?_) fun h1=>by omega)
 ·exact LF (decide_eq_true (by omega)).symm hk
 ·exact LF (decide_eq_decide.2 (by omega)) hk
 ·exact LF (decide_eq_false (by omega)).symm hk
theorem Pn {R:Int} {r:Nat} {st:St} {K:Int->St->Prop} (hR:R=(r:Int)) (hk:K (wid r:Nat) st):CallT PR Fe [.int .i64 R] [.one (.int .i64)] st K:=by
 unfold wid at hk
 refine KT R st K (Ab (fun h1=>?_) fun h1=>Ab (fun h2=>?_) fun h2=>Ab (fun h3=>?_) fun h3=>?_)
 ·rw[if_pos (by omega)]at hk;exact hk
 ·rw[if_neg (by omega),if_pos (by omega)]at hk;exact hk
 ·rw[if_neg (by omega),if_neg (by omega),if_pos (by omega)]at hk;exact hk
 ·rw[if_neg (by omega),if_neg (by omega),if_neg (by omega)]at hk;exact hk
def Ld (l:B8):Prop:=hdS (bt l 0)≠0/\hdS (bt l 0)<=l.length/\(∀j,1<=j->j<hdS (bt l 0)->bt l j/64=2)/\Bw (Cd l (hdB (bt l 0)) (hdS (bt l 0)-1))/\wid (Cd l (hdB (bt l 0)) (hdS (bt l 0)-1))=hdS (bt l 0)
theorem pd_val (l:B8) (h:l≠ []) (hp:Ld l):ul l=hdS (bt l 0)/\ur l=Cd l (hdB (bt l 0)) (hdS (bt l 0)-1):=by
 obtain⟨p1,p2,p3,p4,p5⟩:=hp
 have e:=Lc l h
 have h0:=Ee l 0
 have e0:(l.getD 0 0).toNat=bt l 0:=rfl
 have e1:(l.getD 1 0).toNat=bt l 1:=rfl
 have e2:(l.getD 2 0).toNat=bt l 2:=rfl
 have e3:(l.getD 3 0).toNat=bt l 3:=rfl
 have fin:∀n r,rsz (bt l 0)=n->rb0 (bt l 0)=r->n=hdS (bt l 0)->r=hdB (bt l 0)->EQ (Cd l r (n-1))=l.take n->ul l=hdS (bt l 0)/\ur l=Cd l (hdB (bt l 0)) (hdS (bt l 0)-1):=by
  intro n r hn hr hn2 hr2 henc
  unfold PA at e
  simp only[hn,hr]at e
  rw[if_neg (by omega),if_pos ⟨by rw[hr2,hn2];exact p4,henc⟩]at e
  by_cases hz:ul l=0
  ·rw[if_pos hz]at e;simp only[Prod.mk.injEq]at e;omega
  ·rw[if_neg hz]at e;simp only[Prod.mk.injEq]at e
   exact⟨by omega,by rw[<-hr2,<-hn2];exact e.1.symm⟩
 have h1:=Ee l 1
 have h2:=Ee l 2
 have h3:=Ee l 3
 by_cases g1:bt l 0<128
 ·have hs:hdS (bt l 0)=1:=by unfold hdS;rw[if_pos g1]
  have hb:hdB (bt l 0)=bt l 0:=by unfold hdB;rw[if_pos g1]
  refine fin 1 (bt l 0) (by unfold rsz;rw[if_neg (by omega),if_neg (by omega),if_neg (by omega)]) (by unfold rb0;rw[if_neg (by omega),if_neg (by omega),if_neg (by omega)]) hs.symm hb.symm ?_
  rw[GY l (by omega)]
  simp only[Nat.sub_self,Cd]
  unfold EQ
  rw[if_pos g1]
  simp only[B0,BV,e0,and_true]
  omega
 by_cases g2:192<=bt l 0/\bt l 0<224
 ·have hs:hdS (bt l 0)=2:=by unfold hdS;rw[if_neg g1,if_pos g2]
  have hb:hdB (bt l 0)=bt l 0%32:=by unfold hdB;rw[if_neg g1,if_pos g2]
  rw[hs]at p3 p5
  rw[hb]at p5
  have q1:=p3 1 (by omega) (by omega)
  refine fin 2 (bt l 0%32) (by unfold rsz;rw[if_neg (by omega),if_neg (by omega),if_pos (by omega)]) (by unfold rb0;rw[if_neg (by omega),if_neg (by omega),if_pos (by omega)]) hs.symm hb.symm ?_
  rw[GX l (by omega)]
  simp only[Nat.reduceSub,Cd,Nat.zero_add]at p5⊢
  generalize bt l 0=b0 at*
  generalize bt l 1=b1 at*
  unfold wid at p5
  unfold EQ
  by_cases k1:b0%32*64+b1%64<128
  ·rw[if_pos k1]at p5;omega
  rw[if_neg k1]at p5⊢
  by_cases k2:b0%32*64+b1%64<2048
  ·rw[if_pos k2]
   simp only[B0,BV,e0,e1,and_true]
   omega
  ·rw[if_neg k2]at p5;split at p5<;>omega
 by_cases g3:224<=bt l 0/\bt l 0<240
 ·have hs:hdS (bt l 0)=3:=by unfold hdS;rw[if_neg g1,if_neg g2,if_pos g3]
  have hb:hdB (bt l 0)=bt l 0%16:=by unfold hdB;rw[if_neg g1,if_neg g2,if_pos g3]
  rw[hs]at p3 p5
  rw[hb]at p5
  have q1:=p3 1 (by omega) (by omega)
  have q2:=p3 2 (by omega) (by omega)
  refine fin 3 (bt l 0%16) (by unfold rsz;rw[if_neg (by omega),if_pos (by omega)]) (by unfold rb0;rw[if_neg (by omega),if_pos (by omega)]) hs.symm hb.symm ?_
  rw[E0 l (by omega)]
  simp only[Nat.reduceSub,Cd,Nat.zero_add,Nat.reduceAdd]at p5⊢
  generalize bt l 0=b0 at*
  generalize bt l 1=b1 at*
  generalize bt l 2=b2 at*
  generalize hr:(b0%16*64+b1%64)*64+b2%64=r at*
  unfold wid at p5
  unfold EQ
  by_cases k1:r<128
  ·rw[if_pos k1]at p5;omega
  rw[if_neg k1]at p5⊢
  by_cases k2:r<2048
  ·rw[if_pos k2]at p5;omega
  rw[if_neg k2]at p5⊢
  by_cases k3:r<65536
  ·rw[if_pos k3]
   simp only[B0,BV,e0,e1,e2,and_true]
   omega
  ·rw[if_neg k3]at p5;omega
 by_cases g4:240<=bt l 0/\bt l 0<248
 ·have hs:hdS (bt l 0)=4:=by unfold hdS;rw[if_neg g1,if_neg g2,if_neg g3,if_pos g4]
  have hb:hdB (bt l 0)=bt l 0%8:=by unfold hdB;rw[if_neg g1,if_neg g2,if_neg g3,if_pos g4]
  rw[hs]at p3 p4 p5
  rw[hb]at p4 p5
  have q1:=p3 1 (by omega) (by omega)
  have q2:=p3 2 (by omega) (by omega)
  have q3:=p3 3 (by omega) (by omega)
  refine fin 4 (bt l 0%8) (by unfold rsz;rw[if_pos (by omega)]) (by unfold rb0;rw[if_pos (by omega)]) hs.symm hb.symm ?_
  rw[Hu l (by omega)]
  simp only[Nat.reduceSub,Cd,Nat.zero_add,Nat.reduceAdd]at p4 p5⊢
  generalize bt l 0=b0 at*
  generalize bt l 1=b1 at*
  generalize bt l 2=b2 at*
  generalize bt l 3=b3 at*
  generalize hr:((b0%8*64+b1%64)*64+b2%64)*64+b3%64=r at*
  unfold wid at p5
  unfold EQ
  by_cases k1:r<128
  ·rw[if_pos k1]at p5;omega
  rw[if_neg k1]at p5⊢
  by_cases k2:r<2048
  ·rw[if_pos k2]at p5;omega
  rw[if_neg k2]at p5⊢
  by_cases k3:r<65536
  ·rw[if_pos k3]at p5;omega
  rw[if_neg k3]
  have:=p4.1
  simp only[B0,BV,e0,e1,e2,e3,and_true]
  omega
 ·exfalso
  unfold hdS at p1
  rw[if_neg g1,if_neg g2,if_neg g3,if_neg g4]at p1
  exact p1 rfl
theorem pd_iff (l:B8) (h:l≠ []):ul l≠0->Ld l:=by
 intro hu
 have e:=Lc l h
 rw[if_neg hu]at e
 have h0:=Ee l 0
 have e0:(l.getD 0 0).toNat=bt l 0:=rfl
 have e1:(l.getD 1 0).toNat=bt l 1:=rfl
 have e2:(l.getD 2 0).toNat=bt l 2:=rfl
 have e3:(l.getD 3 0).toNat=bt l 3:=rfl
 have h1:=Ee l 1
 have h2:=Ee l 2
 have h3:=Ee l 3
 have hc:¬l.length<rsz (bt l 0)/\Bw (Cd l (rb0 (bt l 0)) (rsz (bt l 0)-1))/\EQ (Cd l (rb0 (bt l 0)) (rsz (bt l 0)-1))=l.take (rsz (bt l 0)):=by
  unfold PA at e
  simp only at e
  split at e
  ·simp only[Prod.mk.injEq]at e;omega
  ·split at e
   ·rename_i a b;exact⟨a,b⟩
   ·simp only[Prod.mk.injEq]at e;omega
 obtain⟨hl,hch,henc⟩:=hc
 by_cases g4:240<=bt l 0
 ·have r4:rsz (bt l 0)=4:=by unfold rsz;rw[if_pos g4]
  have rb:rb0 (bt l 0)=bt l 0%8:=by unfold rb0;rw[if_pos g4]
  rw[r4,rb]at henc hch
  rw[r4]at hl
  rw[Hu l (by omega)]at henc
  unfold Ld hdS hdB
  simp only[Nat.reduceSub,Cd,Nat.zero_add,Nat.reduceAdd]at henc hch
  generalize hb0:bt l 0=b0 at*
  generalize hb1:bt l 1=b1 at*
  generalize hb2:bt l 2=b2 at*
  generalize hb3:bt l 3=b3 at*
  have hr0:∃r,r=((b0%8*64+b1%64)*64+b2%64)*64+b3%64:=⟨_,rfl⟩
  obtain⟨r,hr⟩:=hr0
  rw[<-hr]at henc hch
  have hmax:=hch.1
  unfold EQ at henc
  have hw:wid r=4/\b0=240+r/262144/\b1/64=2/\b2/64=2/\b3/64=2:=by
   unfold wid
   split at henc
   ·simp at henc
   ·split at henc
    ·simp at henc
    ·split at henc
     ·simp at henc
     ·simp only[B0,BV,e0,e1,e2,e3,and_true]at henc
      refine⟨by rw[if_neg ‹_›,if_neg ‹_›,if_neg ‹_›],by omega,by omega,by omega,by omega⟩
  rw[if_neg (show ¬b0<128 by omega),if_neg (show ¬(192<=b0/\b0<224) by omega),if_neg (show ¬(224<=b0/\b0<240) by omega),if_pos (show 240<=b0/\b0<248 by omega),if_neg (show ¬b0<128 by omega),if_neg (show ¬(192<=b0/\b0<224) by omega),if_neg (show ¬(224<=b0/\b0<240) by omega),if_pos (show 240<=b0/\b0<248 by omega)]
  simp only[Nat.reduceSub,Cd,Nat.zero_add,Nat.reduceAdd,hb1,hb2,hb3]
  rw[<-hr]
  refine⟨by omega,by omega,fun j j1 j2=>?_,hch,hw.1⟩
  have:j=1∨j=2∨j=3:=by omega
  rcases this with rfl | rfl | rfl<;>omega
 by_cases g3:224<=bt l 0
 ·have r4:rsz (bt l 0)=3:=by unfold rsz;rw[if_neg g4,if_pos g3]
  have rb:rb0 (bt l 0)=bt l 0%16:=by unfold rb0;rw[if_neg g4,if_pos g3]
  rw[r4,rb]at henc hch
  rw[r4]at hl
  rw[E0 l (by omega)]at henc
  unfold Ld hdS hdB
  simp only[Nat.reduceSub,Cd,Nat.zero_add,Nat.reduceAdd]at henc hch
  generalize hb0:bt l 0=b0 at*
  generalize hb1:bt l 1=b1 at*
  generalize hb2:bt l 2=b2 at*
  have hr0:∃r,r=(b0%16*64+b1%64)*64+b2%64:=⟨_,rfl⟩
  obtain⟨r,hr⟩:=hr0
  rw[<-hr]at henc hch
  unfold EQ at henc
  have hw:wid r=3/\b1/64=2/\b2/64=2:=by
   unfold wid
   split at henc
   ·simp at henc
   ·split at henc
    ·simp at henc
    ·split at henc
     ·simp only[B0,BV,e0,e1,e2,and_true]at henc
      refine⟨by rw[if_neg ‹_›,if_neg ‹_›,if_pos ‹_›],by omega,by omega⟩
     ·simp at henc
  rw[if_neg (show ¬b0<128 by omega),if_neg (show ¬(192<=b0/\b0<224) by omega),if_pos (show 224<=b0/\b0<240 by omega),if_neg (show ¬b0<128 by omega),if_neg (show ¬(192<=b0/\b0<224) by omega),if_pos (show 224<=b0/\b0<240 by omega)]
  simp only[Nat.reduceSub,Cd,Nat.zero_add,Nat.reduceAdd,hb1,hb2]
  rw[<-hr]
  refine⟨by omega,by omega,fun j j1 j2=>?_,hch,hw.1⟩
  have:j=1∨j=2:=by omega
  rcases this with rfl | rfl<;>omega
 by_cases g2:192<=bt l 0
 ·have r4:rsz (bt l 0)=2:=by unfold rsz;rw[if_neg g4,if_neg g3,if_pos g2]
  have rb:rb0 (bt l 0)=bt l 0%32:=by unfold rb0;rw[if_neg g4,if_neg g3,if_pos g2]
  rw[r4,rb]at henc hch
  rw[r4]at hl
  rw[GX l (by omega)]at henc
  unfold Ld hdS hdB
  simp only[Nat.reduceSub,Cd,Nat.zero_add,Nat.reduceAdd]at henc hch
  generalize hb0:bt l 0=b0 at*
  generalize hb1:bt l 1=b1 at*
  have hr0:∃r,r=b0%32*64+b1%64:=⟨_,rfl⟩
  obtain⟨r,hr⟩:=hr0
  rw[<-hr]at henc hch
  unfold EQ at henc
  have hw:wid r=2/\b1/64=2:=by
   unfold wid
   split at henc
   ·simp at henc
   ·split at henc
    ·simp only[B0,BV,e0,e1,and_true]at henc
     refine⟨by rw[if_neg ‹_›,if_pos ‹_›],by omega⟩
    ·split at henc<;>simp at henc
  rw[if_neg (show ¬b0<128 by omega),if_pos (show 192<=b0/\b0<224 by omega),if_neg (show ¬b0<128 by omega),if_pos (show 192<=b0/\b0<224 by omega)]
  simp only[Nat.reduceSub,Cd,Nat.zero_add,hb1]
  rw[<-hr]
  refine⟨by omega,by omega,fun j j1 j2=>?_,hch,hw.1⟩
  have:j=1:=by omega
  subst this;omega
 ·have r4:rsz (bt l 0)=1:=by unfold rsz;rw[if_neg g4,if_neg g3,if_neg g2]
  have rb:rb0 (bt l 0)=bt l 0:=by unfold rb0;rw[if_neg g4,if_neg g3,if_neg g2]
  rw[r4,rb]at henc hch
  rw[r4]at hl
  rw[GY l (by omega)]at henc
  unfold Ld hdS hdB
  simp only[Nat.sub_self,Cd]at henc hch
  generalize hb0:bt l 0=b0 at*
  have hlt:b0<128:=by
   unfold EQ at henc
   split at henc
   ·assumption
   ·split at henc
    ·simp at henc
    ·split at henc<;>simp at henc
  rw[if_pos hlt,if_pos hlt]
  simp only[Nat.sub_self,Cd]
  refine⟨by omega,by omega,fun j j1 j2=>by omega,hch,by unfold wid;rw[if_pos hlt]⟩
theorem Na {s:B8} {I:Int} {i:Nat} {st:St} {K:Int->Int->St->Prop} (hI:I=(i:Int)) (hl:s.length<=2000000) (hi:i<=s.length) (hk:K ((rD (s.drop i)).1:Nat) ((rD (s.drop i)).2:Nat) st):
  CallT PR Et [.str s,.int .i64 I] [.one (.int .i64),.one (.int .i64)] st K:=by
 have no:¬Ld (s.drop i)->s.drop i≠ []->K 0 0 st:=fun h hne=>by
  have:ul (s.drop i)=0:=Decidable.byContradiction fun h0=>h (pd_iff _ hne h0)
  unfold rD at hk
  rw[if_pos this]at hk;exact hk
 have yes:Ld (s.drop i)->s.drop i≠ []->K (Cd (s.drop i) (hdB (bt (s.drop i) 0)) (hdS (bt (s.drop i) 0)-1):Nat) (hdS (bt (s.drop i) 0):Nat) st:=fun h hne=>by
  have hv:=pd_val _ hne h
  unfold rD at hk
  rw[if_neg (by rw[hv.1];exact h.1),hv.1,hv.2]at hk
  exact hk
 have hlen:(s.drop i).length=s.length-i:=by simp
 have hb:∀j,bt (s.drop i) j=(s.getD (i+j) 0).toNat:=bt_drop s i
 refine JQ s I st K (Ab (fun h=>by omega) fun _=>Ab (fun h=>?_) fun h=>⟨⟨by omega,by omega⟩,?_⟩)
 ·have:s.drop i=[]:=List.drop_of_length_le (by omega)
  have h0:rD (s.drop i)=(0,0):=by rw[this];simp[rD,ul]
  rw[h0]at hk;exact hk
 have hne:s.drop i≠ []:=by
  intro h0
  have:=congrArg List.length h0
  rw[hlen]at this;simp only[List.length_nil]at this;omega
 have hb0:(List.getD s (Int.toNat I) 0).toNat=bt (s.drop i) 0:=by rw[hb,hI];rfl
 have hlt:=Ee (s.drop i) 0
 rw[hb0]
 refine head_ok rfl hlt ?_
 have hsz:hdS (bt (s.drop i) 0)<=4:=by unfold hdS;(repeat' split)<;>omega
 have hbz:hdB (bt (s.drop i) 0)<256:=by unfold hdB;(repeat' split)<;>omega
 unfold Ld at no yes
 generalize hdS (bt (s.drop i) 0)=n at*
 generalize hdB (bt (s.drop i) 0)=r0 at*
 rw[Ap _ (by omega) (by omega)]
 refine Ab (fun g=>no (fun hh=>hh.1 (by omega)) hne) fun g1=>Ab (fun g=>no (fun hh=>by omega) hne) fun g2=>?_
 have hra:=Oe (s.drop i) r0 hbz
 refine⟨fun r j s' at' sz st2=>s=s'/\I=at'/\st=st2/\((n:Nat):Int)=sz/\∃k:Nat,j=((k+1:Nat):Int)/\k+1<=n/\r=((Cd (s.drop i) r0 k:Nat):Int)/\∀m,1<=m->m<=k->bt (s.drop i) m/64=2,fun _ j _ _ sz _=>(sz-j).toNat,⟨rfl,rfl,rfl,rfl,0,rfl,by omega,rfl,fun m h1 h2=>by omega⟩,?_⟩
 rintro _ _ _ _ _ _ ⟨rfl,rfl,rfl,rfl,k,rfl,hk1,rfl,hall⟩
 have hrk:=hra k
 have h64:64^k<=64^3:=Nat.pow_le_pow_right (by decide) (by omega)
 refine Ab (fun h2=>?_) fun h2=>?_
 ·rw[Ap (I+((k+1:Nat):Int)) (by omega) (by omega)]
  have hbk:(List.getD s (Int.toNat (I+((k+1:Nat):Int))) 0).toNat=bt (s.drop i) (k+1):=by
   rw[hb,show Int.toNat (I+((k+1:Nat):Int))=i+(k+1) by omega]
  have hbl:=Ee (s.drop i) (k+1)
  have h192:BL .and .u8 ((bt (s.drop i) (k+1):Nat):Int) (192:Int)=((bt (s.drop i) (k+1)&&&192:Nat):Int):=QF _ 192 hbl (by decide)
  have hand:i64.wrap (BL .and .u8 ((bt (s.drop i) (k+1):Nat):Int) (63:Int))=((bt (s.drop i) (k+1)%64:Nat):Int):=by
   rw[show(63:Int)=((2^6-1:Nat):Int) by decide,Gj _ 6 hbl (by decide),Ap _ (by omega) (by omega)]
  have hmul:i64.wrap (((Cd (s.drop i) r0 k:Nat):Int)*2^(min (Int.toNat (6:Int)) (IntKind.bits .i64)))=((Cd (s.drop i) r0 k*2^6:Nat):Int):=by
   rw[show(2:Int)^(min (Int.toNat (6:Int)) (IntKind.bits .i64))=64 by decide,Ap _ (by omega) (by omega)];omega
  have hc:(bt (s.drop i) (k+1)&&&192)=128↔bt (s.drop i) (k+1)/64=2:=by
   have:∀x,x<256->((x&&&192)=128↔x/64=2):=by decide+kernel
   exact this _ hbl
  refine⟨⟨by omega,by omega⟩,?_⟩
  rw[hbk,h192,hand,hmul,or_add _ _ 6 (by omega) (by omega),Ap _ (by omega) (by omega)]
  refine Ab (fun h3=>no (fun hh=>h3 ?_) hne) fun h3=>?_
  ·have:=hh.2.2.1 (k+1) (by omega) (by omega)
   rw[hc.2 this];rfl
  ·have h4:bt (s.drop i) (k+1)/64=2:=hc.1 (by omega)
   refine⟨⟨rfl,rfl,rfl,rfl,k+1,by omega,by omega,by simp only[Cd],fun m m1 m2=>?_⟩,by dsimp only;omega⟩
   by_cases hm:m=k+1
   ·rw[hm];exact h4
   ·exact hall m m1 (by omega)
 ·have hks:k=n-1:=by omega
  subst hks
  refine OT rfl (AH (fun h3=>no (fun hh=>?_) hne) fun h3=>Pn rfl (Ab (fun h4=>no (fun hh=>?_) hne) fun h4=>?_))
  ·simp only[Bool.not_eq_true',decide_eq_false_iff_not]at h3
   exact h3 hh.2.2.2.1
  ·rw[hh.2.2.2.2]at h4;exact h4 rfl
  ·simp only[Bool.not_eq_false',decide_eq_true_eq]at h3
   exact yes ⟨by omega,by omega,fun m m1 m2=>hall m m1 (by omega),h3,by omega⟩ hne
theorem uLen_ok {s:B8} {st:St} {K:Int->Int->St->Prop} (hl:s.length<=2000000) (hk:∀n:Int,K n (if D2 s=s.length then 0 else 5) st):CallT PR GM [.str s] [.one (.int .i64),.one (.int .i64)] st K:=by
 have hv:=Pp s
 refine M9 s st K ⟨fun n i s' st'=>s=s'/\st=st'/\∃k:Nat,i=(k:Int)/\k<=s.length/\k+D2 (s.drop k)=D2 s,fun _ i _ _=>(s.length-i).toNat,⟨rfl,rfl,0,rfl,by omega,by simp⟩,?_⟩
 rintro n _ _ _ ⟨rfl,rfl,k,rfl,h1,h2⟩
 refine Ab (fun g1=>Na rfl hl h1 ?_) fun g1=>?_
 ·have hle:=Ob (s.drop k)
  rw[List.length_drop]at hle
  unfold rD
  by_cases h0:ul (s.drop k)=0
  ·rw[if_pos h0]
   rw[Bu _ h0]at h2
   have:=hk 0
   rw[if_neg (by omega)]at this
   exact Ab (fun _=>this) fun h=>absurd rfl h
  ·rw[if_neg h0]
   rw[FX _ h0,List.drop_drop]at h2
   refine Ab (fun h=>absurd h (by show ¬((ul (s.drop k):Nat):Int)=0;omega)) fun _=>?_
   have w:i64.wrap ((k:Int)+(ul (s.drop k):Nat))=((k+ul (s.drop k):Nat):Int):=by rw[Ap _ (by omega) (by omega)];omega
   dsimp only
   rw[w]
   exact⟨⟨rfl,rfl,_,rfl,by omega,by omega⟩,by omega⟩
 ·rw[show s.drop k=[]from List.drop_of_length_le (by omega),LP]at h2
  have:=hk n
  rw[if_pos (by omega)]at this
  exact this
theorem Kc {s:B8} {st:St} {K:Bool->St->Prop} (hl:s.length<=2000000) (hk:K (decide (D2 s=s.length)) st):CallT PR Dx [.str s] [.one (.bool)] st K:=by
 refine KU s st K (uLen_ok hl fun n=>?_)
 by_cases h:D2 s=s.length
 ·rw[if_pos h];rw[decide_eq_true h]at hk;exact hk
 ·rw[if_neg h];rw[decide_eq_false h]at hk;exact hk
theorem KW {l:B8} {c:UInt8} (hc:c.toNat<128) (hl:l.length<=9223372036854775807) {st:St} {K:B8->St->Prop} (hk:K (Lib.trimRightB l c) st):CallT PR C8 [.str l,.str [c]] [.one .str] st K:=by
 refine EZ (fun _ _=>by kernel_rfl) fun g w vargs s hr=>?_
 obtain⟨v,u,rfl,hv,hu⟩:=Px hr
 rw[FJ hv,FJ hu]
 refine Calls.mono (Tryd.strings_TrimRight_one ⟨l.toArray⟩ c hc w (by simpa [ByteArray.size]using hl)) ?_
 rintro e w' ⟨rfl,rfl⟩
 exact⟨_,rfl,.str _,st,g,hk,s,Rel.str _,Ext.refl _ _⟩
theorem IJ (l:B8):(Lib.trimRightB l 48).length+Ho l=l.length:=by
 unfold Lib.trimRightB Ho
 have:=congrArg List.length (List.takeWhile_append_dropWhile (p:=fun x:UInt8=>x==48) (l:=l.reverse))
 rw[List.length_append,List.length_reverse]at this
 rw[List.length_reverse];omega
theorem Pm {l:B8} (hl:l.length<=2000000) {st:St} {K:Int->St->Prop} (hk:K (Ho l:Nat) st):CallT PR Dh [.str l] [.one (.int .i64)] st K:=by
 refine Ih _ st K (KW (by decide) (by omega) ?_)
 have:=IJ l
 rw[Ap _ (by omega) (by omega),show((l.length:Nat):Int)-((Lib.trimRightB l 48).length:Int)=(Ho l:Nat) by omega]
 exact hk
theorem Qa {l:B8} {n:Nat} (h:n<l.length):List.getD l n 0∈l:=by
 rw[List.getD_eq_getElem?_getD,List.getElem?_eq_getElem h,Option.getD_some]
 exact List.getElem_mem h
theorem QH {P:UInt8->Prop} {l:B8} {n:Nat} (h:n<l.length) (h1:∀c,c∈l.take n->P c) (h2:P (List.getD l n 0)):∀c,c∈l.take (n+1)->P c:=by
 intro c hc
 rw[EM _ _ 0 h]at hc
 rcases List.mem_append.1 hc with hc | hc
 ·exact h1 c hc
 ·rw[List.mem_singleton.1 hc];exact h2
theorem all_ok {l:B8} (hl:l.length<=2000000) {st:St} {K:Bool->St->Prop} (hk:K (decide (∀c,c∈l->Lk c)) st):CallT PR Eu [.str l] [.one .bool] st K:=by
 refine JR l st K ⟨fun i s m st'=>l=s/\(l.length:Int)=m/\st=st'/\∃n:Nat,i=n/\n<=l.length/\∀c,c∈l.take n->Lk c,fun i _ _ _=>(l.length-i).toNat,⟨rfl,rfl,rfl,0,rfl,Nat.zero_le _,fun c hc=>by simp at hc⟩,?_⟩
 rintro _ _ _ _ ⟨rfl,rfl,rfl,n,rfl,hn,hall⟩
 refine Ab (fun g=>?_) fun g=>?_
 ·have hm:=Qa (l:=l) (n:=n) (by omega)
  have bad:¬Lk (List.getD l n 0)->K false st:=fun hb=>by
   rw[decide_eq_false fun h=>hb (h _ hm)]at hk;exact hk
  rw[Int.toNat_natCast]
  refine⟨⟨by omega,by omega⟩,Ab (fun g2=>bad (by unfold Lk;omega)) fun g2=>⟨⟨by omega,by omega⟩,Ab (fun g3=>bad (by unfold Lk;omega)) fun g3=>?_⟩⟩
  rw[Ap _ (by omega) (by omega)]
  exact⟨⟨rfl,rfl,rfl,n+1,by omega,by omega,QH (by omega) hall (by unfold Lk;omega)⟩,by dsimp only;omega⟩
 ·have:n=l.length:=by omega
  subst this
  rw[List.take_length]at hall
  rw[decide_eq_true hall]at hk;exact hk
def KR (l:B8):Prop:=l.length<=600/\(∀c,c∈l->Lk c)/\(l≠ []->l.getD 0 0≠48)
instance (l:B8):Decidable (KR l):=inferInstanceAs (Decidable (_/\_/\(_->_)))
theorem ne48 (c:UInt8):decide ((c.toNat:Int)≠48)=decide (c≠48):=by
 have:((c.toNat:Int)≠48)↔c≠48:=by rw[ne_eq,ne_eq,<-UInt8.toNat_inj];exact not_congr ⟨fun h=>Int.ofNat.inj h,fun h=>by rw[h];rfl⟩
 exact decide_eq_decide.2 this
theorem O8 {l:B8} (hl:l.length<=2000000) {st:St} {K:Bool->St->Prop} (hk:K (decide (KR l)) st):CallT PR Di [.str l] [.one .bool] st K:=by
 have no:¬KR l->K false st:=fun h=>by rw[decide_eq_false h]at hk;exact hk
 refine Ii l st K (Ab (fun g=>all_ok hl (Ab (fun g2=>Ab (fun g3=>?_) fun g3=>⟨⟨by omega,by have:=List.length_pos_iff.2 g3;omega⟩,?_⟩) fun g2=>no fun h=>g2 h.2.1)) fun g=>no fun h=>g (by have:=h.1;omega))
 ·rw[decide_eq_true (show KR l from⟨by omega,g2,fun h=>absurd g3 h⟩)]at hk;exact hk
 ·rw[ne48]
  refine LF (decide_eq_decide.2 ?_) hk
  exact⟨fun h=>⟨by omega,g2,fun _=>h⟩,fun h=>h.2.2 g3⟩
theorem ES {neg:Bool} {l:B8} {ex:Int} (h:l≠ []):De neg l ex↔KR l/\l.length<=120/\Ho l=0/\ -400<=ex/\ex<=400:=by
 unfold De KR
 constructor
 ·intro g
  obtain⟨g1,g2,g3,g4,g5,g6⟩:=g.2 h
  exact⟨⟨by omega,g2,fun _=>g3⟩,g1,g4,g5,g6⟩
 ·rintro⟨⟨g1,g2,g3⟩,g4,g5,g6,g7⟩
  exact⟨fun e=>absurd e h,fun _=>⟨g4,g2,g3 h,g5,g6,g7⟩⟩
theorem KF {neg:Bool} {ex:Int}:De neg [] ex↔neg=false/\ex=0:=by
 unfold De
 exact⟨fun g=>g.1 rfl,fun g=>⟨fun _=>g,fun h=>absurd rfl h⟩⟩
theorem MG {neg:Bool} {l:B8} {ex:Int} (hl:l.length<=2000000) {st:St} {K:Bool->St->Prop} (hk:K (decide (De neg l ex)) st):CallT PR CS [.agg [.bool neg,.str l,.int .i64 ex]] [.one .bool] st K:=by
 have no:¬De neg l ex->K false st:=fun h=>by rw[decide_eq_false h]at hk;exact hk
 refine Hr _ _ _ st K (Ab (fun g=>?_) fun g=>?_)
 ·subst g
  refine LF ?_ hk
  rw[Bool.eq_iff_iff]
  simp[KF]
 ·refine O8 hl (Ab (fun g2=>Ab (fun g3=>Pm hl (Ab (fun g4=>Ab (fun g5=>?_) fun g5=>?_) fun g4=>?_)) fun g3=>?_) fun g2=>?_)
  ·exact LF (decide_eq_decide.2 (by rw[ES g];exact⟨fun h=>⟨g2,by omega,by omega,g5,h⟩,fun h=>h.2.2.2.2⟩)) hk
  ·exact no fun h=>g5 ((ES g).1 h).2.2.2.1
  ·exact no fun h=>g4 (by have:=((ES g).1 h).2.2.1;omega)
  ·exact no fun h=>g3 (by have:=((ES g).1 h).2.1;omega)
  ·exact no fun h=>g2 ((ES g).1 h).1
theorem KX {k d n z:Int} {st:St} {K:Bool->St->Prop} (hk:K (decide (Ey k d n z)) st):CallT PR Cn [.agg [.int .i64 k,.int .i64 d,.int .i64 n,.int .i64 z]] [.one .bool] st K:=by
 refine Ig _ _ _ _ st K ?_
 repeat' first
  | exact LF (Eq.symm (decide_eq_false (by unfold Ey;omega))) hk
  | exact LF (Eq.symm (decide_eq_true (by unfold Ey;omega))) hk
  | exact LF (decide_eq_decide.2 (by unfold Ey;omega)) hk
  | refine Ab (fun _=>?_) fun _=>?_
theorem orc {c p r:Bool} {K:Bool->Prop} {R1 R2:Prop} (h1:K r->R1) (h2:K r->R2) (hk:K ((c&&p) || r)):BIf c (BIf p (K true) R1) R2:=by
 cases c<;>cases p<;>simp only[Bool.true_and,Bool.false_and,Bool.true_or,Bool.false_or]at hk<;>first | exact h1 hk | exact h2 hk | exact hk
theorem orn {c p r s:Bool} {K:Bool->Prop} {R1 R2:Prop} (hs:s=true) (h1:K r->R1) (h2:K r->R2) (hk:K ((c&&p) || r)):BIf c (need s (BIf p (K true) R1)) R2:=by
 subst hs;exact orc h1 h2 hk
theorem ore {c p s:Bool} {K:Bool->Prop} (hs:s=true) (hk:K (c&&p)):BIf c (need s (K p)) (K false):=by
 subst hs;cases c<;>exact hk
def exB (s:Sc) (l:List Vl) (f:List Fd):Bool:=
 (decide (s.kind≠1)&&s.b) || ((decide (s.kind≠2)&& !((s.neg==false)&&(decide (s.dg=[])&&(decide (s.ex=0)&&true)))) || ((decide (s.kind≠3)&& !(decide (s.tk=0)&&(decide (s.td=0)&&(decide (s.tn=0)&&(decide (s.tz=0)&&true))))) ||
  ((decide (s.kind≠4)&&decide (s.text≠ [])) || ((decide (s.kind≠5)&&decide (0<(s.bytes.length:Int))) || ((decide (s.kind≠6)&&decide (0<(l.length:Int))) || (decide (s.kind≠7)&&decide (0<(f.length:Int))))))))
theorem PV {α:Type} {l:List α}:¬0<(l.length:Int)↔l=[]:=by
 rw[<-List.length_eq_zero_iff];omega
theorem KA {s:Sc} {l:List Vl} {f:List Fd} (h0:0<=s.kind) (h7:s.kind<=7):exB s l f=false↔JH s l f:=by
 unfold exB
 simp only[Bool.or_eq_false_iff,Bool.and_eq_false_imp,decide_eq_true_eq,Bool.not_eq_false',Bool.and_eq_true,beq_iff_eq,decide_eq_false_iff_not,PV,ne_eq,Decidable.not_not,and_true]
 constructor
 ·rintro⟨a,b,c,d,e,f,g⟩;exact⟨h0,h7,a,b,c,d,e,f,g⟩
 ·rintro⟨_,_,a,b,c,d,e,f,g⟩;exact⟨a,b,c,d,e,f,g⟩
theorem exB_eq {s:Sc} {l:List Vl} {f:List Fd} (h0:0<=s.kind) (h7:s.kind<=7):exB s l f= !decide (JH s l f):=by
 cases h:exB s l f with
 | false=>rw[decide_eq_true ((KA h0 h7).1 h)];rfl
 | true=>rw[decide_eq_false fun o=>by rw[(KA h0 h7).2 o]at h;cases h];rfl
theorem Qe {s:Sc} {l:List Vl} {f:List Fd} {ub ul uf:TV} {st:St} {K:Bool->St->Prop} (h1:isSl ub=true) (h2:isSl ul=true) (h3:isSl uf=true) (l1:lenS ub=s.bytes.length) (l2:lenS ul=l.length) (l3:lenS uf=f.length) (hk:K (exB s l f) st):
  CallT PR DR [.agg (AC s ub ul uf)] [.one .bool] st K:=by
 unfold exB at hk
 refine Iz _ _ _ _ _ _ _ _ _ _ _ _ _ st K ?_
 rw[l1,l2,l3]
 revert hk
 repeat' first
  | (refine fun hk=>ore (K:=fun b=>K b st) h3 hk)
  | (refine fun hk=>orn (K:=fun b=>K b st) h1 ?_ ?_ hk)
  | (refine fun hk=>orn (K:=fun b=>K b st) h2 ?_ ?_ hk)
  | (refine fun hk=>orc (K:=fun b=>K b st) ?_ ?_ hk)
theorem key_ok {s:B8} (hl:s.length<=2000000) {st:St} {K:Int->St->Prop} (hk:K ((if U8 s then(if 1024<s.length then 10 else 0)else 5:Nat):Int) st):CallT PR Fc [.str s] [.one (.int .i64)] st K:=by
 refine KS _ st K (Kc hl (AH (fun g=>?_) fun g=>?_))
 ·have hu:¬U8 s:=by unfold U8;simpa using g
  rw[if_neg hu]at hk;exact hk
 ·have hu:U8 s:=by unfold U8;simpa using g
  rw[if_pos hu]at hk
  refine Ab (fun g2=>?_) fun g2=>?_
  ·have h3:1024<s.length:=by omega
   rw[if_pos h3]at hk;exact hk
  ·have h3:¬1024<s.length:=by omega
   rw[if_neg h3]at hk;exact hk
theorem GN (k k':B8) (v:TV):∀es:List (B8×TV),As k (Ek k' v es)=if k=k' then some v else As k es
 | []=>by
  simp only[Ek,As]
  by_cases h:k=k'<;>simp[h]
 | (k1,v1)::es=>by
  simp only[Ek]
  by_cases h1:k'=k1
  ·simp only[h1,decide_true,As]
   by_cases h:k=k1<;>simp[h]
  ·simp only[h1,decide_false,As,GN k k' v es]
   by_cases h:k=k1
   ·simp[h,Ne.symm h1]
   ·simp[h]
def MapN (es:List (B8×TV)) (ns:List B8):Prop:=∀t,As t es=if t∈ns then some (.bool true)else none
theorem MapN.add {es:List (B8×TV)} {ns:List B8} (h:MapN es ns) (t:B8):MapN (Ek t (.bool true) es) (t::ns):=by
 intro k
 rw[GN]
 by_cases hk:k=t
 ·simp[hk]
 ·rw[if_neg hk,h k];simp[hk]
theorem NC (seen:List B8) (d:Fd) (r:List Fd):Ck seen (d::r)=if U8 d.key then(if 1024<d.key.length then 10 else if d.key∈seen then 8 else Ck (d.key::seen) r)else 5:=rfl
theorem FT {α:Type} {l:List α} {k:Nat} {x:α} (h:l[k]? =some x):l.drop k=x::l.drop (k+1):=by
 obtain⟨q1,q2⟩:=List.getElem?_eq_some_iff.1 h
 rw[List.drop_eq_getElem_cons q1,q2]
theorem key_len {f:List Fd} {d:Fd} (h:d∈f):d.key.length<=Bt f:=by
 have:=MA h
 cases d;unfold Fd.sz at this;simp only[Fd.key];omega
theorem keys_ok {st0 st:St} {uf:TV} {xf:List TV} {f:List Fd} (hke:Bp st0 st) (h4:SlR st0 14 uf f.length xf) (h5:FsR st0 f xf) (hN:Bt f<=2000000) {K:Int->St->Prop} (hk:∀st',At st st'->K (Ck [] f:Nat) st'):
  CallT PR Ep [uf] [.one (.int .i64)] st K:=by
 have hfl:=EN f
 refine JL _ st K (Aa h4.isSl ⟨fun i m u n st'=> .map st.nb=m/\uf=u/\(f.length:Int)=n/\∃(k:Nat) (ns:List B8) (es:List (B8×TV)),i=k/\k<=f.length/\At st st'/\st.nb<st'.nb/\st'.box st.nb= .map es/\MapN es ns/\Ck [] f=Ck ns (f.drop k),fun i _ _ _ _=>(f.length-i).toNat,
  ⟨rfl,rfl,by rw[h4.lenS],0,[],[],rfl,Nat.zero_le _,(At.refl st).push _ _,by simp[St.push],by simp[St.push],fun t=>by simp[As],rfl⟩,?_⟩)
 rintro _ _ _ _ st1 ⟨rfl,rfl,rfl,k,ns,es,rfl,hkf,e1,hb,hm,hns,hE⟩
 refine Ab (fun g=>?_) fun g=>?_
 ·refine el14 (hke.trans e1.keeps) h4 h5 rfl (by omega) fun key s' l' f' ub1 ul1 uf1 gw hw on=>Aa on ?_
  have hmem:=I5 gw
  have hkl:=key_len hmem
  rw[FT gw,NC]at hE
  change Ck [] f=if U8 key then(if 1024<key.length then 10 else if key∈ns then 8 else Ck (key::ns) (f.drop (k+1)))else 5 at hE
  change key.length<=_ at hkl
  refine key_ok (by omega) ?_
  by_cases g1:U8 key
  case neg=>
   rw[if_neg g1]at hE⊢
   refine Ab (fun _=>?_) fun h=>absurd (by decide) h
   rw[<-hE];exact hk st1 e1
  rw[if_pos g1]at hE⊢
  by_cases g2:1024<key.length
  ·rw[if_pos g2]at hE⊢
   refine Ab (fun _=>?_) fun h=>absurd (by decide) h
   rw[<-hE];exact hk st1 e1
  rw[if_neg g2]at hE⊢
  refine Ab (fun h=>absurd rfl h) fun _=>Ad (x:=es) (by simp only[Dn,hm]) ?_
  rw[hns key]
  by_cases g3:key∈ns
  ·rw[if_pos g3]at hE⊢
   refine ER (AH (fun _=>?_) fun h=>by cases h)
   have:=hk st1 e1
   rw[hE]at this;exact this
  ·rw[if_neg g3]at hE⊢
   refine ER (AH (fun h=>by cases h) fun _=>⟨es,hm,?_⟩)
   rw[Ap _ (by omega) (by omega)]
   exact⟨⟨rfl,rfl,rfl,k+1,key::ns,_,by omega,by omega,StX.ext e1 (StX.put (S:=fun i=>i=st.nb) rfl _) (fun i hi=>by rw[hi];exact Nat.le_refl _),hb,by simp[St.put],hns.add key,hE⟩,by dsimp only;omega⟩
 ·have:k=f.length:=by omega
  subst this
  rw[List.drop_length]at hE
  have:=hk st1 e1
  rw[hE]at this;exact this
theorem Bp.stx {b:Nat} {a c d:St} (h:Bp a c) (k:StX (fun i=>i=b) c d) (hb:a.nb<=b):Bp a d:=
 ⟨Nat.le_trans h.1 k.nb,fun i hi=>(k.box i (Nat.lt_of_lt_of_le hi h.1) (by omega)).trans (h.2 i hi)⟩
theorem OB {d n:Nat} {s:Sc} {l:List Vl} {f:List Fd} (h1:¬48<d) (h2:¬65536<=n) (h3:DO s l f=0):BT d n (.mk s l f)=Fp (BK (d+1) (n+1) l) fun m=>Bx (d+1) m f:=by
 unfold BT;rw[if_neg h1,if_neg h2,if_neg (fun h=>h h3)]
theorem MP {d n:Nat} {s:Sc} {l:List Vl} {f:List Fd} (h1:¬48<d) (h2:¬65536<=n) (h3:DO s l f≠0):BT d n (.mk s l f)=(n,DO s l f):=by
 unfold BT;rw[if_neg h1,if_neg h2,if_pos h3]
theorem Jz (d n:Nat) (v:Vl) (r:List Vl):BK d n (v::r)=Fp (BT d n v) fun m=>BK d m r:=by rw[BK]
theorem NS (d n:Nat) (k:B8) (v:Vl) (r:List Fd):Bx d n (.mk k v::r)=Fp (BT d n v) fun m=>Bx d m r:=by rw[Bx,Hk]
theorem M8:U8 []:=by unfold U8;rw[LP];rfl
theorem Qv:∀(N:Nat) (v:Vl),v.sz<=N->N<=2000000->∀{st0 st:St} {cs:List TV} {b d n:Nat} {D:Int} {K:Int->St->Prop},VlR st0 v cs->Bp st0 st->st0.nb<=b->b<st.nb->st.box b= .cells [.int .i64 (n:Nat)]->n<=65536->D=(d:Int)->d<=100->
  (∀st' (m:Nat),StX (fun i=>i=b) st st'->st'.box b= .cells [.int .i64 (m:Nat)]->((BT d n v).2=0->m=(BT d n v).1/\m<=65536)->K ((BT d n v).2:Nat) st')->CallT PR BZ [.agg cs,.int .i64 D,.box b 0] [.one (.int .i64)] st K:=by
 intro N
 induction N with
 | zero=>intro v h;have:=v.sz_pos;omega
 | succ N ih=>
 intro v hN hN2 st0 st cs b d n D K h hke hb0 hb hbx hn hD hd hk
 subst hD
 cases v with
 | mk s l f=>
 have hsz:(Vl.mk s l f).sz=1+s.bytes.length+s.text.length+s.dg.length+Br l+Bt f:=by unfold Vl.sz;rfl
 have hll:=FA l
 have hfl:=EN f
 unfold VlR at h
 obtain⟨ub,ul,uf,xl,xf,rfl,h1,h2,h3,h4,h5⟩:=h
 refine IA _ _ _ _ _ _ _ _ _ _ _ _ _ (d:Int) b st K ?_
 refine Ad (x:= .int .i64 (n:Nat)) (by simp[Ac,hbx]) (BJ ?_)
 rw[Ap _ (by omega) (by omega)]
 refine⟨_,hbx,by simp,?_⟩
 obtain⟨st1,hst1⟩:∃st1,st1=st.put b (.cells (setAll [.int .i64 (n:Nat)] 0 [.int .i64 ((n:Int)+1)])):=⟨_,rfl⟩
 rw[<-hst1]
 have e1:StX (fun i=>i=b) st st1:=by rw[hst1];exact StX.put (S:=fun i=>i=b) rfl _
 have hb1:st1.box b= .cells [.int .i64 ((n+1:Nat):Int)]:=by rw[hst1];simp[St.put,setAll]
 have hke1:=hke.stx e1 hb0
 refine⟨fun dp p kd bo ng dg ex tk td tn tz tx u1 u2 u3 st'=>dp=d/\p= .box b 0/\ul=u2/\uf=u3/\¬48<d/\¬65536<=n/\DO s l f=Ck [] f/\StX (fun i=>i=b) st st'/\st'.box b= .cells [.int .i64 ((n+1:Nat):Int)],?_,?_⟩
 ·--the value but for the values in it
  refine Ab (fun g=>?_) fun g=>?_
  ·have hc:BT d n (.mk s l f)=(n,9):=by unfold BT;rw[if_pos (by omega)]
   have:=hk st1 (n+1) e1 hb1 (by rw[hc];intro h;cases h)
   rw[hc]at this;exact this
  refine Ad (x:= .int .i64 ((n+1:Nat):Int)) (by simp[Ac,hb1]) (BJ (Ab (fun g2=>?_) fun g2=>?_))
  ·have hc:BT d n (.mk s l f)=(n,10):=by unfold BT;rw[if_neg (by omega),if_pos (by omega)]
   have:=hk st1 (n+1) e1 hb1 (by rw[hc];intro h;cases h)
   rw[hc]at this;exact this
  have hg1:¬48<d:=by omega
  have hg2:¬65536<=n:=by omega
  --an error of the value itself
  have err:∀st',StX (fun i=>i=b) st st'->st'.box b= .cells [.int .i64 ((n+1:Nat):Int)]->DO s l f≠0->K ((DO s l f:Nat):Int) st':=fun st' e' hb' ho=>by
   have hc:=MP hg1 hg2 ho
   have:=hk st' (n+1) e' hb' (by rw[hc];intro h;exact absurd h ho)
   rw[hc]at this;exact this
  refine⟨fun q dp p kd bo ng dg ex tk td tn tz tx u1 u2 u3 st'=>dp=d/\p= .box b 0/\kd=s.kind/\ng=s.neg/\dg=s.dg/\ex=s.ex/\tk=s.tk/\td=s.td/\tn=s.tn/\tz=s.tz/\tx=s.text/\ub=u1/\ul=u2/\uf=u3/\q= !decide (JH s l f)/\st1=st',?_,?_⟩
  ·refine Ab (fun g3=>?_) fun g3=>Ab (fun g4=>?_) fun g4=>?_
   ·exact⟨rfl,rfl,rfl,rfl,rfl,rfl,rfl,rfl,rfl,rfl,rfl,rfl,rfl,rfl,by rw[decide_eq_false fun o=>by have:=o.k0;omega];rfl,rfl⟩
   ·exact⟨rfl,rfl,rfl,rfl,rfl,rfl,rfl,rfl,rfl,rfl,rfl,rfl,rfl,rfl,by rw[decide_eq_false fun o=>by have:=o.k7;omega];rfl,rfl⟩
   ·exact Qe (s:=s) (l:=l) (f:=f) h1.isSl h2.isSl h4.isSl h1.lenS h2.lenS h4.lenS ⟨rfl,rfl,rfl,rfl,rfl,rfl,rfl,rfl,rfl,rfl,rfl,rfl,rfl,rfl,exB_eq (by omega) (by omega),rfl⟩
  rintro q _ _ _ bo _ _ _ _ _ _ _ _ _ _ _ _ ⟨rfl,rfl,rfl,rfl,rfl,rfl,rfl,rfl,rfl,rfl,rfl,rfl,rfl,rfl,rfl,rfl⟩
  by_cases ho:JH s l f
  case neg=>
   refine AH (fun _=>?_) fun h=>by rw[decide_eq_false ho]at h;cases h
   have h6:DO s l f=6:=by unfold DO;rw[if_neg ho]
   have:=err st1 e1 hb1 (by rw[h6];decide)
   rw[h6]at this;exact this
  refine AH (fun h=>by rw[decide_eq_true ho]at h;cases h) fun _=>?_
  have hdec:s.kind≠2->De s.neg s.dg s.ex:=fun hk2=>by
   obtain⟨q1,q2,q3⟩:=ho.nu hk2
   rw[q2];exact KF.2 ⟨q1,q3⟩
  refine⟨fun q dp p kd bo ng dg ex tk td tn tz tx u1 u2 u3 st'=>dp=d/\p= .box b 0/\kd=s.kind/\tx=s.text/\ub=u1/\ul=u2/\uf=u3/\q= !(decide (De s.neg s.dg s.ex)&&decide (s.kind=3->Ey s.tk s.td s.tn s.tz))/\st1=st',?_,?_⟩
  ·refine Ab (fun g3=>MG (by omega) ?_) fun g3=>Ab (fun g4=>KX ?_) fun g4=>?_
   ·by_cases hq:De s.neg s.dg s.ex
    ·refine AH (fun h=>by rw[decide_eq_true hq]at h;cases h) fun _=>Ab (fun g4=>by omega) fun g4=>?_
     exact⟨rfl,rfl,rfl,rfl,rfl,rfl,rfl,by rw[decide_eq_true hq,decide_eq_true fun h=>absurd h g4];rfl,rfl⟩
    ·refine AH (fun h=>?_) fun h=>by rw[decide_eq_false hq]at h;cases h
     exact⟨rfl,rfl,rfl,rfl,rfl,rfl,rfl,by rw[decide_eq_false hq];rfl,rfl⟩
   ·exact⟨rfl,rfl,rfl,rfl,rfl,rfl,rfl,by rw[decide_eq_true (hdec g3),decide_eq_decide.2 (show(s.kind=3->Ey s.tk s.td s.tn s.tz)↔_ from⟨fun h=>h g4,fun h _=>h⟩)];rfl,rfl⟩
   ·exact⟨rfl,rfl,rfl,rfl,rfl,rfl,rfl,by rw[decide_eq_true (hdec g3),decide_eq_true fun h=>absurd h g4];rfl,rfl⟩
  rintro q _ _ _ bo2 ng2 dg2 ex2 tk2 td2 tn2 tz2 _ _ _ _ _ ⟨rfl,rfl,rfl,rfl,rfl,rfl,rfl,rfl,rfl⟩
  by_cases hq:De s.neg s.dg s.ex
  case neg=>
   refine AH (fun _=>?_) fun h=>by rw[decide_eq_false hq]at h;cases h
   have h6:DO s l f=2:=by unfold DO;rw[if_pos ho,if_neg hq]
   have:=err st1 e1 hb1 (by rw[h6];decide)
   rw[h6]at this;exact this
  by_cases hq2:s.kind=3->Ey s.tk s.td s.tn s.tz
  case neg=>
   refine AH (fun _=>?_) fun h=>by rw[decide_eq_true hq,decide_eq_false hq2]at h;cases h
   have h6:DO s l f=2:=by unfold DO;rw[if_pos ho,if_pos hq,if_neg hq2]
   have:=err st1 e1 hb1 (by rw[h6];decide)
   rw[h6]at this;exact this
  refine AH (fun h=>by rw[decide_eq_true hq,decide_eq_true hq2]at h;cases h) fun _=>?_
  --sizes
  have sizes:U8 s.text->∀(X:Prop),(DO s l f=Ck [] f->X)->BIf (decide (65536<(s.text.length:Int))) (K 10 st1) (need (isSl ub) (BIf (decide (65536<(lenS ub:Int))) (K 10 st1) X)):=fun hu X hX=>by
   have h6:DO s l f=if 65536<s.text.length then 10 else if 65536<s.bytes.length then 10 else Ck [] f:=by unfold DO;rw[if_pos ho,if_pos hq,if_pos hq2,if_pos hu]
   refine Ab (fun g5=>?_) fun g5=>Aa h1.isSl (Ab (fun g6=>?_) fun g6=>?_)
   ·rw[if_pos (by omega)]at h6
    have:=err st1 e1 hb1 (by rw[h6];decide)
    rw[h6]at this;exact this
   ·rw[h1.lenS]at g6
    rw[if_neg (by omega),if_pos (by omega)]at h6
    have:=err st1 e1 hb1 (by rw[h6];decide)
    rw[h6]at this;exact this
   ·rw[h1.lenS]at g6
    rw[if_neg (by omega),if_neg (by omega)]at h6
    exact hX h6
  refine Ab (fun g3=>Kc (by omega) (AH (fun g4=>?_) fun g4=>?_)) fun g3=>?_
  ·have hu:¬U8 s.text:=by unfold U8;simpa using g4
   have h6:DO s l f=5:=by unfold DO;rw[if_pos ho,if_pos hq,if_pos hq2,if_neg hu]
   have:=err st1 e1 hb1 (by rw[h6];decide)
   rw[h6]at this;exact this
  ·exact sizes (by unfold U8;simpa using g4) _ fun h6=>⟨rfl,rfl,rfl,rfl,hg1,hg2,h6,e1,hb1⟩
  ·exact sizes (by rw[ho.tx g3];exact M8) _ fun h6=>⟨rfl,rfl,rfl,rfl,hg1,hg2,h6,e1,hb1⟩
 ·rintro _ _ kd bo ng dg ex tk td tn tz tx u1 _ _ st2 ⟨rfl,rfl,rfl,rfl,hg1,hg2,h6,e2,hb2⟩
  have hke2:=hke.stx e2 hb0
  refine keys_ok hke2 h4 h5 (by omega) fun st3 e3=>?_
  have e23:=e2.trans (StX.of e3)
  have hb3:st3.box b= .cells [.int .i64 ((n+1:Nat):Int)]:=(e3.box b (by have:=e2.nb;omega)).trans hb2
  refine Ab (fun g=>?_) fun g=>Aa h2.isSl ?_
  ·have ho:DO s l f≠0:=by rw[h6];omega
   have hc:=MP hg1 hg2 ho
   have:=hk st3 (n+1) e23 hb3 (by rw[hc];intro h;exact absurd h ho)
   rw[hc,h6]at this;exact this
  have hone:DO s l f=0:=by rw[h6];omega
  have hC:=OB hg1 hg2 hone
  refine⟨fun i dp p u m kd bo ng dg ex tk td tn tz tx u1 u2 u3 st'=>dp=d/\p= .box b 0/\ul=u/\m=(l.length:Int)/\uf=u3/\∃k c:Nat,i=k/\k<=l.length/\c<=65536/\StX (fun i=>i=b) st st'/\st'.box b= .cells [.int .i64 ((c:Nat):Int)]/\BK (d+1) (n+1) l=BK (d+1) c (l.drop k),
   fun i _ _ _ _ _ _ _ _ _ _ _ _ _ _ _ _ _ _=>(l.length-i).toNat,⟨rfl,rfl,rfl,by rw[h2.lenS],rfl,0,n+1,rfl,Nat.zero_le _,by omega,e23,hb3,rfl⟩,?_⟩
  rintro _ _ _ _ _ kd bo ng dg ex tk td tn tz tx u1 u2 _ st4 ⟨rfl,rfl,rfl,rfl,rfl,k,c,rfl,hkl,hc,e4,hb4,hE⟩
  have hke4:=hke.stx e4 hb0
  refine Ab (fun g3=>?_) fun g3=>?_
  ·refine Qk hke4 h2 h3 rfl (by omega) fun s' l' f' ub1 ul1 uf1 gw hw on=>Aa on ?_
   have hwsz:=EC gw
   rw[FT gw,Jz]at hE
   rw[Ap _ (by omega) (by omega)]
   refine ih _ (by omega) (by omega) (d:=d+1) hw hke4 hb0 (by have:=e4.nb;omega) hb4 hc (by omega) (by omega) fun st5 m e5 hb5 hm=>?_
   have e45:=e4.trans e5
   refine Ab (fun g4=>?_) fun g4=>?_
   ·have hne:(BT (d+1) c (.mk s' l' f')).2≠0:=by omega
    rw[Ht hne]at hE
    have hc2:BT d n (.mk s l f)=BT (d+1) c (.mk s' l' f'):=by rw[hC,hE,Ht hne]
    have:=hk st5 m e45 hb5 (by rw[hc2];intro h;exact absurd h hne)
    rw[hc2]at this;exact this
   ·have hz:(BT (d+1) c (.mk s' l' f')).2=0:=by omega
    rw[BD hz]at hE
    obtain⟨hm1,hm2⟩:=hm hz
    rw[Ap _ (by omega) (by omega)]
    exact⟨⟨rfl,rfl,rfl,rfl,rfl,k+1,m,by omega,by omega,hm2,e45,hb5,by rw[hE,hm1]⟩,by dsimp only;omega⟩
  ·have hkk:k=l.length:=by omega
   subst hkk
   rw[List.drop_length]at hE
   have hE2:BK (d+1) (n+1) l=(c,0):=by rw[hE,BK]
   rw[hE2,BD rfl]at hC
   refine Aa h4.isSl ?_
   refine⟨fun i dp p u m st'=>dp=d/\p= .box b 0/\uf=u/\m=(f.length:Int)/\∃k c2:Nat,i=k/\k<=f.length/\c2<=65536/\StX (fun i=>i=b) st st'/\st'.box b= .cells [.int .i64 ((c2:Nat):Int)]/\Bx (d+1) c f=Bx (d+1) c2 (f.drop k),
    fun i _ _ _ _ _=>(f.length-i).toNat,⟨rfl,rfl,rfl,by rw[h4.lenS],0,c,rfl,Nat.zero_le _,hc,e4,hb4,rfl⟩,?_⟩
   rintro _ _ _ _ _ st5 ⟨rfl,rfl,rfl,rfl,k,c2,rfl,hkf,hc2,e5,hb5,hF⟩
   have hke5:=hke.stx e5 hb0
   refine Ab (fun g4=>?_) fun g4=>?_
   ·refine el14 hke5 h4 h5 rfl (by omega) fun key s' l' f' ub1 ul1 uf1 gw hw on=>Aa on ?_
    have hwsz:=EO gw
    have hwk:(Fd.mk key (.mk s' l' f')).sz=key.length+(Vl.mk s' l' f').sz:=by unfold Fd.sz;rfl
    rw[FT gw,NS]at hF
    rw[Ap _ (by omega) (by omega)]
    refine ih (.mk s' l' f') (by omega) (by omega) (d:=d+1) hw hke5 hb0 (by have:=e5.nb;omega) hb5 hc2 (by omega) (by omega) fun st6 m e6 hb6 hm=>?_
    have e56:=e5.trans e6
    refine Ab (fun g5=>?_) fun g5=>?_
    ·have hne:(BT (d+1) c2 (.mk s' l' f')).2≠0:=by omega
     rw[Ht hne]at hF
     have hc3:BT d n (.mk s l f)=BT (d+1) c2 (.mk s' l' f'):=by rw[hC];exact hF
     have:=hk st6 m e56 hb6 (by rw[hc3];intro h;exact absurd h hne)
     rw[hc3]at this;exact this
    ·have hz:(BT (d+1) c2 (.mk s' l' f')).2=0:=by omega
     rw[BD hz]at hF
     obtain⟨hm1,hm2⟩:=hm hz
     rw[Ap _ (by omega) (by omega)]
     exact⟨⟨rfl,rfl,rfl,rfl,k+1,m,by omega,by omega,hm2,e56,hb6,by rw[hF,hm1]⟩,by dsimp only;omega⟩
   ·have hkk:k=f.length:=by omega
    subst hkk
    rw[List.drop_length]at hF
    have hF2:BT d n (.mk s l f)=(c2,0):=by rw[hC];show Bx (d+1) c f=_;rw[hF,Bx]
    have:=hk st5 c2 e5 hb5 (by rw[hF2];exact fun _=>⟨rfl,hc2⟩)
    rw[hF2]at this;exact this
section
theorem M5 {v:Vl} (hN:v.sz<=2000000) {st0 st:St} {cs:List TV} {K:Int->St->Prop} (h:VlR st0 v cs) (hke:Bp st0 st) (hk:∀st',At st st'->K (AO v:Nat) st'):
  CallT PR Ay [.agg cs] [.one (.int .i64)] st K:=by
 have h0:=h
 cases v with
 | mk s l f=>
 unfold VlR at h0
 obtain⟨ub,ul,uf,xl,xf,rfl,_⟩:=h0
 have he:At st (st.push (.cells [.int .i64 0]) (some 3)):=(At.refl st).push _ _
 refine IC _ _ _ _ _ _ _ _ _ _ _ _ _ st K ⟨[.int .i64 0],by simp[St.push],by simp,?_⟩
 obtain⟨st1,hst1⟩:∃st1,st1=(st.push (.cells [.int .i64 0]) (some 3)).put st.nb (.cells (setAll [.int .i64 0] 0 [.int .i64 0])):=⟨_,rfl⟩
 rw[<-hst1]
 have e1:At st st1:=by rw[hst1];exact StX.ext he (StX.put (S:=fun i=>i=st.nb) rfl _) (fun i hi=>by rw[hi];exact Nat.le_refl _)
 have hb1:st1.box st.nb= .cells [.int .i64 ((0:Nat):Int)]:=by rw[hst1];simp[St.put,setAll]
 exact Qv 2000000 _ hN (by omega) (d:=1) h (hke.trans e1.keeps) hke.1 (by rw[hst1];simp[St.put,St.push]) hb1 (by omega) rfl (by omega) fun st2 m e2 hb2 _=>hk st2 (StX.ext e1 e2 (fun i hi=>by rw[hi];exact Nat.le_refl _))
mutual
theorem Lw:∀(v:Vl) (d n:Nat),n<=65536->(BT d n v).2=0->(BT d n v).1<=65536
 | .mk s l f,d,n,hn,h=>by
  unfold BT at h⊢
  split at h
  ·cases h
  ·rename_i g1
   rw[if_neg g1]
   split at h
   ·cases h
   ·rename_i g2
    rw[if_neg g2]
    split at h
    ·rename_i h1;exact absurd h h1
    ·rename_i g3
     rw[if_neg g3]
     obtain⟨h2,h3⟩:=A8 h
     rw[BD h2]
     exact MT f _ _ (MO l _ _ (by omega) h2) h3
theorem MO:∀(l:List Vl) (d n:Nat),n<=65536->(BK d n l).2=0->(BK d n l).1<=65536
 | [],d,n,hn,_=>by unfold BK;exact hn
 | v::r,d,n,hn,h=>by
  unfold BK at h⊢
  obtain⟨h2,h3⟩:=A8 h
  rw[BD h2]
  exact MO r _ _ (Lw v _ _ hn h2) h3
theorem chkD_le:∀(x:Fd) (d n:Nat),n<=65536->(Hk d n x).2=0->(Hk d n x).1<=65536
 | .mk k v,d,n,hn,h=>by unfold Hk at h⊢;exact Lw v _ _ hn h
theorem MT:∀(l:List Fd) (d n:Nat),n<=65536->(Bx d n l).2=0->(Bx d n l).1<=65536
 | [],d,n,hn,_=>by unfold Bx;exact hn
 | x::r,d,n,hn,h=>by
  unfold Bx at h⊢
  obtain⟨h2,h3⟩:=A8 h
  rw[BD h2]
  exact MT r _ _ (chkD_le x _ _ hn h2) h3
end
theorem VsR.snoc {st:St} {v:Vl} {cv:List TV}:∀{l:List Vl} {xs:List TV},VsR st l xs->VlR st v cv->VsR st (l++[v]) (xs++cv)
 | [],xs,h,hv=>by
  unfold VsR at h
  subst h
  show VsR st [v] _
  unfold VsR
  exact⟨cv,[],by simp,hv,by unfold VsR;rfl⟩
 | w::r,xs,h,hv=>by
  unfold VsR at h
  obtain⟨a,b,rfl,h1,h2⟩:=h
  show VsR st (w::(r++[v])) _
  unfold VsR
  exact⟨a,b++cv,by simp,h1,VsR.snoc h2 hv⟩
end
theorem VlR.cells {st:St} {s:Sc} {l:List Vl} {f:List Fd} {cs:List TV} (h:VlR st (.mk s l f) cs):∃ub ul uf xl xf,cs=AC s ub ul uf/\SlR st 1 ub s.bytes.length (AZ s.bytes)/\SlR st 13 ul l.length xl/\VsR st l xl/\SlR st 14 uf f.length xf/\FsR st f xf:=by
 unfold VlR at h
 obtain⟨ub,ul,uf,xl,xf,rfl,h⟩:=h
 exact⟨ub,ul,uf,xl,xf,rfl,h⟩
theorem szs (s:Sc) (l:List Vl) (f:List Fd):(Vl.mk s l f).sz=1+s.bytes.length+s.text.length+s.dg.length+Br l+Bt f:=by unfold Vl.sz;rfl
theorem szd (k:B8) (v:Vl):(Fd.mk k v).sz=k.length+v.sz:=by unfold Fd.sz;rfl
theorem keyLd {st0 st:St} {uf:TV} {xf:List TV} {l:List Fd} (hke:Bp st0 st) (h2:SlR st0 14 uf l.length xf) (h3:FsR st0 l xf) {k:Nat} {d:Fd} (hd:l[k]? =some d):Ac st [] (.t (AE (ixT 14 uf k) 0)) 0=some (.str d.key):=by
 obtain⟨hk,_⟩:=List.getElem?_eq_some_iff.1 hd
 obtain⟨cw,hw,hcw,hcl⟩:=h3.get hd
 have hx:xf[k*14+0]? =some (.str d.key):=by
  cases d with
  | mk key w=>
   unfold FdR at hw
   obtain⟨cs,rfl,_⟩:=hw
   have:=congrArg (fun z=>z[0]?) hcw
   simpa [Fd.key]using this
 exact(h2.keep hke).ldf h3.len hk (by omega) hx
section
mutual
theorem JA:∀(v:Vl) (d n:Nat),(BT d n v).2=0->(BT d n v).1=n+v.cnt
 | .mk s l f,d,n,h=>by
  unfold BT at h⊢
  unfold Vl.cnt
  split at h
  ·cases h
  ·rename_i g1
   rw[if_neg g1]
   split at h
   ·cases h
   ·rename_i g2
    rw[if_neg g2]
    split at h
    ·rename_i h1;exact absurd h h1
    ·rename_i g3
     rw[if_neg g3]
     obtain⟨h2,h3⟩:=A8 h
     rw[BD h2,KI f _ _ h3,KH l _ _ h2];omega
theorem KH:∀(l:List Vl) (d n:Nat),(BK d n l).2=0->(BK d n l).1=n+Av l
 | [],d,n,_=>by unfold BK Av;rfl
 | v::r,d,n,h=>by
  unfold BK at h⊢
  unfold Av
  obtain⟨h2,h3⟩:=A8 h
  rw[BD h2,KH r _ _ h3,JA v _ _ h2];omega
theorem Qs:∀(x:Fd) (d n:Nat),(Hk d n x).2=0->(Hk d n x).1=n+x.cnt
 | .mk k v,d,n,h=>by unfold Hk at h⊢;unfold Fd.cnt;exact JA v _ _ h
theorem KI:∀(l:List Fd) (d n:Nat),(Bx d n l).2=0->(Bx d n l).1=n+AA l
 | [],d,n,_=>by unfold Bx AA;rfl
 | x::r,d,n,h=>by
  unfold Bx at h⊢
  unfold AA
  obtain⟨h2,h3⟩:=A8 h
  rw[BD h2,KI r _ _ h3,Qs x _ _ h2];omega
end
theorem DF {v:Vl} (h:AO v=0):v.cnt<=65536:=by
 have h1:=JA v 1 0 h
 have h2:=Lw v 1 0 (by omega) h
 omega
theorem Ic {v:Vl} (h:AO v=0):AK v:=Lt v 1 0 h
end
section
def BA (l:List Vl) (f:List Fd):List Vl:=l++f.map Fd.val
mutual
def HO:Vl->Nat
 | .mk _ l f=>1+max (Cb l) (Gw f)
def Cb:List Vl->Nat
 | []=>0
 | v::r=>max (HO v) (Cb r)
def O6:Fd->Nat
 | .mk _ v=>HO v
def Gw:List Fd->Nat
 | []=>0
 | d::r=>max (O6 d) (Gw r)
end
theorem Gf:∀l m:List Vl,Cb (l++m)=max (Cb l) (Cb m)
 | [],m=>by simp[Cb]
 | v::r,m=>by simp only[List.cons_append,Cb,Gf r m];omega
theorem KD:∀f:List Fd,Gw f=Cb (f.map Fd.val)
 | []=>rfl
 | .mk k v::r=>by simp only[List.map_cons,Cb,Gw,KD r,O6,Fd.val]
theorem CK:∀l m:List Vl,Av (l++m)=Av l+Av m
 | [],m=>by simp[Av]
 | v::r,m=>by simp only[List.cons_append,Av,CK r m];omega
theorem Ky:∀f:List Fd,AA f=Av (f.map Fd.val)
 | []=>rfl
 | .mk k v::r=>by simp only[List.map_cons,Av,AA,Ky r,Fd.cnt,Fd.val]
theorem MJ (s:Sc) (l:List Vl) (f:List Fd):(Vl.mk s l f).cnt=1+Av (BA l f):=by
 unfold BA Vl.cnt
 rw[CK,<-Ky];omega
theorem Qo (s:Sc) (l:List Vl) (f:List Fd):HO (Vl.mk s l f)=1+Cb (BA l f):=by
 unfold BA HO
 rw[Gf,<-KD]
mutual
theorem Oy:∀v:Vl,HO v<=v.cnt
 | .mk s l f=>by
  unfold HO Vl.cnt
  have:=Jr l
  have:=MF f
  omega
theorem Jr:∀l:List Vl,Cb l<=Av l
 | []=>by unfold Cb;exact Nat.zero_le _
 | v::r=>by
  unfold Cb Av
  have:=Oy v
  have:=Jr r
  omega
theorem Qn:∀d:Fd,O6 d<=d.cnt
 | .mk k v=>by unfold O6 Fd.cnt;exact Oy v
theorem MF:∀l:List Fd,Gw l<=AA l
 | []=>by unfold Gw;exact Nat.zero_le _
 | d::r=>by
  unfold Gw AA
  have:=Qn d
  have:=MF r
  omega
end
theorem VsR.all_one {st:St}:∀{l:List Vl} {xs:List TV},VsR st l xs->List.all xs Aq=true
 | [],xs,h=>by unfold VsR at h;subst h;rfl
 | .mk s l f::r,xs,h=>by
  unfold VsR at h
  obtain⟨a,b,rfl,h1,h2⟩:=h
  obtain⟨ub,ul,uf,xl,xf,rfl,q1,q2,_,q4,_⟩:=h1.cells
  rw[List.all_append,VsR.all_one h2,Bool.and_true]
  exact C5 q1.one q2.one q4.one
theorem VsR.app {st:St}:∀{l m:List Vl} {xs ys:List TV},VsR st l xs->VsR st m ys->VsR st (l++m) (xs++ys)
 | [],m,xs,ys,h,hm=>by unfold VsR at h;subst h;exact hm
 | v::r,m,xs,ys,h,hm=>by
  unfold VsR at h
  obtain⟨a,b,rfl,h1,h2⟩:=h
  show VsR st (v::(r++m)) _
  unfold VsR
  exact⟨a,b++ys,by simp,h1,VsR.app h2 hm⟩
theorem Pc {st0 st:St} {u:TV} {l:List Vl} {xl:List TV} (hke:Bp st0 st) (h:SlR st0 13 u l.length xl) (hv:VsR st0 l xl) (hl:l.length<=2000000) {K:TV->St->Prop} (hk:∀v st',At st st'->Own st.nt 13 st' v l.length xl->K v st'):
  CallT PR AM [u] [.one .tv] st K:=by
 have hxl:=hv.len
 refine BU _ st K (Aa h.isSl ?_)
 cases hq:Ce u with
 | true=>
  show K .nilSlice st
  have h0:l=[]:=by
   rcases h with(⟨rfl,h1,_⟩ | ⟨tip,rfl⟩) | ⟨b,off,cap,m,rfl,_⟩
   ·exact List.eq_nil_of_length_eq_zero h1
   ·cases hq
   ·cases hq
  subst h0
  have hx0:xl=[]:=List.eq_nil_of_length_eq_zero (by simpa using hxl)
  subst hx0
  exact hk _ st (At.refl _) (Own.nil _ _ _)
 | false=>
  refine Ad ((h.keep hke).src hxl) (Aa hv.all_one ?_)
  refine Hl (At.refl st) rfl (Own.full st.nt 13 st 0 []) (by simp only;omega) (fun h0=>?_) fun v1 st1 e1 _ ho=>?_
  ·simp only at h0
   exact List.eq_nil_of_length_eq_zero (by rw[hxl,h0,Nat.zero_mul])
  ·rw[List.nil_append,Nat.zero_add]at ho
   exact hk v1 st1 e1 ho
theorem Mg {s:Sc} {l:List Vl} {f:List Fd} (hN:(Vl.mk s l f).sz<=2000000) {st0 st:St} {ub ul uf:TV} {K:TV->St->Prop} (h:VlR st0 (.mk s l f) (AC s ub ul uf)) (hke:Bp st0 st)
  (hk:∀u xl st',At st st'->SlR st' 13 u (BA l f).length xl->VsR st' (BA l f) xl->K u st'):CallT PR CX [.agg (AC s ub ul uf)] [.one .tv] st K:=by
 have hsz:=szs s l f
 have hll:=FA l
 have hfl:=EN f
 obtain⟨ub',ul',uf',xl,xf,hcs,h1,h2,h3,h4,h5⟩:=h.cells
 simp only[AC,List.cons.injEq,and_true,true_and]at hcs
 obtain⟨rfl,rfl,rfl⟩:=hcs
 have hxl:=h3.len
 refine JK _ _ _ _ _ _ _ _ _ _ _ _ _ st K (Pc hke h2 h3 (by omega) fun v1 st1 e1 ho1=>Aa h4.isSl ?_)
 refine⟨fun o i u n st'=>uf=u/\n=(f.length:Int)/\∃(k:Nat) (xs:List TV),i=k/\k<=f.length/\At st st'/\Own st.nt 13 st' o (l.length+k) (xl++xs)/\VsR st0 ((f.take k).map Fd.val) xs,fun _ i _ _ _=>(f.length-i).toNat,
  ⟨rfl,by rw[h4.lenS],0,[],rfl,Nat.zero_le _,e1,by simpa using ho1,by simp only[List.take_zero,List.map_nil];unfold VsR;rfl⟩,?_⟩
 rintro o _ _ _ st2 ⟨rfl,rfl,k,xs,rfl,hkf,e2,ho,hv⟩
 refine Ab (fun g2=>?_) fun g2=>?_
 ·refine el14 (hke.trans e2.keeps) h4 h5 rfl (by omega) fun key s' l' f' ub1 ul1 uf1 gw hw on=>Aa on ?_
  have on2:List.all (AC s' ub1 ul1 uf1) Aq=true:=by
   rw[List.all_cons]at on;exact(Bool.and_eq_true_iff.1 on).2
  refine Aa on2 (Hl e2 rfl ho (by omega) (fun h=>by cases h) fun v2 st3 e3 _ ho2=>?_)
  rw[Ap _ (by omega) (by omega)]
  refine⟨⟨rfl,rfl,k+1,xs++AC s' ub1 ul1 uf1,by omega,by omega,e3,by simpa [AC,Nat.add_assoc]using ho2,?_⟩,by dsimp only;omega⟩
  rw[ED gw,List.map_append]
  exact VsR.snoc hv hw
 ·have hkk:k=f.length:=by omega
  subst hkk
  rw[List.take_length]at hv
  have hke2:=hke.trans e2.keeps
  refine hk o (xl++xs) st2 e2 ?_ (VsR.keep hke2 (VsR.app h3 hv))
  unfold BA
  rw[List.length_append,List.length_map]
  exact .of_rd ho.rd
theorem EV {l:List Vl} {k:Nat} {w:Vl} (h:l[k]? =some w):Av (l.take (k+1))=Av (l.take k)+w.cnt:=by
 rw[ED h,CK];simp[Av]
theorem NO {l:List Vl} {k:Nat} {w:Vl} (h:l[k]? =some w):Cb (l.take (k+1))=max (Cb (l.take k)) (HO w):=by
 rw[ED h,Gf];simp[Cb]
theorem CU (l:List Vl) (k:Nat):Av (l.take k)<=Av l:=by
 have:=CK (l.take k) (l.drop k)
 rw[List.take_append_drop]at this;omega
theorem J8 (l:List Vl):l.length<=Av l:=by
 induction l with
 | nil=>exact Nat.zero_le _
 | cons v r ih=>unfold Av;have:=v.cnt_pos;simp only[List.length_cons];omega
theorem Gv (l:List Vl) (k:Nat):Cb (l.take k)<=Cb l:=by
 have:=Gf (l.take k) (l.drop k)
 rw[List.take_append_drop]at this;omega
mutual
theorem GO:∀v:Vl,v.cnt<=v.sz
 | .mk s l f=>by
  have:=It l
  have:=Iu f
  unfold Vl.cnt;rw[szs];omega
theorem It:∀l:List Vl,Av l<=Br l
 | []=>by unfold Av;exact Nat.zero_le _
 | v::r=>by
  unfold Av Br
  have:=GO v
  have:=It r
  omega
theorem cntd_sz:∀d:Fd,d.cnt<=d.sz
 | .mk k v=>by unfold Fd.cnt Fd.sz;have:=GO v;omega
theorem Iu:∀l:List Fd,AA l<=Bt l
 | []=>by unfold AA;exact Nat.zero_le _
 | d::r=>by
  unfold AA Bt
  have:=cntd_sz d
  have:=Iu r
  omega
end
theorem Ms {s:Sc} {l:List Vl} {f:List Fd} {k:Nat} {w:Vl} (h:(BA l f)[k]? =some w):w.sz+1<=(Vl.mk s l f).sz:=by
 have hsz:=szs s l f
 rcases List.mem_append.1 (I5 h)with h | h
 ·have:=Po h;omega
 ·obtain⟨d,hd,rfl⟩:=List.mem_map.1 h
  have:=MA hd
  cases d;rw[szd]at this;simp only[Fd.val];omega
theorem size_ok:∀(N:Nat) (v:Vl),v.sz<=N->N<=2000000->∀{st0 st:St} {cs:List TV} {L:Int} {K:Int->St->Prop},VlR st0 v cs->Bp st0 st->(v.cnt:Int)<=L->L<=100000000->(∀st',At st st'->K (v.cnt:Nat) st')->
  CallT PR CW [.agg cs,.int .i64 L] [.one (.int .i64)] st K:=by
 intro N
 induction N with
 | zero=>intro v h;have:=v.sz_pos;omega
 | succ N ih=>
 intro v hN hN2 st0 st cs L K h hke hL hL2 hk
 cases v with
 | mk s l f=>
 have h0:=h
 obtain⟨ub,ul,uf,xl,xf,rfl,_⟩:=h.cells
 have hC:=MJ s l f
 have hcs:=GO (.mk s l f)
 have hpos:=(Vl.mk s l f).cnt_pos
 have hlen:=J8 (BA l f)
 refine JJ _ _ _ _ _ _ _ _ _ _ _ _ _ L st K (Ab (fun g=>by omega) fun _=>Mg (by omega) h0 hke fun u xl st1 e1 hu hv=>Aa hu.isSl ?_)
 refine⟨fun n i le u' m st'=>u=u'/\le=L/\m=((BA l f).length:Int)/\∃k:Nat,i=k/\k<=(BA l f).length/\n=((1+Av ((BA l f).take k):Nat):Int)/\At st1 st',fun _ i _ _ _ _=>((BA l f).length-i).toNat,
  ⟨rfl,rfl,by rw[hu.lenS],0,rfl,Nat.zero_le _,rfl,At.refl _⟩,?_⟩
 rintro _ _ _ _ _ st2 ⟨rfl,rfl,rfl,k,rfl,hkl,rfl,e2⟩
 have htk:=CU (BA l f) k
 refine Ab (fun g=>?_) fun g=>?_
 ·refine Qk e2.keeps hu hv rfl (by omega) fun s' l' f' ub1 ul1 uf1 gw hw on=>Aa on ?_
  have hwsz:=Ms (s:=s) gw
  have hwc:=EV gw
  have htk2:=CU (BA l f) (k+1)
  rw[Ap (_-1) (by omega) (by omega)]
  refine ih _ (by omega) (by omega) hw e2.keeps (by omega) (by omega) fun st3 e3=>?_
  rw[Ap _ (by omega) (by omega),Ap _ (by omega) (by omega)]
  exact⟨⟨rfl,rfl,rfl,k+1,by omega,by omega,by omega,e2.trans e3⟩,by dsimp only;omega⟩
 ·have hkk:k=(BA l f).length:=by omega
  rw[hkk,List.take_length,<-hC]
  exact hk st2 (e1.trans e2)
theorem Size_ok {v:Vl} (hN:v.sz<=2000000) (hC:v.cnt<=65536) {st0 st:St} {cs:List TV} {K:Int->St->Prop} (h:VlR st0 v cs) (hke:Bp st0 st) (hk:∀st',At st st'->K (v.cnt:Nat) st'):CallT PR Er [.agg cs] [.one (.int .i64)] st K:=by
 cases v with
 | mk s l f=>
 have h0:=h
 obtain⟨ub,ul,uf,xl,xf,rfl,_⟩:=h.cells
 exact JN _ _ _ _ _ _ _ _ _ _ _ _ _ st K (size_ok 2000000 _ hN (by omega) h0 hke (by omega) (by omega) hk)
theorem deep_ok:∀(N:Nat) (v:Vl),v.sz<=N->N<=2000000->∀{st0 st:St} {cs:List TV} {L:Int} {K:Int->St->Prop},VlR st0 v cs->Bp st0 st->(v.cnt:Int)<=L->L<=100000000->(∀st',At st st'->K (HO v:Nat) st')->
  CallT PR CY [.agg cs,.int .i64 L] [.one (.int .i64)] st K:=by
 intro N
 induction N with
 | zero=>intro v h;have:=v.sz_pos;omega
 | succ N ih=>
 intro v hN hN2 st0 st cs L K h hke hL hL2 hk
 cases v with
 | mk s l f=>
 have h0:=h
 obtain⟨ub,ul,uf,xl,xf,rfl,_⟩:=h.cells
 have hC:=MJ s l f
 have hD:=Qo s l f
 have hcs:=GO (.mk s l f)
 have hpos:=(Vl.mk s l f).cnt_pos
 have hlen:=J8 (BA l f)
 have hdc:=Jr (BA l f)
 refine JM _ _ _ _ _ _ _ _ _ _ _ _ _ L st K (Ab (fun g=>?_) fun _=>Mg (by omega) h0 hke fun u xl st1 e1 hu hv=>Aa hu.isSl ?_)
 ·have:=hk st (At.refl _)
  rw[show HO (.mk s l f)=1 by omega]at this;exact this
 refine⟨fun n i le u' m st'=>u=u'/\le=L/\m=((BA l f).length:Int)/\∃k:Nat,i=k/\k<=(BA l f).length/\n=((1+Cb ((BA l f).take k):Nat):Int)/\At st1 st',fun _ i _ _ _ _=>((BA l f).length-i).toNat,
  ⟨rfl,rfl,by rw[hu.lenS],0,rfl,Nat.zero_le _,rfl,At.refl _⟩,?_⟩
 rintro _ _ _ _ _ st2 ⟨rfl,rfl,rfl,k,rfl,hkl,rfl,e2⟩
 have htk:=Gv (BA l f) k
 refine Ab (fun g=>?_) fun g=>?_
 ·refine Qk e2.keeps hu hv rfl (by omega) fun s' l' f' ub1 ul1 uf1 gw hw on=>Aa on ?_
  have hwsz:=Ms (s:=s) gw
  have hwc:=EV gw
  have hwd:=NO gw
  have htk2:=Gv (BA l f) (k+1)
  have htk3:=CU (BA l f) (k+1)
  rw[Ap (_-1) (by omega) (by omega)]
  refine ih _ (by omega) (by omega) hw e2.keeps (by omega) (by omega) fun st3 e3=>?_
  rw[Ap _ (by omega) (by omega),Ap _ (by omega) (by omega)]
  exact⟨⟨rfl,rfl,rfl,k+1,by omega,by omega,by rw[hwd];omega,e2.trans e3⟩,by dsimp only;omega⟩
 ·have hkk:k=(BA l f).length:=by omega
  rw[hkk,List.take_length,<-hD]
  exact hk st2 (e1.trans e2)
theorem QK {v:Vl} (hN:v.sz<=2000000) (hC:v.cnt<=65536) {st0 st:St} {cs:List TV} {K:Int->St->Prop} (h:VlR st0 v cs) (hke:Bp st0 st) (hk:∀st',At st st'->K (HO v:Nat) st'):CallT PR DS [.agg cs] [.one (.int .i64)] st K:=by
 cases v with
 | mk s l f=>
 have h0:=h
 obtain⟨ub,ul,uf,xl,xf,rfl,_⟩:=h.cells
 exact IB _ _ _ _ _ _ _ _ _ _ _ _ _ st K (deep_ok 2000000 _ hN (by omega) h0 hke (by omega) (by omega) hk)
end
def zs (n:Nat):B8:=List.replicate n 48
theorem KK {T b sz bytes:Nat} {st0 st:St} {v:TV} {n k:Nat} {xs ys:List TV} {K:TV->St->Prop} (e:At st0 st) (hb:b=st0.nt) (h:Own b sz st v n xs) (hby:(n+k)*bytes<=140737488355328) (hys:k=0->ys=[])
  (hK:∀v' st',At st0 st'->Bp st st'->Own b sz st' v' (n+k) (xs++ys)->K v' st'):Cf T sz bytes v k ys st K:=by
 subst hb
 have kk:∀st':St,st'.nb=st.nb->st'.box=st.box->Bp st st':=fun st' a b=>⟨Nat.le_of_eq a.symm,fun i _=>by rw[b]⟩
 rcases h with⟨rfl,rfl,rfl⟩ | ⟨tip,rfl,ht⟩
 ·simp only[Cf]
  cases k with
  | zero=>rw[hys rfl]at hK;exact hK _ _ e (kk _ rfl rfl) (.nil _ _ _)
  | succ m=>
   simp only[Af]
   refine⟨by simpa using hby,hK _ _ (e.fresh _) (kk _ rfl rfl) ?_⟩
   simp only[List.nil_append,Nat.zero_add]
   exact Own.fresh _ _ e.nt
 ·simp only[Cf,Nat.beq_refl]
  refine⟨hby,?_⟩
  rcases ht with rfl | ⟨id,rfl,h1,h2,h3⟩
  ·cases k with
   | zero=>rw[hys rfl]at hK;simp only[List.append_nil]at hK;exact hK _ _ e (kk _ rfl rfl) (Own.full _ _ _ _ _)
   | succ m=>exact hK _ _ (e.fresh _) (kk _ rfl rfl) (Own.fresh _ _ e.nt)
  ·exact⟨h3,hK _ _ ((e.retire h1).fresh _) (kk _ rfl rfl) (Own.fresh (st:=st.retire id) _ _ e.nt)⟩
theorem FsR.snoc {st:St} {d:Fd} {cd:List TV} {l:List Fd} {xs:List TV} (h:FsR st l xs) (hd:FdR st d cd):FsR st (l++[d]) (xs++cd):=by
 obtain⟨cks,rfl,hall⟩:=h.chunks
 have:=FsR.of_chunks (hall.snoc hd)
 simpa using this
theorem DQ (st:St):Bp St.zero st:=⟨Nat.zero_le _,fun i hi=>absurd hi (Nat.not_lt_zero _)⟩
section
mutual
def lvV:Vl->Nat
 | .mk _ l f=>1+max (DP l) (Du f)
def DP:List Vl->Nat
 | []=>0
 | v::r=>max (lvV v) (DP r)
def lvD:Fd->Nat
 | .mk _ v=>lvV v
def Du:List Fd->Nat
 | []=>0
 | d::r=>max (lvD d) (Du r)
end
end
theorem kb {s:Sc} {k:Nat} (h:s.kind=(k:Nat)) (hk:k<=7):s.kind.toNat.toUInt8.toNat=k:=by
 rw[h,Int.toNat_natCast,Of _ (by omega)]
section
mutual
theorem Lv:∀(v:Vl) (d n:Nat),(BT d n v).2=0->lvV v<=49-d
 | .mk s l f,d,n,h=>by
  unfold BT at h
  split at h
  ·cases h
  split at h
  ·cases h
  split at h
  ·rename_i h1;exact absurd h h1
  ·obtain⟨h1,h2⟩:=A8 h
   have:=MN l (d+1) (n+1) h1
   have:=MS f (d+1) _ h2
   unfold lvV;omega
theorem MN:∀(l:List Vl) (d n:Nat),(BK d n l).2=0->DP l<=49-d
 | [],d,n,h=>by unfold DP;omega
 | v::r,d,n,h=>by
  unfold BK at h
  obtain⟨h1,h2⟩:=A8 h
  have:=Lv v d n h1
  have:=MN r d _ h2
  unfold DP;omega
theorem chkD_lv:∀(x:Fd) (d n:Nat),(Hk d n x).2=0->lvD x<=49-d
 | .mk k v,d,n,h=>by unfold Hk at h;unfold lvD;exact Lv v d n h
theorem MS:∀(f:List Fd) (d n:Nat),(Bx d n f).2=0->Du f<=49-d
 | [],d,n,h=>by unfold Du;omega
 | x::r,d,n,h=>by
  unfold Bx at h
  obtain⟨h1,h2⟩:=A8 h
  have:=chkD_lv x d n h1
  have:=MS r d _ h2
  unfold Du;omega
end
end
section
theorem GS (l m:List Vl):Br (l++m)=Br l+Br m:=by
 induction l with
 | nil=>simp[Br]
 | cons v r ih=>simp only[List.cons_append,Br,ih];omega
theorem Hf (l m:List Fd):Bt (l++m)=Bt l+Bt m:=by
 induction l with
 | nil=>simp[Bt]
 | cons v r ih=>simp only[List.cons_append,Bt,ih];omega
theorem DE (l m:List Fd):AA (l++m)=AA l+AA m:=by
 induction l with
 | nil=>simp[AA]
 | cons v r ih=>simp only[List.cons_append,AA,ih];omega
theorem J7 {l:List Vl} {k:Nat} {w:Vl} (h:l[k]? =some w):Br (l.take (k+1))=Br (l.take k)+w.sz:=by
 rw[List.take_add_one,h,GS];simp[Br]
theorem Kx {l:List Fd} {k:Nat} {w:Fd} (h:l[k]? =some w):Bt (l.take (k+1))=Bt (l.take k)+w.sz:=by
 rw[List.take_add_one,h,Hf];simp[Bt]
theorem Ji {l:List Fd} {k:Nat} {w:Fd} (h:l[k]? =some w):AA (l.take (k+1))=AA (l.take k)+w.cnt:=by
 rw[List.take_add_one,h,DE];simp[AA]
theorem vcnt (s:Sc) (l:List Vl) (f:List Fd):(Vl.mk s l f).cnt=1+Av l+AA f:=by unfold Vl.cnt;rfl
theorem fcnt (k:B8) (v:Vl):(Fd.mk k v).cnt=v.cnt:=by unfold Fd.cnt;rfl
def RmOk (v:Vl) (n r:Int):Prop:=r= -1∨(0<=r/\(v.sz:Int)+3000+r*12001<=n*12001/\(v.cnt:Int)+r<=n)
theorem OV:∀(N:Nat) (v:Vl),v.sz<=N->∀{st:St} {cs:List TV} {D n:Int} {K:Int->St->Prop},VlR St.zero v cs-> -1000<=D->D<=1000-> -1<=n->n<=1000->(∀r,RmOk v n r->K r st)->
  CallT PR AU [.agg cs,.int .i64 D,.int .i64 n,.int .i64 3000] [.one (.int .i64)] st K:=by
 intro N
 induction N with
 | zero=>intro v h;have:=v.sz_pos;omega
 | succ N ih=>
 intro v hN st cs D n K h hD1 hD2 hn1 hn2 hk
 cases v with
 | mk s l f=>
 have hsz:=szs s l f
 have hct:=vcnt s l f
 obtain⟨ub,ul,uf,xl,xf,rfl,h1,h2,h3,h4,h5⟩:=h.cells
 have no:K (-1) st:=hk _ (.inl rfl)
 refine FC _ _ _ _ _ _ _ _ _ _ _ _ _ D n 3000 st K (Ab (fun _=>no) fun g1=>Ab (fun _=>no) fun g2=>Ab (fun _=>no) fun g3=>Aa h1.isSl (Ab (fun _=>no) fun g4=>Ab (fun _=>no) fun g5=>Aa h2.isSl (Ab (fun _=>no) fun g6=>Aa h4.isSl (Ab (fun _=>no) fun g7=>?_))))
 rw[h1.lenS]at g4
 rw[h2.lenS]at g6
 rw[h4.lenS]at g7
 rw[Ap (n-1) (by omega) (by omega)]
 refine⟨fun zn zi zd zb k bo ng dg ex tk td tn tz tx u0 u1 u2 st'=>ul=u1/\uf=u2/\D=zd/\3000=zb/\st=st'/\∃k:Nat,zi=(k:Int)/\k<=l.length/\ -1<=zn/\zn<=n-1/\(0<=zn->(Br (l.take k):Int)+zn*12001<=(n-1)*12001/\(Av (l.take k):Int)+zn<=n-1),
  fun _ zi _ _ _ _ _ _ _ _ _ _ _ _ _ _ _ _=>(l.length-zi).toNat,⟨rfl,rfl,rfl,rfl,rfl,0,rfl,Nat.zero_le _,by omega,by omega,fun _=>by rw[List.take_zero];simp[Br,Av]⟩,?_⟩
 rintro zn _ _ _ _ _ _ _ _ _ _ _ _ _ _ _ _ _ ⟨rfl,rfl,rfl,rfl,rfl,k,rfl,hkl,z1,z2,z3⟩
 refine Aa h2.isSl (Ab (fun g=>Ab (fun g0=>?_) fun g0=>?q1) fun g=>?q2)
 ·rw[h2.lenS]at g
  refine Qk (DQ _) h2 h3 rfl (by omega) fun s' l' f' ub1 ul1 uf1 gw hw on=>?_
  have hwsz:=EC gw
  have e1:=J7 gw
  have e2:=EV gw
  obtain⟨z4,z5⟩:=z3 g0
  rw[Ap ((k:Int)+1) (by omega) (by omega),Ap (D-1) (by omega) (by omega)]
  refine ih _ (by omega) hw (by omega) (by omega) (by omega) (by omega) fun r hr=>⟨⟨rfl,rfl,rfl,rfl,rfl,k+1,by omega,by omega,?_,?_,?_⟩,by dsimp only;omega⟩
  ·rcases hr with hr | hr<;>omega
  ·rcases hr with hr | hr
   ·omega
   ·have:=Vl.sz_pos (.mk s' l' f');omega
  ·intro hr0
   rcases hr with hr | hr
   ·omega
   ·rw[e1,e2];omega
 case q1 | q2=>
  have zz:zn= -1∨(Br l:Int)+zn*12001<=(n-1)*12001/\(Av l:Int)+zn<=n-1:=by
   by_cases hz:0<=zn
   ·right
    have hkk:k=l.length:=by
     first
      | (exfalso;exact g0 hz)
      | (rw[h2.lenS]at g;omega)
    rw[hkk,List.take_of_length_le (Nat.le_refl _)]at z3
    exact z3 hz
   ·left;omega
  refine⟨fun yn zi zd zb k bo ng dg ex tk td tn tz tx u0 u1 u2 st'=>uf=u2/\D=zd/\3000=zb/\st=st'/\∃k:Nat,zi=(k:Int)/\k<=f.length/\ -1<=yn/\yn<=n-1/\(0<=yn->(Br l:Int)+Bt (f.take k)+yn*12001<=(n-1)*12001/\(Av l:Int)+AA (f.take k)+yn<=n-1),
   fun _ zi _ _ _ _ _ _ _ _ _ _ _ _ _ _ _ _=>(f.length-zi).toNat,⟨rfl,rfl,rfl,rfl,0,rfl,Nat.zero_le _,by omega,by omega,fun hz=>by rw[List.take_zero];simp only[Bt,AA];omega⟩,?_⟩
  rintro yn _ _ _ _ _ _ _ _ _ _ _ _ _ _ _ _ _ ⟨rfl,rfl,rfl,rfl,k2,rfl,hkl2,y1,y2,y3⟩
  have fin:(k2=f.length∨¬0<=yn)->K yn st:=by
   intro hor
   refine hk _ ?_
   by_cases hy:0<=yn
   ·rcases hor with hor | hor
    ·obtain⟨y4,y5⟩:=y3 hy
     rw[hor,List.take_of_length_le (Nat.le_refl _)]at y4 y5
     exact .inr ⟨hy,by rw[hsz];omega,by rw[hct];omega⟩
    ·exact absurd hy hor
   ·exact .inl (by omega)
  refine Aa h4.isSl (Ab (fun g8=>Ab (fun g9=>?_) fun g9=>fin (.inr g9)) fun g8=>fin (.inl (by rw[h4.lenS]at g8;omega)))
  rw[h4.lenS]at g8
  have hlt:k2<f.length:=by omega
  obtain⟨dd,hdd⟩:∃d,f[k2]? =some d:=⟨_,List.getElem?_eq_getElem hlt⟩
  obtain⟨key,w⟩:=dd
  obtain⟨s',l',f'⟩:=w
  have hky:=keyLd (st:=st) (DQ st) h4 h5 hdd
  refine⟨⟨by omega,by rw[h4.lenZ];omega⟩,Aa (h4.isPtr hlt) (Ad hky (Da (Ab (fun _=>no) fun g10=>?_)))⟩
  refine val14 (DQ _) h4 h5 rfl hlt fun key' s' l' f' ub1 ul1 uf1 gw hw on=>?_
  rw[hdd]at gw
  cases gw
  have hwsz:=EO hdd
  have e1:=Kx hdd
  have e2:=Ji hdd
  have e3:=szd key (.mk s' l' f')
  have e4:=fcnt key (.mk s' l' f')
  obtain⟨y4,y5⟩:=y3 g9
  have g10:¬3000<(key.length:Int):=g10
  rw[Ap ((k2:Int)+1) (by omega) (by omega),Ap (D-1) (by omega) (by omega)]
  refine ih _ (by omega) hw (by omega) (by omega) (by omega) (by omega) fun r hr=>⟨⟨rfl,rfl,rfl,rfl,k2+1,by omega,by omega,?_,?_,?_⟩,by dsimp only;omega⟩
  ·rcases hr with hr | hr<;>omega
  ·rcases hr with hr | hr
   ·omega
   ·have:=Vl.sz_pos (.mk s' l' f');omega
  ·intro hr0
   rcases hr with hr | hr
   ·omega
   ·rw[e1,e2];omega
theorem LN:∀(N:Nat) (v:Vl),v.sz<=N->N<=2000000->∀{st:St} {cs:List TV} {K:Int->St->Prop},VlR St.zero v cs->(∀w:Int,(v.cnt:Int)+w=v.sz->K w st)->
  CallT PR AY [.agg cs] [.one (.int .i64)] st K:=by
 intro N
 induction N with
 | zero=>intro v h;have:=v.sz_pos;omega
 | succ N ih=>
 intro v hN hN2 st cs K h hk
 cases v with
 | mk s l f=>
 have hsz:=szs s l f
 have hct:=vcnt s l f
 have hll:=FA l
 have hfl:=EN f
 have hc1:=It l
 have hc2:=Iu f
 obtain⟨ub,ul,uf,xl,xf,rfl,h1,h2,h3,h4,h5⟩:=h.cells
 refine EW _ _ _ _ _ _ _ _ _ _ _ _ _ st K (Aa h1.isSl ?_)
 refine⟨fun zn zi k bo ng dg ex tk td tn tz tx u0 u1 u2 st'=>ul=u1/\uf=u2/\st=st'/\∃k:Nat,zi=(k:Int)/\k<=l.length/\zn+(Av (l.take k):Int)=(s.bytes.length:Int)+s.text.length+s.dg.length+Br (l.take k),
  fun _ zi _ _ _ _ _ _ _ _ _ _ _ _ _ _=>(l.length-zi).toNat,⟨rfl,rfl,rfl,0,rfl,Nat.zero_le _,?_⟩,?_⟩
 ·rw[h1.lenS,Ap ((s.text.length:Int)+(s.bytes.length:Nat)) (by omega) (by omega),Ap _ (by omega) (by omega),List.take_zero]
  simp only[Av,Br];omega
 rintro zn _ _ _ _ _ _ _ _ _ _ _ _ _ _ _ ⟨rfl,rfl,rfl,k,rfl,hkl,z1⟩
 have b1:=CU l k
 have b2:Br (l.take k)<=Br l:=by
  conv=>rhs;rw[<-List.take_append_drop k l,GS]
  omega
 have b3:=It (l.take k)
 refine Aa h2.isSl (Ab (fun g=>?_) fun g=>?_)
 ·rw[h2.lenS]at g
  refine Qk (DQ _) h2 h3 rfl (by omega) fun s' l' f' ub1 ul1 uf1 gw hw on=>?_
  have hwsz:=EC gw
  have e1:=J7 gw
  have e2:=EV gw
  have e3:=GO (.mk s' l' f')
  rw[Ap ((k:Int)+1) (by omega) (by omega)]
  refine ih _ (by omega) (by omega) hw fun r hr=>⟨⟨rfl,rfl,rfl,k+1,by omega,by omega,?_⟩,by dsimp only;omega⟩
  rw[Ap _ (by omega) (by omega),e1,e2];omega
 ·have hkk:k=l.length:=by rw[h2.lenS]at g;omega
  rw[hkk,List.take_of_length_le (Nat.le_refl _)]at z1
  refine⟨fun yn zi k bo ng dg ex tk td tn tz tx u0 u1 u2 st'=>uf=u2/\st=st'/\∃k:Nat,zi=(k:Int)/\k<=f.length/\yn+(Av l:Int)+AA (f.take k)=(s.bytes.length:Int)+s.text.length+s.dg.length+Br l+Bt (f.take k),
   fun _ zi _ _ _ _ _ _ _ _ _ _ _ _ _ _=>(f.length-zi).toNat,⟨rfl,rfl,0,rfl,Nat.zero_le _,by rw[List.take_zero];simp only[AA,Bt];omega⟩,?_⟩
  rintro yn _ _ _ _ _ _ _ _ _ _ _ _ _ _ _ ⟨rfl,rfl,k2,rfl,hkl2,y1⟩
  have b4:AA (f.take k2)<=AA f:=by
   conv=>rhs;rw[<-List.take_append_drop k2 f,DE]
   omega
  have b5:Bt (f.take k2)<=Bt f:=by
   conv=>rhs;rw[<-List.take_append_drop k2 f,Hf]
   omega
  have b6:=Iu (f.take k2)
  refine Aa h4.isSl (Ab (fun g8=>?_) fun g8=>?_)
  case refine_2=>
   have hkk2:k2=f.length:=by rw[h4.lenS]at g8;omega
   rw[hkk2,List.take_of_length_le (Nat.le_refl _)]at y1
   exact hk _ (by rw[hsz,hct];omega)
  rw[h4.lenS]at g8
  have hlt:k2<f.length:=by omega
  obtain⟨dd,hdd⟩:∃d,f[k2]? =some d:=⟨_,List.getElem?_eq_getElem hlt⟩
  obtain⟨key,w⟩:=dd
  obtain⟨s',l',f'⟩:=w
  have hky:∀st,Ac st [] (.t (AE (ixT 14 uf k2) 0)) 0=some (.str key):=fun st=>keyLd (st:=st) (DQ st) h4 h5 hdd
  refine⟨⟨by omega,by rw[h4.lenZ];omega⟩,Aa (h4.isPtr hlt) (Ad (hky _) (Da ?_))⟩
  refine val14 (DQ _) h4 h5 rfl hlt fun key' s' l' f' ub1 ul1 uf1 gw hw on=>?_
  rw[hdd]at gw
  cases gw
  have hwsz:=EO hdd
  have e1:=Kx hdd
  have e2:=Ji hdd
  have e3:=szd key (.mk s' l' f')
  have e4:=fcnt key (.mk s' l' f')
  have e5:=GO (.mk s' l' f')
  rw[Ap ((k2:Int)+1) (by omega) (by omega)]
  refine ih _ (by omega) (by omega) hw fun r hr=>⟨hky _,⟨rfl,rfl,k2+1,by omega,by omega,?_⟩,by dsimp only;omega⟩
  rw[Ap (yn+_) (by omega) (by omega),Ap _ (by omega) (by omega),e1,e2];omega
theorem Nh {v:Vl} {cs:List TV} {st:St} {K:Bool->St->Prop} (h:VlR St.zero v cs) (hk:∀b:Bool,(b=true->v.sz<=20150/\v.cnt<=150)->K b st):
  CallT PR BO [.agg cs] [.one .bool] st K:=by
 have h0:=h
 obtain⟨s,l,f⟩:=v
 obtain⟨ub,ul,uf,xl,xf,rfl,_⟩:=h.cells
 refine Fu _ _ _ _ _ _ _ _ _ _ _ _ _ st K (OV _ _ (Nat.le_refl _) h0 (by decide) (by decide) (by decide) (by decide) fun r hr=>Ab (fun g=>?_) fun g=>hk false (fun h=>by cases h))
 rcases hr with hr | ⟨hr0,hr1,hr2⟩
 ·omega
 refine LN 2000000 _ (by omega) (Nat.le_refl _) h0 fun w hw=>hk _ fun hb=>?_
 rw[decide_eq_true_eq]at hb
 omega
mutual
theorem Lu:∀(v:Vl) (d n:Nat),AK v->d+lvV v<=49->n+v.cnt<=65536->BT d n v=(n+v.cnt,0)
 | .mk s l f,d,n,h,h1,h2=>by
  unfold AK at h
  obtain⟨g1,g2,g3⟩:=h
  unfold lvV at h1
  unfold Vl.cnt at h2⊢
  have e1:=MM l (d+1) (n+1) g2 (by omega) (by omega)
  have e2:=MR f (d+1) (n+1+Av l) g3 (by omega) (by omega)
  rw[OB (by omega) (by omega) (Kh.2 g1),e1,BD rfl]
  show Bx (d+1) (n+1+Av l) f=_
  rw[e2]
  congr 1;omega
theorem MM:∀(l:List Vl) (d n:Nat),By l->(l≠ []->d+DP l<=49)->n+Av l<=65536->BK d n l=(n+Av l,0)
 | [],d,n,_,_,_=>by unfold BK Av;rfl
 | v::r,d,n,h,h1,h2=>by
  unfold By at h
  have h1:=h1 (by simp)
  unfold DP at h1
  unfold Av at h2⊢
  have e1:=Lu v d n h.1 (by omega) (by omega)
  have e2:=MM r d (n+v.cnt) h.2 (fun _=>by omega) (by omega)
  rw[Jz,e1,BD rfl]
  show BK d (n+v.cnt) r=_
  rw[e2]
  congr 1;omega
theorem chkD_of:∀(x:Fd) (d n:Nat),Fo x->d+lvD x<=49->n+x.cnt<=65536->Hk d n x=(n+x.cnt,0)
 | .mk k v,d,n,h,h1,h2=>by
  unfold Fo at h
  unfold lvD at h1
  unfold Fd.cnt at h2⊢
  unfold Hk
  exact Lu v d n h h1 h2
theorem MR:∀(l:List Fd) (d n:Nat),Bz l->(l≠ []->d+Du l<=49)->n+AA l<=65536->Bx d n l=(n+AA l,0)
 | [],d,n,_,_,_=>by unfold Bx AA;rfl
 | x::r,d,n,h,h1,h2=>by
  unfold Bz at h
  have h1:=h1 (by simp)
  unfold Du at h1
  unfold AA at h2⊢
  have e1:=chkD_of x d n h.1 (by omega) (by omega)
  have e2:=MR r d (n+x.cnt) h.2 (fun _=>by omega) (by omega)
  unfold Bx
  rw[e1,BD rfl]
  show Bx d (n+x.cnt) r=_
  rw[e2]
  congr 1;omega
end
theorem Qw {v:Vl} (h:AK v) (hl:lvV v<=48) (hc:v.cnt<=65536):AO v=0:=by
 unfold AO
 rw[Lu v 1 0 h (by omega) (by omega)]
theorem Mt:∀(f:List Fd) (seen:List B8),JI f->(∀d,d∈f->d.key∉seen/\U8 d.key/\d.key.length<=1024)->Ck seen f=0
 | [],seen,_,_=>rfl
 | d::r,seen,hn,h=>by
  obtain⟨h1,h2,h3⟩:=h d (.head _)
  unfold Ck
  unfold JI at hn
  rw[List.map_cons,List.nodup_cons]at hn
  rw[if_pos h2,if_neg (by omega),if_neg h1]
  refine Mt r _ hn.2 fun x hx=>?_
  obtain⟨g1,g2,g3⟩:=h x (.tail _ hx)
  refine⟨fun hm=>?_,g2,g3⟩
  rcases List.mem_cons.1 hm with he | hm
  ·exact hn.1 (he▸List.mem_map.2 ⟨x,hx,rfl⟩)
  ·exact g1 hm
end
section
open Go.RowKit (Below)
def St.upto (st' st:St):St:={st' with nb:=st.nb,box:=st.box}
def Ghost.upto (g:Ghost) (w:World) (n:Nat):Ghost:=
 {g with nb:=n,S:=fun a=>g.S a∨∃b,n<=b/\b<g.nb/\a.block=g.bk b/\a.spot=none/\∃v,w.cell? a=some v}
theorem Pq {st st':St} (e:At st st'):At st (st'.upto st):=⟨Nat.le_refl _,fun _ _=>rfl,e.nt,e.live,e.ty,e.bt⟩
theorem Rel.lower {g g1:Ghost} {w w1:World} {x:TV} {u0:Value} (h:Rel g w x u0):∀{u:Value},Rel g1 w1 x u->Rel (g1.upto w1 g.nb) w1 x u:=by
 induction h with
 | undef=>intro u h;cases h;exact .undef
 | junk v=>intro u h;exact .junk u
 | int k n=>intro u h;cases h;exact .int k n
 | bool b=>intro u h;cases h;exact .bool b
 | str l=>intro u h;cases h;exact .str l
 | nilPtr=>intro u h;cases h;exact .nilPtr
 | nilSlice=>intro u h;cases h;exact .nilSlice
 | nilMap=>intro u h;cases h;exact .nilMap
 | nilFunc=>intro u h;cases h;exact .nilFunc
 | nilIface=>intro u h;cases h;exact .nilIface
 | list sz tip n xs b o cap us hl hn hc hr ht ih=>
  intro u h
  cases h with
  | list _ _ _ _ b1 o1 cap1 us1 hl1 hn1 hc1 hr1 ht1=>
   exact .list sz tip n xs b1 o1 cap1 us1 hl1 hn1 (fun i hi=>⟨.inl (hc1 i hi).1,(hc1 i hi).2⟩) (fun i hi=>ih i hi (hr1 i hi)) ht1
  | listE _ _ a ht1=>exact .listE sz tip a ht1
 | listE sz tip a ht=>
  intro u h
  cases h with
  | list _ _ _ _ b1 o1 cap1 us1 hl1 hn1 hc1 hr1 ht1=>
   exact .list sz tip 0 [] b1 o1 cap1 us1 hl1 hn1 (fun i hi=>absurd hi (Nat.not_lt_zero _)) (fun i hi=>absurd hi (Nat.not_lt_zero _)) ht1
  | listE _ _ a ht1=>exact .listE sz tip a ht1
 | ms sz b off n cap h hn=>
  intro u h1
  cases h1
  exact .ms (g:=g1.upto w1 g.nb) sz b off n cap h hn
 | box b off h=>
  intro u h1
  cases h1
  exact .box (g:=g1.upto w1 g.nb) b off h
 | rptr xs b o us hc hr ih=>
  intro u h
  cases h with
  | rptr _ b1 o1 us1 hc1 hr1=>exact .rptr xs b1 o1 us1 (fun i hi=>⟨.inl (hc1 i hi).1,(hc1 i hi).2⟩) fun i hi=>ih i hi (hr1 i hi)
 | agg xs vs hl hr ih=>
  intro u h
  cases h with
  | agg _ vs1 hl1 hr1=>exact .agg xs vs1 hl1 fun i hi=>ih i hi (hr1 i hi)
 | tuple xs vs hl hr ih=>
  intro u h
  cases h with
  | tuple _ vs1 hl1 hr1=>exact .tuple xs vs1 hl1 fun i hi=>ih i hi (hr1 i hi)
 | func f xs vs hl hr ih=>
  intro u h
  cases h with
  | func _ _ vs1 hl1 hr1=>exact .func f xs vs1 hl1 fun i hi=>ih i hi (hr1 i hi)
 | iface t v u0 h ih=>
  intro u h1
  cases h1 with
  | iface _ _ u1 h2=>exact .iface t v u1 (ih h2)
 | map b h=>
  intro u h1
  cases h1
  exact .map (g:=g1.upto w1 g.nb) b h
 | sptr v a n cap hc h ih=>
  intro u h1
  cases h1 with
  | sptr _ a1 n1 cap1 hc1 h2=>exact .sptr v a1 n1 cap1 hc1 (ih h2)
theorem Aw.lower {g g1:Ghost} {w w1:World} {xs:List TV} {us0 us:List Value} (h0:Aw g w xs us0) (h:Aw g1 w1 xs us):Aw (g1.upto w1 g.nb) w1 xs us:=
 ⟨h.1,fun i hi=>(h0.2 i hi).lower (h.2 i hi)⟩
theorem EA.lower {g g1:Ghost} {w w1:World} {b b1:Nat} {o:Hn} (h0:EA g w b o) (h:EA g1 w1 b1 o):EA (g1.upto w1 g.nb) w1 b1 o:=by
 cases o with
 | dead=>trivial
 | cells l=>
  obtain⟨cs0,_,hr0⟩:=h0
  obtain⟨cs,hc,hr⟩:=h
  exact⟨cs,hc,hr0.lower hr⟩
 | iter s pos=>exact h
 | map es=>
  obtain⟨ms0,c0,_,_,hm0⟩:=h0
  obtain⟨ms,c,hc,hl,hm⟩:=h
  refine⟨ms,c,hc,hl,fun i k v hi=>?_⟩
  obtain⟨e0,_,_,h3⟩:=hm0 i k v hi
  obtain⟨e,g1,g2,g3⟩:=hm i k v hi
  exact⟨e,g1,g2,h3.lower g3⟩
 | pmap es=>
  obtain⟨ms0,c0,_,_,hm0⟩:=h0
  obtain⟨ms,c,hc,hl,hm⟩:=h
  refine⟨ms,c,hc,hl,fun i k v hi=>?_⟩
  obtain⟨hk0,e0,_,_,h3⟩:=hm0 i k v hi
  obtain⟨hk,e,g1,g2,g3⟩:=hm i k v hi
  exact⟨hk0,e,g1,g2,h3.lower g3⟩
theorem Sim.upto {g g':Ghost} {st st':St} {w w':World} (s:Sim g st [] w) (s':Sim g' st' [] w') (e:Ext g w g' w') (x:At st st'):Sim (g'.upto w' st.nb) (st'.upto st) [] w'/\Ext g w (g'.upto w' st.nb) w':=by
 have hnb:st.nb<=g'.nb:=by rw[s'.nb];exact x.nb
 have dom:∀k,Dom (st'.upto st) [] k->Dom st' [] k:=fun k hk=>by
  cases k with
  | box b=>exact Nat.lt_of_lt_of_le (show b<st.nb from hk) x.nb
  | loc i=>exact hk
 have domO:∀k,Dom (st'.upto st) [] k->Dom st [] k:=fun k hk=>by
  cases k with
  | box b=>exact hk
  | loc i=>exact hk
 refine⟨⟨rfl,s'.nt,s'.below,s'.fits,fun k hk=>?_,fun k k' h h' he=>s'.inj k k' (dom k h) (dom k' h') (by cases k<;>cases k'<;>exact he),fun k hk=>?_,s'.own,fun id b l h hid=>?_,s'.spApart,s'.spLt,fun a ha=>?_,fun b hb=>?_,s'.spTop,s'.spTy,fun b T hb ht=>?_,s'.glob⟩,?_⟩
 ·have h0:=s.obj k (domO k hk)
  have h1:=s'.obj k (dom k hk)
  cases k with
  | box b=>
   have hb:b<st.nb:=hk
   have h1':EA g' w' (g'.bk b) (st.box b):=by rw[<-x.box b hb];exact h1
   have h2:=EA.lower (g:=g) (w:=w) (b:=g.at (.box b)) h0 h1'
   rw[s.nb]at h2
   exact h2
  | loc i=>obtain⟨l,hl⟩:=hk;simp at hl
 ·have:=s'.lo k (dom k hk)
  cases k<;>exact this
 ·obtain⟨h1,h2,h3,h4,h5⟩:=s'.spCell id b l h hid
  exact⟨h1,h2,h3,fun k hk=>by have:=h4 k (dom k hk);cases k<;>exact this,h5⟩
 ·rcases ha with ha | ⟨b,h1,h2,h3,h4,h5⟩
  ·obtain⟨q1,q2,q3,q4⟩:=s'.sCell a ha
   exact⟨q1,q2,fun k hk=>by have:=q3 k (dom k hk);cases k<;>exact this,q4⟩
  ·have hd:Dom st' [] (.box b):=by show b<st'.nb;rw[<-s'.nb];exact h2
   refine⟨h4,h5,fun k hk hc=>?_,fun id l h hid _=>?_⟩
   ·cases k with
    | box b'=>
     have hb':b'<st.nb:=hk
     have:=s'.inj (.box b') (.box b) (dom _ hk) hd (by rw[h3]at hc;exact hc)
     cases this
     omega
    | loc i=>obtain⟨l,hl⟩:=hk;simp at hl
   ·have:=(s'.spCell id a.block l h hid).2.2.2.1 (.box b) hd
    exact this h3.symm
 ·obtain⟨h1,h2,h3,h4⟩:=s'.protOk b hb
  refine⟨h1,fun k hk=>by have:=h2 k (dom k hk);cases k<;>exact this,h3,fun a ha=>?_⟩
  rcases ha with ha | ⟨c,q1,q2,q3,q4,q5⟩
  ·exact h4 a ha
  ·rw[q3]
   exact h2 (.box c) (by show c<st'.nb;rw[<-s'.nb];exact q2)
 ·have hb':b<st.nb:=hb
  exact s'.bTy b T (Nat.lt_of_lt_of_le hb' x.nb) ht
 ·exact⟨e.base,e.w0,e.size,by show g.nb<=st.nb;rw[s.nb];exact Nat.le_refl _,e.bk,e.nt,e.sp,fun a ha=>⟨.inl (e.S a ha).1,(e.S a ha).2⟩,e.prot,e.protEq⟩
def Ez (st st':St) (r r':TV):Prop:=∀(g':Ghost) (w':World) (u:Value),Sim g' st' [] w'->Rel g' w' r u->Rel (g'.upto w' st.nb) w' r' u
theorem Ch.settle {P:Program} {f:FuncId} {args:List TV} {st:St} {R:TV->St->Prop} (h:Ch P f args st fun r st'=>At st st'/\∃r',Ez st st' r r'/\R r' (st'.upto st)):Ch P f args st R:=by
 refine⟨fun g w vargs s hr=>(h.run g w vargs s hr).mono ?_⟩
 rintro v w' ⟨r,st',g',⟨x,r',hs,hR⟩,s',hrel,e⟩
 obtain⟨s2,e2⟩:=Sim.upto s s' e x
 exact⟨r',st'.upto st,g'.upto w' st.nb,hR,s2,hs g' w' v s' hrel,e2⟩
theorem CallT.settle {P:Program} {f:FuncId} {args:List TV} {sh:List RTy} {st:St} {K:FunR sh (St->Prop)} (h:CallT P f args sh st (DX sh fun r st'=>At st st'/\∃r',Ez st st' r r'/\Dj sh r' K fun p=>p (st'.upto st))):CallT P f args sh st K:=
 Ch.settle (Ch.mono h fun r st' hd=>Hj (F:=fun r st'=>At st st'/\∃r',Ez st st' r r'/\Dj sh r' K fun p=>p (st'.upto st)) (k:=fun p=>p st') hd)
def DD (st st':St) (xs xs':List TV):Prop:=xs'.length=xs.length/\∀(g':Ghost) (w':World),Sim g' st' [] w'->∀us,Aw g' w' xs us->Aw (g'.upto w' st.nb) w' xs' us
theorem Aw.split {g:Ghost} {w:World} {a b:List TV} {us:List Value} (h:Aw g w (a++b) us):Aw g w a (us.take a.length)/\Aw g w b (us.drop a.length):=by
 have h1:=h.take a.length
 have h2:=h.drop a.length
 rw[List.take_left]at h1
 rw[List.drop_left]at h2
 exact⟨h1,h2⟩
theorem DD.nil (st st':St):DD st st' [] []:=⟨rfl,fun g' w' _ us h=>⟨h.1,fun i hi=>absurd hi (Nat.not_lt_zero _)⟩⟩
theorem DD.app {st st':St} {a b a' b':List TV} (h:DD st st' a a') (k:DD st st' b b'):DD st st' (a++b) (a'++b'):=by
 refine⟨by rw[List.length_append,List.length_append,h.1,k.1],fun g' w' s us hr=>?_⟩
 obtain⟨h1,h2⟩:=hr.split
 have:=(h.2 g' w' s _ h1).append (k.2 g' w' s _ h2)
 rw[List.take_append_drop]at this
 exact this
theorem DD.one {st st':St} {x x':TV} (h:Ez st st' x x'):DD st st' [x] [x']:=by
 refine⟨rfl,fun g' w' s us hr=>?_⟩
 refine⟨hr.1,fun i hi=>?_⟩
 match i,hi with
 | 0,_=>exact h g' w' _ s (hr.2 0 (by simp))
theorem CM (st st':St) (k:IntKind) (n:Int):Ez st st' (.int k n) (.int k n):=fun g' w' u _ h=>by cases h;exact .int k n
theorem HU (st st':St) (b:Bool):Ez st st' (.bool b) (.bool b):=fun g' w' u _ h=>by cases h;exact .bool b
theorem GC (st st':St) (l:B8):Ez st st' (.str l) (.str l):=fun g' w' u _ h=>by cases h;exact .str l
theorem DD.bytes (st st':St) (l:B8):DD st st' (AZ l) (AZ l):=by
 refine⟨rfl,fun g' w' s us hr=>⟨hr.1,fun i hi=>?_⟩⟩
 have h:=hr.2 i hi
 have e:∀x,x∈AZ l->∃b:UInt8,x=OD b:=fun x hx=>by
  unfold AZ at hx
  obtain⟨b,_,rfl⟩:=List.mem_map.1 hx
  exact⟨b,rfl⟩
 obtain⟨b,hb⟩:=e _ (List.getElem_mem hi)
 rw[hb]at h⊢
 unfold OD at h⊢
 rw[h.int_inv]
 exact .int _ _
theorem B4.settle {st st':St} {sz n:Nat} {u:TV} {xs xs':List TV} {bs:List Nat} (h:B4 st' sz u n xs bs) (hb:∀x,x∈bs->st.nb<=x) (hx:DD st st' xs xs'):∃u',Rd sz u' n xs'/\Ez st st' u u':=by
 rcases h with⟨rfl,rfl,rfl,rfl | rfl⟩ | ⟨b,cap,tail,rfl,h1,h2,h3,h4,h5,rfl⟩
 ·have:xs'=[]:=List.eq_nil_of_length_eq_zero hx.1
  subst this
  exact⟨.nilSlice,.inl ⟨rfl,rfl,rfl⟩,fun g' w' u _ h=>by cases h;exact .nilSlice⟩
 ·have:xs'=[]:=List.eq_nil_of_length_eq_zero hx.1
  subst this
  refine⟨.list sz .full 0 [],.inr ⟨_,rfl⟩,fun g' w' u _ h=>?_⟩
  cases h with
  | list _ _ _ _ b1 o1 cap1 us1 hl1 hn1 hc1 hr1 ht1=>exact .list sz .full 0 [] b1 o1 cap1 us1 hl1 hn1 (fun i hi=>absurd hi (Nat.not_lt_zero _)) (fun i hi=>absurd hi (Nat.not_lt_zero _)) ht1
  | listE _ _ a ht1=>exact .listE sz .full a ht1
 ·refine⟨.list sz .non n xs',.inr ⟨_,rfl⟩,fun g' w' u s h=>?_⟩
  cases h with
  | ms _ _ _ _ _ hlt hn=>
  have hlt':Dom st' [] (.box b):=h1
  have ho:=s.obj (.box b) hlt'
  have ho':EA g' w' (g'.bk b) (.cells (xs++tail)):=by rw[<-h2];exact ho
  obtain⟨cs,hc,hr⟩:=ho'
  have hq:=(hx.2 g' w' s _ hr.split.1)
  have hlen:xs.length<=cs.length:=by have:=hr.1;rw[List.length_append]at this;omega
  refine .list sz .non n xs' (g'.bk b) 0 cap (fun i=>cs.getD i Go.undef) (by rw[hx.1,h4]) hn (fun i hi=>?_) (fun i hi=>?_) trivial
  ·have hi':i<cs.length:=by rw[hx.1]at hi;omega
   have hv:cs[i]? =some (cs.getD i Go.undef):=by rw[List.getD_eq_getElem?_getD,List.getElem?_eq_getElem hi'];rfl
   have hg:=hc.get hv
   rw[Nat.zero_add]
   exact⟨.inr ⟨b,hb b (.head _),hlt,rfl,rfl,_,hg⟩,hg⟩
  ·have:=hq.2 i hi
   have e:(cs.take xs.length).getD i Go.undef=cs.getD i Go.undef:=by
    have hi':i<xs.length:=by rw[hx.1]at hi;exact hi
    rw[List.getD_eq_getElem?_getD,List.getD_eq_getElem?_getD,List.getElem?_take,if_pos hi']
   rw[e]at this
   exact this
mutual
theorem VlO.settle {st st':St}:∀{v:Vl} {cs:List TV} {fp:List Nat},VlO st' v cs fp->(∀x,x∈fp->st.nb<=x)->∃cs',VlR St.zero v cs'/\DD st st' cs cs'
 | .mk s l f,cs,fp,h,hb=>by
  unfold VlO at h
  obtain⟨ub,ul,uf,xl,xf,bb,bl,bf,fl,ff,rfl,h1,h2,h3,h4,h5,rfl⟩:=h
  have m1:∀{x},x∈bb->st.nb<=x:=fun hx=>hb _ (List.mem_append_left _ hx)
  have m2:∀{x},x∈bl->st.nb<=x:=fun hx=>hb _ (List.mem_append_right _ (List.mem_append_left _ hx))
  have m3:∀{x},x∈fl->st.nb<=x:=fun hx=>hb _ (List.mem_append_right _ (List.mem_append_right _ (List.mem_append_left _ hx)))
  have m4:∀{x},x∈bf->st.nb<=x:=fun hx=>hb _ (List.mem_append_right _ (List.mem_append_right _ (List.mem_append_right _ (List.mem_append_left _ hx))))
  have m5:∀{x},x∈ff->st.nb<=x:=fun hx=>hb _ (List.mem_append_right _ (List.mem_append_right _ (List.mem_append_right _ (List.mem_append_right _ hx))))
  obtain⟨xl',q1,q2⟩:=VsO.settle h3 fun x hx=>m3 hx
  obtain⟨xf',q3,q4⟩:=FsO.settle h5 fun x hx=>m5 hx
  obtain⟨ub',r1,r2⟩:=h1.settle (fun x hx=>m1 hx) (DD.bytes st st' _)
  obtain⟨ul',r3,r4⟩:=h2.settle (fun x hx=>m2 hx) q2
  obtain⟨uf',r5,r6⟩:=h4.settle (fun x hx=>m4 hx) q4
  refine⟨AC s ub' ul' uf',?_,?_⟩
  ·unfold VlR
   exact⟨ub',ul',uf',xl',xf',rfl,.of_rd r1,.of_rd r3,q1,.of_rd r5,q3⟩
  ·have c:∀{x x':TV} {l l':List TV},Ez st st' x x'->DD st st' l l'->DD st st' (x::l) (x'::l'):=fun h k=>(DD.one h).app k
   exact c (CM _ _ _ _) (c (HU _ _ _) (c (HU _ _ _) (c (GC _ _ _) (c (CM _ _ _ _) (c (CM _ _ _ _) (c (CM _ _ _ _) (c (CM _ _ _ _) (c (CM _ _ _ _) (c (GC _ _ _) (c r2 (c r4 (c r6 (DD.nil _ _)))))))))))))
theorem VsO.settle {st st':St}:∀{l:List Vl} {cs:List TV} {fp:List Nat},VsO st' l cs fp->(∀x,x∈fp->st.nb<=x)->∃cs',VsR St.zero l cs'/\DD st st' cs cs'
 | [],cs,fp,h,hb=>by
  unfold VsO at h
  obtain⟨rfl,rfl⟩:=h
  exact⟨[],by unfold VsR;rfl,DD.nil _ _⟩
 | v::r,cs,fp,h,hb=>by
  unfold VsO at h
  obtain⟨a,b,p,q,rfl,rfl,h1,h2⟩:=h
  obtain⟨a',q1,q2⟩:=VlO.settle h1 fun x hx=>hb x (List.mem_append_left _ hx)
  obtain⟨b',q3,q4⟩:=VsO.settle h2 fun x hx=>hb x (List.mem_append_right _ hx)
  exact⟨a'++b',by unfold VsR;exact⟨a',b',rfl,q1,q3⟩,q2.app q4⟩
theorem FdO.settle {st st':St}:∀{d:Fd} {cs:List TV} {fp:List Nat},FdO st' d cs fp->(∀x,x∈fp->st.nb<=x)->∃cs',FdR St.zero d cs'/\DD st st' cs cs'
 | .mk key v,cs,fp,h,hb=>by
  unfold FdO at h
  obtain⟨c,rfl,h1⟩:=h
  obtain⟨a',q1,q2⟩:=VlO.settle h1 hb
  exact⟨.str key::a',by unfold FdR;exact⟨a',rfl,q1⟩,(DD.one (GC _ _ _)).app q2⟩
theorem FsO.settle {st st':St}:∀{l:List Fd} {cs:List TV} {fp:List Nat},FsO st' l cs fp->(∀x,x∈fp->st.nb<=x)->∃cs',FsR St.zero l cs'/\DD st st' cs cs'
 | [],cs,fp,h,hb=>by
  unfold FsO at h
  obtain⟨rfl,rfl⟩:=h
  exact⟨[],by unfold FsR;rfl,DD.nil _ _⟩
 | d::r,cs,fp,h,hb=>by
  unfold FsO at h
  obtain⟨a,b,p,q,rfl,rfl,h1,h2⟩:=h
  obtain⟨a',q1,q2⟩:=FdO.settle h1 fun x hx=>hb x (List.mem_append_left _ hx)
  obtain⟨b',q3,q4⟩:=FsO.settle h2 fun x hx=>hb x (List.mem_append_right _ hx)
  exact⟨a'++b',by unfold FsR;exact⟨a',b',rfl,q1,q3⟩,q2.app q4⟩
end
theorem Nj {st st':St} {cs cs':List TV} (h:DD st st' cs cs'):Ez st st' (.agg cs) (.agg cs'):=fun g' w' u s hr=>by
 cases hr with
 | agg _ vs hl hr=>
  have:=h.2 g' w' s vs ⟨hl,hr⟩
  exact .agg cs' vs this.1 this.2
theorem Lr {v:Vl} (hN:v.sz<=2000000) (hC:v.cnt<=65536) {st:St} {cs:List TV} {K:Int->Bool->Bool->B8->Int->Int->Int->Int->Int->B8->TV->TV->TV->St->Prop} (h:VlR st v cs)
  (hk:∀ub ul uf st',VlR St.zero v (AC v.sc ub ul uf)->Aq ub=true->Aq ul=true->Aq uf=true->At st st'->st'.nb=st.nb->K v.sc.kind v.sc.b v.sc.neg v.sc.dg v.sc.ex v.sc.tk v.sc.td v.sc.tn v.sc.tz v.sc.text ub ul uf st'):
  CallT PR CZ [.agg cs] [.agg [.int .i64,.bool,.bool,.str,.int .i64,.int .i64,.int .i64,.int .i64,.int .i64,.str,.tv,.tv,.tv]] st K:=by
 refine CallT.settle (copy_ok hN hC h fun ub ul uf st' fp g o1 o2 o3 nd lo e=>?_)
 obtain⟨cs',q1,q2⟩:=g.settle lo
 refine⟨e,.agg cs',Nj q2,?_⟩
 obtain⟨s,l,f⟩:=v
 have q0:=q1
 obtain⟨ub',ul',uf',xl,xf,rfl,w1,w2,_,w4,_⟩:=VlR.cells q0
 exact hk ub' ul' uf' (st'.upto st) q1 w1.one w2.one w4.one (Pq e) rfl
end
end Go.TVF
section
namespace Go.TVF
open Go.IntKind(i64 u8)
open Go Go.Proofs Go.ChangeShapes
section
variable {H:Type} {enc:TypeId×Value->H} {P:Program} {w:World} {base:Nat} {held:Bool}
def Op (enc:TypeId×Value->H) (P:Program) (w:World) (base:Nat) (held:Bool) (n c:Nat) (S:List TV->Prop) (e:TypeId):Prop:=
 P.cellsOf e=c/\∀vs x,DataW.trod enc P w base (fun _=>true) held n e vs=some x->∃tv,Aw (Ghost.start w) w tv vs/\tv.length=c/\S tv
end
end Go.TVF
end
section
namespace Go.TVF
open Go.IntKind(i64 u8)
open Go Go.Proofs Go.ChangeShapes
structure Blk {H:Type} (bk:DataW H->Nat):Prop where
 one:∀d,1<=bk d
 str:∀b,b.length+1<=bk (.lit (.string b))
 sl:∀e s,(e.map bk).sum+1<=bk (.slice e s)
 agg:∀p,(p.map bk).sum+1<=bk (.agg p)
section
variable {H:Type} {enc:TypeId×Value->H} {P:Program} {w:World} {base:Nat} {held:Bool} {bk:DataW H->Nat}
def OpQ (bk:DataW H->Nat) (enc:TypeId×Value->H) (P:Program) (w:World) (base:Nat) (held:Bool) (n c:Nat) (S:Nat->List TV->Prop) (e:TypeId):Prop:=
 P.cellsOf e=c/\∀vs x,DataW.trod enc P w base (fun _=>true) held n e vs=some x->∃tv,Aw (Ghost.start w) w tv vs/\tv.length=c/\S (bk x.1) tv
def cellQ (c:CTy) (k:Nat) (tv:List TV):Prop:=Jj [c] tv/\1<=k
def strQ (k:Nat) (tv:List TV):Prop:=∃l:B8,tv=[.str l]/\l.length<=maxLen/\l.length+1<=k
theorem opq_cell {n:Nat} {c:CTy} {e:TypeId} (hb:Blk bk) (h:QL P c e) (hc:P.cellsOf e=1):OpQ bk enc P w base held n 1 (cellQ c) e:=⟨hc,fun vs x hd=>by
 obtain⟨v,u,rfl,hr,hf⟩:=OZ (Ghost.start w) h hd
 exact⟨[v],.cons hr (.nil _ _),rfl,hf,hb.one _⟩⟩
theorem opq_str {n:Nat} {e:TypeId} (hb:Blk bk) (h:P.underlying e=some .string) (hc:P.cellsOf e=1):OpQ bk enc P w base held n 1 strQ e:=⟨hc,fun vs x hd=>by
 obtain⟨s,rfl,rfl,hs⟩:=DataW.trod_string h hd
 exact⟨[_],.cons (IT (Ghost.start w) w s) (.nil _ _),rfl,_,rfl,by rw[Array.length_toList];exact hs,hb.str _⟩⟩
def SlQ (c:Nat) (S:Nat->List TV->Prop) (k:Nat) (v:TV):Prop:=
 v= .nilSlice∨∃ps:List (List TV×Nat),v= .list c .non ps.length (ps.map (·.1)).flatten/\(∀p,p∈ps->p.1.length=c/\S p.2 p.1)/\(ps.map (·.2)).sum+1<=k
theorem opq_slice {n c:Nat} {S:Nat->List TV->Prop} {t e:TypeId} (hb:Blk bk) (ht:P.underlying t=some (.slice e)) (ht1:P.cellsOf t=1) (hc1:1<=c) (hE:∀m,m<n->OpQ bk enc P w base held m c S e):
  OpQ bk enc P w base held n 1 (fun k tv=>∃v,tv=[v]/\SlQ c S k v) t:=by
 refine⟨ht1,fun vs x h=>?_⟩
 rcases DataW.trod_slice ht h with⟨rfl,_⟩ | ⟨a,len,cap,elems,rest,m,rfl,rfl,rfl,hbk,hl,hm,hel,hi,hsp,_⟩
 ·exact⟨[.nilSlice],.cons .nilSlice (.nil _ _),rfl,_,rfl,.inl rfl⟩
 ·obtain⟨hcE,hE⟩:=hE m (by omega)
  rw[hcE]at hi hsp
  have hbs:=hb.sl (elems.map (·.1)) (rest.map (·.1))
  rw[List.map_map]at hbs
  by_cases hcap:cap=0
  ·subst hcap
   obtain rfl:len=0:=by omega
   exact⟨[.list c .non 0 []],.cons (.listE _ _ _ (fun id h=>by cases h)) (.nil _ _),rfl,_,rfl,.inr ⟨[],rfl,(fun ck h=>by cases h),by simp only[List.map_nil,List.sum_nil];omega⟩⟩
  ·obtain⟨b,o,spot⟩:=a
   have hspot:spot=none:=by
    have key:∀(i:Nat) (l:List (DataW H×List MemPlace)) (k:Nat),k<l.length->i=0->(w.cells? base ((⟨b,o,spot⟩:Addr).add (i*c)) c).bind (DataW.trod enc P w base (fun _=>true) held m e)=l[k]?->spot=none:=by
     intro i l k hk hi0 h
     subst hi0
     rw[List.getElem?_eq_getElem hk]at h
     obtain⟨vs,h1,_⟩:=Option.bind_eq_some_iff.1 h
     obtain⟨_,hvl,hvc⟩:=World.cells?_some h1
     have:=World.cell?_spot ((hvc 0 (by omega)).trans (List.getElem?_eq_getElem (show 0<vs.length by omega)))
     rw[Nat.zero_mul]at this
     exact this
    by_cases h0:0<len
    ·exact key 0 elems 0 (by omega) rfl (hi 0 h0)
    ·obtain⟨hr,hs⟩:=hsp rfl
     exact key _ rest 0 (by omega) (by omega) (hs 0 (by omega))
   subst hspot
   have each:∀i (hil:i<len),∃tv vs,Aw (Ghost.start w) w tv vs/\tv.length=c/\S (bk (elems[i]'(by omega)).1) tv/\vs.length=c/\∀j,j<c->w.cell? ⟨b,o+(i*c+j),none⟩=some (vs.getD j Go.undef):=by
    intro i hil
    have h:=hi i hil
    rw[List.getElem?_eq_getElem (by omega)]at h
    obtain⟨vs,h1,h2⟩:=Option.bind_eq_some_iff.1 h
    obtain⟨tv,hr,htl,hf⟩:=hE vs _ h2
    obtain⟨_,hvl,hvc⟩:=World.cells?_some h1
    refine⟨tv,vs,hr,htl,hf,hvl,fun j hj=>?_⟩
    have:=hvc j (by omega)
    rw[Deep.add_add,N5]at this
    rw[this]
    simp[List.getD,show j<vs.length by omega]
   have build:∀k,k<=len->∃ps:List (List TV×Nat),ps.length=k/\(∀p,p∈ps->p.1.length=c/\S p.2 p.1)/\ps.map (·.2)=(elems.take k).map (fun y=>bk y.1)/\(ps.map (·.1)).flatten.length=k*c/\∀i (h:i<(ps.map (·.1)).flatten.length),∃u,w.cell? ⟨b,o+i,none⟩=some u/\Rel (Ghost.start w) w (ps.map (·.1)).flatten[i] u:=by
    intro k
    induction k with
    | zero=>intro _;exact⟨[],rfl,(fun ck h=>by cases h),by simp,by simp,fun i h=>absurd h (Nat.not_lt_zero _)⟩
    | succ k ih=>
     intro hk
     obtain⟨ps,h0,h1,hm1,h2,h3⟩:=ih (by omega)
     obtain⟨tv,vs,hr,htl,hf,hvl,hvc⟩:=each k (by omega)
     have hfl:((ps++[(tv,bk (elems[k]'(by omega)).1)]).map (·.1)).flatten=(ps.map (·.1)).flatten++tv:=by simp
     refine⟨ps++[(tv,bk (elems[k]'(by omega)).1)],by simp[h0],fun p h=>?_,?_,by rw[hfl,List.length_append,h2,htl,Nat.succ_mul],fun i h=>?_⟩
     ·rcases List.mem_append.1 h with h | h
      ·exact h1 p h
      ·rw[List.mem_singleton.1 h];exact⟨htl,hf⟩
     ·rw[List.map_append,hm1,List.take_succ_eq_append_getElem (by omega),List.map_append];rfl
     ·simp only[hfl]at h⊢
      by_cases hix:i<(ps.map (·.1)).flatten.length
      ·rw[List.getElem_append_left hix];exact h3 i hix
      ·rw[List.getElem_append_right (by omega)]
       rw[List.length_append]at h
       have hj:i-(ps.map (·.1)).flatten.length<tv.length:=by omega
       refine⟨vs.getD (i-(ps.map (·.1)).flatten.length) Go.undef,?_,hr.2 _ hj⟩
       have:=hvc (i-(ps.map (·.1)).flatten.length) (by omega)
       rw[show o+i=o+(k*c+(i-(ps.map (·.1)).flatten.length)) by rw[<-h2];omega]
       exact this
   obtain⟨ps,h0,h1,hm1,h2,h3⟩:=build len (Nat.le_refl _)
   refine⟨[.list c .non ps.length (ps.map (·.1)).flatten],.cons ?_ (.nil _ _),rfl,_,rfl,.inr ⟨ps,rfl,h1,?_⟩⟩
   ·have hu:∀i,∃u,(h:i<(ps.map (·.1)).flatten.length)->w.cell? ⟨b,o+i,none⟩=some u/\Rel (Ghost.start w) w (ps.map (·.1)).flatten[i] u:=fun i=>by
     by_cases h:i<(ps.map (·.1)).flatten.length
     ·obtain⟨u,hu⟩:=h3 i h
      exact⟨u,fun _=>hu⟩
     ·exact⟨Go.undef,fun h'=>absurd h' h⟩
    rw[h0]
    refine .list _ _ _ _ b o cap (fun i=>Classical.choose (hu i)) h2 hl (fun i hi=>?_) (fun i hi=>(Classical.choose_spec (hu i) hi).2) trivial
    have:=(Classical.choose_spec (hu i) hi).1
    exact⟨⟨rfl,_,this⟩,this⟩
   ·rw[hm1,List.take_of_length_le (by omega)]
    exact hbs
def LI (bk:DataW H->Nat) (enc:TypeId×Value->H) (P:Program) (w:World) (base:Nat) (held:Bool) (n:Nat):List (Nat×(Nat->List TV->Prop))->List Field->Nat->Prop
 | [],[],_=>True
 | S::Ss,f::fs,o=>f.offset=o/\OpQ bk enc P w base held n S.1 S.2 f.type/\LI bk enc P w base held n Ss fs (o+S.1)
 | _,_,_=>False
def OJ:List (Nat×(Nat->List TV->Prop))->Nat->List TV->Prop
 | [],_,xs=>xs=[]
 | S::Ss,k,xs=>∃a b k1 k2,xs=a++b/\a.length=S.1/\S.2 k1 a/\OJ Ss k2 b/\k1+k2<=k
def LT:List (Nat×(Nat->List TV->Prop))->Nat
 | []=>0
 | S::Ss=>S.1+LT Ss
theorem IZ {n:Nat} {vs:List Value}:∀(Ss:List (Nat×(Nat->List TV->Prop))) (fs:List Field) (o:Nat) (xs:List (DataW H×List MemPlace)),LI bk enc P w base held n Ss fs o->xs.length=fs.length->vs.length=o+LT Ss->
  (∀(i:Nat) (f:Field),fs[i]? =some f->DataW.trod enc P w base (fun _=>true) held n f.type ((vs.drop f.offset).take (P.cellsOf f.type))=xs[i]?)->∃tv,Aw (Ghost.start w) w tv (vs.drop o)/\tv.length=LT Ss/\OJ Ss (xs.map (fun y=>bk y.1)).sum tv
 | [],[],o,xs,_,_,hl,_=>⟨[],by rw[List.drop_of_length_le (by simp[LT]at hl;omega)];exact .nil _ _,rfl,rfl⟩
 | S::Ss,f::fs,o,[],_,hx,_,_=>by simp at hx
 | S::Ss,f::fs,o,x::xs,ht,hx,hl,hd=>by
  obtain⟨h1,⟨h2,h3⟩,h4⟩:=ht
  have hd0:=hd 0 f rfl
  rw[h1,h2]at hd0
  obtain⟨tv0,hr,htl,hf⟩:=h3 _ _ hd0
  obtain⟨tv,hr',hl',hf'⟩:=IZ (n:=n) (vs:=vs) Ss fs (o+S.1) xs h4 (by simpa using hx) (by simp only[LT]at hl;omega) (fun i f' hi=>by simpa using hd (i+1) f' (by simpa using hi))
  refine⟨tv0++tv,?_,by simp[hl',htl,LT],tv0,tv,_,_,rfl,htl,hf,hf',by simp only[List.map_cons,List.sum_cons];exact Nat.le_refl _⟩
  have hlt:o+S.1<=vs.length:=by simp only[LT]at hl;omega
  have e:vs.drop o=(vs.drop o).take S.1++vs.drop (o+S.1):=by rw[<-List.drop_drop,List.take_append_drop]
  rw[e]
  exact Aw.append hr hr'
 | [],f::fs,o,xs,ht,_,_,_=>ht.elim
 | S::Ss,[],o,xs,ht,_,_,_=>ht.elim
theorem opq_struct {n c:Nat} {Ss:List (Nat×(Nat->List TV->Prop))} {e:TypeId} {fs:Array Field} (hb:Blk bk) (ht:P.underlying e=some (.struct fs)) (hc:P.cellsOf e=c) (hl:LT Ss=c) (hf:∀m,m<n->LI bk enc P w base held m Ss fs.toList 0):
  OpQ bk enc P w base held n c (fun k tv=>∃k',k'+1<=k/\OJ Ss k' tv) e:=⟨hc,fun vs x hd=>by
 obtain⟨xs,m,rfl,rfl,hvl,hx,hi⟩:=DataW.trod_struct ht hd
 obtain⟨tv,h1,h2,h3⟩:=IZ (bk:=bk) (enc:=enc) (P:=P) (w:=w) (base:=base) (held:=held) (n:=m) (vs:=vs) Ss fs.toList 0 xs (hf m (by omega)) (by simpa using hx) (by omega) (fun i f h=>hi i f (by simpa using h))
 refine⟨tv,by simpa using h1,by omega,_,?_,h3⟩
 have:=hb.agg (xs.map (·.1))
 rw[List.map_map]at this
 exact this⟩
end
end Go.TVF
end
namespace Go.TVF
open Go.IntKind(i64 u8)
open Go Go.Proofs
section
abbrev decQs:List (Nat×(Nat->List TV->Prop)):=[(1,cellQ .bool),(1,strQ),(1,cellQ (.int .i64))]
abbrev timeQs:List (Nat×(Nat->List TV->Prop)):=[(1,cellQ (.int .i64)),(1,cellQ (.int .i64)),(1,cellQ (.int .i64)),(1,cellQ (.int .i64))]
def valQ (k:Nat) (tv:List TV):Prop:=∃v:Vl,VlR St.zero v tv/\v.sz<=k
def fldQ (k:Nat) (tv:List TV):Prop:=∃d:Fd,FdR St.zero d tv/\d.sz<=k
abbrev IN (c:Nat) (S:Nat->List TV->Prop) (k:Nat) (tv:List TV):Prop:=∃v,tv=[v]/\SlQ c S k v
abbrev inQ (Ss:List (Nat×(Nat->List TV->Prop))) (k:Nat) (tv:List TV):Prop:=∃k',k'+1<=k/\OJ Ss k' tv
abbrev valQs:List (Nat×(Nat->List TV->Prop)):=[(1,cellQ (.int .i64)),(1,cellQ .bool),(3,inQ decQs),(4,inQ timeQs),(1,strQ),(1,IN 1 (cellQ (.int .u8))),(1,IN 13 valQ),(1,IN 14 fldQ)]
abbrev fldQs:List (Nat×(Nat->List TV->Prop)):=[(1,strQ),(13,valQ)]
theorem SlQ.bytes {k:Nat} {v:TV} (h:SlQ 1 (cellQ (.int .u8)) k v):∃l:B8,SlR St.zero 1 v l.length (AZ l)/\l.length<=k:=by
 rcases h with rfl | ⟨ps,rfl,h,hk⟩
 ·exact⟨[],.inl (.inl ⟨rfl,rfl,rfl⟩),Nat.zero_le _⟩
 ·have:∃l:B8,l.length=ps.length/\(ps.map (·.1)).flatten=AZ l/\l.length<=(ps.map (·.2)).sum:=by
   clear hk
   induction ps with
   | nil=>exact⟨[],rfl,rfl,Nat.zero_le _⟩
   | cons p r ih=>
    obtain⟨l,h1,h2,h3⟩:=ih (fun q hq=>h q (.tail _ hq))
    obtain⟨hl,⟨n,ys,hp,hw,rfl⟩,h1k⟩:=h p (.head _)
    have hn:0<=n/\n<=255:=by simpa [Lit.wf,IntKind.min,IntKind.max,IntKind.signed,IntKind.bits]using hw
    refine⟨n.toNat.toUInt8::l,by simp[h1],?_,by simp only[List.length_cons,List.map_cons,List.sum_cons];omega⟩
    rw[List.map_cons,List.flatten_cons,hp,h2]
    simp only[AZ,List.map_cons,OD,List.cons_append,List.nil_append,List.cons.injEq,and_true,TV.int.injEq,true_and]
    have:=Of n.toNat (by omega)
    omega
  obtain⟨l,h1,h2,h3⟩:=this
  exact⟨l,.inl (.inr ⟨.non,by rw[h1,h2]⟩),by omega⟩
theorem SlQ.vals {k:Nat} {v:TV} (h:SlQ 13 valQ k v):∃l xl,SlR St.zero 13 v l.length xl/\VsR St.zero l xl/\Br l<=k:=by
 rcases h with rfl | ⟨ps,rfl,h,hk⟩
 ·exact⟨[],[],.inl (.inl ⟨rfl,rfl,rfl⟩),by unfold VsR;rfl,by unfold Br;exact Nat.zero_le _⟩
 ·have:∃l:List Vl,l.length=ps.length/\VsR St.zero l (ps.map (·.1)).flatten/\Br l<=(ps.map (·.2)).sum:=by
   clear hk
   induction ps with
   | nil=>exact⟨[],rfl,by unfold VsR;rfl,by unfold Br;exact Nat.zero_le _⟩
   | cons p r ih=>
    obtain⟨l,h1,h2,h3⟩:=ih (fun q hq=>h q (.tail _ hq))
    obtain⟨hl,v,hv,hz⟩:=h p (.head _)
    exact⟨v::l,by simp[h1],by unfold VsR;exact⟨_,_,by simp,hv,h2⟩,by unfold Br;simp only[List.map_cons,List.sum_cons];omega⟩
  obtain⟨l,h1,h2,h3⟩:=this
  exact⟨l,_,.inl (.inr ⟨.non,by rw[h1]⟩),h2,by omega⟩
theorem SlQ.flds {k:Nat} {v:TV} (h:SlQ 14 fldQ k v):∃l xl,SlR St.zero 14 v l.length xl/\FsR St.zero l xl/\Bt l<=k:=by
 rcases h with rfl | ⟨ps,rfl,h,hk⟩
 ·exact⟨[],[],.inl (.inl ⟨rfl,rfl,rfl⟩),by unfold FsR;rfl,by unfold Bt;exact Nat.zero_le _⟩
 ·have:∃l:List Fd,l.length=ps.length/\FsR St.zero l (ps.map (·.1)).flatten/\Bt l<=(ps.map (·.2)).sum:=by
   clear hk
   induction ps with
   | nil=>exact⟨[],rfl,by unfold FsR;rfl,by unfold Bt;exact Nat.zero_le _⟩
   | cons p r ih=>
    obtain⟨l,h1,h2,h3⟩:=ih (fun q hq=>h q (.tail _ hq))
    obtain⟨hl,v,hv,hz⟩:=h p (.head _)
    exact⟨v::l,by simp[h1],by unfold FsR;exact⟨_,_,by simp,hv,h2⟩,by unfold Bt;simp only[List.map_cons,List.sum_cons];omega⟩
  obtain⟨l,h1,h2,h3⟩:=this
  exact⟨l,_,.inl (.inr ⟨.non,by rw[h1]⟩),h2,by omega⟩
theorem DG {kd:IntKind} {k:Nat} {tv:List TV} (h:cellQ (.int kd) k tv):∃n,tv=[.int kd n]:=by
 obtain⟨⟨n,ys,rfl,_,rfl⟩,_⟩:=h;exact⟨n,rfl⟩
theorem Fj {k:Nat} {tv:List TV} (h:cellQ .bool k tv):∃b,tv=[.bool b]:=by
 obtain⟨⟨n,ys,rfl,rfl⟩,_⟩:=h;exact⟨n,rfl⟩
theorem each_field {k:Nat} {tv:List TV} (h:inQ fldQs k tv):fldQ k tv:=by
 obtain⟨k0,hk0,_,_,k1,k2,rfl,_,⟨key,rfl,_,hkey⟩,⟨_,_,k3,k4,rfl,_,⟨v,hv,hz⟩,rfl,h2⟩,h1⟩:=h
 refine⟨.mk key v,by unfold FdR;exact⟨_,by simp,hv⟩,by unfold Fd.sz;omega⟩
theorem each_value {k:Nat} {tv:List TV} (h:inQ valQs k tv):valQ k tv:=by
 obtain⟨k0,hk0,_,_,a1,r1,rfl,_,q1,⟨_,_,a2,r2,rfl,_,q2,⟨_,_,a3,r3,rfl,_,q3,⟨_,_,a4,r4,rfl,_,q4,⟨_,_,a5,r5,rfl,_,q5,⟨_,_,a6,r6,rfl,_,q6,⟨_,_,a7,r7,rfl,_,q7,⟨_,_,a8,r8,rfl,_,q8,rfl,h8⟩,h7⟩,h6⟩,h5⟩,h4⟩,h3⟩,h2⟩,h1⟩:=h
 obtain⟨kd,rfl⟩:=DG q1
 obtain⟨bo,rfl⟩:=Fj q2
 obtain⟨d0,hd0,_,_,d1,d2,rfl,_,p1,⟨_,_,d3,d4,rfl,_,⟨dg,rfl,_,hdg⟩,⟨_,_,d5,d6,rfl,_,p3,rfl,g3⟩,g2⟩,g1⟩:=q3
 obtain⟨ng,rfl⟩:=Fj p1
 obtain⟨ex,rfl⟩:=DG p3
 obtain⟨_,_,_,_,_,_,rfl,_,t1,⟨_,_,_,_,rfl,_,t2,⟨_,_,_,_,rfl,_,t3,⟨_,_,_,_,rfl,_,t4,rfl,_⟩,_⟩,_⟩,_⟩:=q4
 obtain⟨tk,rfl⟩:=DG t1
 obtain⟨td,rfl⟩:=DG t2
 obtain⟨tn,rfl⟩:=DG t3
 obtain⟨tz,rfl⟩:=DG t4
 obtain⟨tx,rfl,_,htx⟩:=q5
 obtain⟨ub,rfl,q6⟩:=q6
 obtain⟨ul,rfl,q7⟩:=q7
 obtain⟨uf,rfl,q8⟩:=q8
 obtain⟨bs,hb,hbl⟩:=q6.bytes
 obtain⟨l,xl,hl,hlv,hlz⟩:=q7.vals
 obtain⟨f,xf,hf,hfv,hfz⟩:=q8.flds
 refine⟨.mk ⟨kd,bo,ng,dg,ex,tk,td,tn,tz,tx,bs⟩ l f,?_,by rw[szs];simp only;omega⟩
 unfold VlR
 exact⟨ub,ul,uf,xl,xf,by simp,hb,hl,hlv,hf,hfv⟩
section
variable {H:Type} {enc:TypeId×Value->H} {P:Program} {w:World} {base b0:Nat} {held:Bool} {bk:DataW H->Nat}
end
end
section
def IsValU (t:TV):Prop:=∃v cs,t= .agg cs/\VlR St.zero v cs
section
variable {H:Type} {enc:TypeId×Value->H} {P:Program} {w:World} {base b0:Nat} {held:Bool} {bk:DataW H->Nat}
theorem open_valU {t:TypeId} {fs:Array Field} {v:Value} {d:DataW H} {p:List MemPlace} (ht:P.underlying t=some (.struct fs)) (hop:∀n,OpQ bk enc P w base held n 13 valQ t)
  (hval:Value.okWide P w .any b0 t v) (h:DataW.Trod enc P w base (fun _=>true) held t v d p):∃tv,Rel (Ghost.start w) w tv v/\IsValU tv:=by
 simp only[Value.okWide,ht]at hval
 obtain⟨vs,rfl,_,_⟩:=hval
 obtain⟨n,hn⟩:=h
 obtain⟨cs,hr,_,vl,hv,hz⟩:=(hop n).2 _ _ hn
 have:=Rel.agg cs vs.toList hr.1 hr.2
 rw[Array.toArray_toList]at this
 exact⟨_,this,vl,cs,rfl,hv⟩
end
end
section
theorem SlR.zero {sz n:Nat} {v:TV} {xs:List TV} (h:SlR St.zero sz v n xs):Rd sz v n xs:=by
 rcases h with h | ⟨b,_,_,_,_,hb,_⟩
 ·exact h
 ·exact absurd hb (Nat.not_lt_zero _)
theorem Rd.isP {sz n i:Nat} {u:TV} {xs:List TV} (h:Rd sz u n xs) (hi:i<n):isPtr (ixT sz u i)=true:=(SlR.of_rd (st:=St.zero) h).isPtr hi
abbrev StepV:=Bool×B8×Int
section
variable {st:St}
end
section
variable {st:St}
end
end
end Go.TVF
section
namespace Go.TVF
open Go.IntKind(i64 u8)
mutual
inductive Tb where
 | mk (b m:Nat) (hd:Bool) (es:List Kn)
inductive Kn where
 | mk (k:B8) (eb:Nat) (e:En)
inductive En where
 | opn (t:Tb)
 | lst (l:List Tb)
 | clo (v:Vl) (i:Nat)
end
def Tb.b:Tb->Nat | .mk b _ _ _=>b
def Tb.m:Tb->Nat | .mk _ m _ _=>m
def Tb.hd:Tb->Bool | .mk _ _ h _=>h
def Tb.es:Tb->List Kn | .mk _ _ _ es=>es
def Kn.key:Kn->B8 | .mk k _ _=>k
def Kn.eb:Kn->Nat | .mk _ e _=>e
def Kn.en:Kn->En | .mk _ _ e=>e
def scM:Sc:=⟨7,false,false,[],0,0,0,0,0,[],[]⟩
def scL:Sc:=⟨6,false,false,[],0,0,0,0,0,[],[]⟩
mutual
def Ae:Tb->Vl
 | .mk _ _ _ es=> .mk scM [] (AG es)
def AG:List Kn->List Fd
 | []=>[]
 | .mk k _ e::r=> .mk k (AI e)::AG r
def AI:En->Vl
 | .opn t=>Ae t
 | .lst l=> .mk scL (A7 l) []
 | .clo v _=>v
def A7:List Tb->List Vl
 | []=>[]
 | t::r=>Ae t::A7 r
end
theorem Hs:∀a b:List Kn,AG (a++b)=AG a++AG b
 | [],b=>by simp[AG]
 | .mk k e x::r,b=>by simp only[List.cons_append,AG,Hs r b]
theorem B5:∀l:List Tb,A7 l=l.map Ae
 | []=>rfl
 | t::r=>by rw[A7,List.map_cons,B5 r]
theorem FY:∀l:List Kn,AG l=l.map fun d=>Fd.mk d.key (AI d.en)
 | []=>rfl
 | .mk k e x::r=>by rw[AG,List.map_cons,FY r];rfl
def Ag (k:B8):List Kn->Option (Nat×En)
 | []=>none
 | .mk k' eb e::r=>if k=k' then some (eb,e)else Ag k r
def Bs (k:B8) (x:En):List Kn->List Kn
 | []=>[]
 | .mk k' eb e::r=>if k=k' then .mk k' eb x::r else .mk k' eb e::Bs k x r
theorem Gd {k:B8}:∀{es:List Kn} {eb:Nat} {e:En},Ag k es=some (eb,e)->Kn.mk k eb e∈es
 | .mk k' eb' e'::r,eb,e,h=>by
  unfold Ag at h
  split at h
  ·rename_i hk;cases h;subst hk;exact .head _
  ·exact .tail _ (Gd h)
theorem GI {k:B8}:∀{es:List Kn},Ag k es=none->∀d,d∈es->d.key≠k
 | [],h,d,hd=>by cases hd
 | .mk k' eb' e'::r,h,d,hd=>by
  unfold Ag at h
  split at h
  ·cases h
  ·rename_i hk
   rcases List.mem_cons.1 hd with rfl | hd
   ·exact fun h=>hk h.symm
   ·exact GI h d hd
theorem Ke {k:B8} {x:En}:∀es:List Kn,(Bs k x es).map Kn.key=es.map Kn.key
 | []=>rfl
 | .mk k' eb e::r=>by
  unfold Bs
  split
  ·rfl
  ·rw[List.map_cons,List.map_cons,Ke r]
theorem EK {k:B8} {x:En}:∀{es:List Kn} {eb:Nat} {e:En},Ag k es=some (eb,e)->Ag k (Bs k x es)=some (eb,x)
 | .mk k' eb' e'::r,eb,e,h=>by
  unfold Ag at h
  unfold Bs
  split at h
  ·rename_i hk;cases h;subst hk;rw[if_pos rfl];simp[Ag]
  ·rename_i hk;rw[if_neg hk,Ag,if_neg hk];exact EK h
theorem HZ {k k2:B8} {x:En} (hne:k2≠k):∀{es:List Kn},Ag k2 (Bs k x es)=Ag k2 es
 | []=>rfl
 | .mk k' eb' e'::r=>by
  unfold Bs
  split
  ·rename_i hk;subst hk;unfold Ag;rw[if_neg hne,if_neg hne]
  ·unfold Ag;split
   ·rfl
   ·exact HZ hne
theorem Mo {k k2:B8} {eb:Nat} {x:En}:∀{es:List Kn},Ag k2 (es++[.mk k eb x])=match Ag k2 es with | some p=>some p | none=>if k2=k then some (eb,x)else none
 | []=>by simp[Ag]
 | .mk k' eb' e'::r=>by
  rw[List.cons_append,Ag,Ag]
  split
  ·rfl
  ·exact Mo
theorem set_set {k:B8} {x y:En}:∀es:List Kn,Bs k y (Bs k x es)=Bs k y es
 | []=>rfl
 | .mk k' eb e::r=>by
  by_cases hk:k=k'
  ·rw[Bs,if_pos hk,Bs,Bs,if_pos hk,if_pos hk]
  ·rw[Bs,if_neg hk,Bs,Bs,if_neg hk,if_neg hk,set_set r]
abbrev Hop:=B8×Option Nat
def atT:Tb->List Hop->Option Tb
 | t,[]=>some t
 | .mk _ _ _ es,(k,none)::h=>match Ag k es with
  | some (_,.opn u)=>atT u h
  | _=>none
 | .mk _ _ _ es,(k,some i)::h=>match Ag k es with
  | some (_,.lst l)=>match l[i]? with
   | some u=>atT u h
   | none=>none
  | _=>none
def AD:Tb->List Hop->Tb->Tb
 | _,[],x=>x
 | .mk b m hd es,(k,none)::h,x=>match Ag k es with
  | some (_,.opn u)=> .mk b m hd (Bs k (.opn (AD u h x)) es)
  | _=> .mk b m hd es
 | .mk b m hd es,(k,some i)::h,x=>match Ag k es with
  | some (_,.lst l)=>match l[i]? with
   | some u=> .mk b m hd (Bs k (.lst (l.set i (AD u h x))) es)
   | none=> .mk b m hd es
  | _=> .mk b m hd es
theorem Fl:∀(h g:List Hop) (T:Tb),atT T (h++g)=(atT T h).bind fun t=>atT t g
 | [],g,T=>by cases T;rfl
 | (k,none)::h,g,.mk b m hd es=>by
  rw[List.cons_append,atT,atT]
  rcases Ag k es with _ | ⟨eb,u | l | ⟨v,i⟩⟩
  ·rfl
  ·exact Fl h g u
  ·rfl
  ·rfl
 | (k,some i)::h,g,.mk b m hd es=>by
  rw[List.cons_append,atT,atT]
  rcases Ag k es with _ | ⟨eb,u | l | ⟨v,i⟩⟩
  ·rfl
  ·rfl
  ·simp only
   cases l[i]? with
   | none=>rfl
   | some u=>exact Fl h g u
  ·rfl
theorem Cq:∀(h:List Hop) {T t x:Tb},atT T h=some t->atT (AD T h x) h=some x
 | [],T,t,x,_=>by cases x;rfl
 | (k,none)::h,.mk b m hd es,t,x,hA=>by
  rw[atT]at hA
  rw[AD]
  rcases hl:Ag k es with _ | ⟨eb,u | l | ⟨v,i⟩⟩<;>rw[hl]at hA<;>simp only at hA⊢<;>try (cases hA;done)
  ·rw[atT,EK hl];exact Cq h hA
 | (k,some i)::h,.mk b m hd es,t,x,hA=>by
  rw[atT]at hA
  rw[AD]
  rcases hl:Ag k es with _ | ⟨eb,u | l | ⟨v,i⟩⟩<;>rw[hl]at hA<;>simp only at hA⊢<;>try (cases hA;done)
  ·cases hi:l[i]? with
   | none=>simp[hi]at hA
   | some u=>
    rw[hi]at hA
    have hlt:=(List.getElem?_eq_some_iff.1 hi).1
    simp only at hA⊢
    rw[atT,EK hl]
    simp only
    rw[List.getElem?_set_self hlt]
    exact Cq h hA
theorem D6:∀(h:List Hop) {T t x:Tb},atT T h=some t->x.b=t.b->(AD T h x).b=T.b
 | [],T,t,x,hA,hx=>by cases T;cases hA;exact hx
 | (k,none)::h,.mk b m hd es,t,x,hA,hx=>by
  rw[AD]
  split<;>rfl
 | (k,some i)::h,.mk b m hd es,t,x,hA,hx=>by
  rw[AD]
  split
  ·split<;>rfl
  ·rfl
theorem Im:∀(h g:List Hop) {T t x:Tb},atT T h=some t->AD T (h++g) x=AD T h (AD t g x)
 | [],g,T,t,x,hA=>by cases T;cases hA;rfl
 | (k,none)::h,g,.mk b m hd es,t,x,hA=>by
  rw[atT]at hA
  rw[List.cons_append,AD,AD]
  rcases hl:Ag k es with _ | ⟨eb,u | l | ⟨v,i⟩⟩<;>rw[hl]at hA<;>simp only at hA⊢<;>try (cases hA;done)
  ·rw[Im h g hA]
 | (k,some i)::h,g,.mk b m hd es,t,x,hA=>by
  rw[atT]at hA
  rw[List.cons_append,AD,AD]
  rcases hl:Ag k es with _ | ⟨eb,u | l | ⟨v,i⟩⟩<;>rw[hl]at hA<;>simp only at hA⊢<;>try (cases hA;done)
  ·cases hi:l[i]? with
   | none=>simp[hi]at hA
   | some u=>rw[hi]at hA;simp only at hA⊢;rw[Im h g hA]
theorem Hw:∀(h:List Hop) {T t x y:Tb},atT T h=some t->AD (AD T h x) h y=AD T h y
 | [],T,t,x,y,hA=>by cases x;cases T;rfl
 | (k,none)::h,.mk b m hd es,t,x,y,hA=>by
  rw[atT]at hA
  rw[AD,AD]
  rcases hl:Ag k es with _ | ⟨eb,u | l | ⟨v,i⟩⟩<;>rw[hl]at hA<;>simp only at hA⊢<;>try (cases hA;done)
  ·rw[AD,EK hl];simp only;rw[Hw h hA,set_set]
 | (k,some i)::h,.mk b m hd es,t,x,y,hA=>by
  rw[atT]at hA
  rw[AD,AD]
  rcases hl:Ag k es with _ | ⟨eb,u | l | ⟨v,i⟩⟩<;>rw[hl]at hA<;>simp only at hA⊢<;>try (cases hA;done)
  ·cases hi:l[i]? with
   | none=>simp[hi]at hA
   | some u=>
    rw[hi]at hA
    have hlt:=(List.getElem?_eq_some_iff.1 hi).1
    simp only at hA⊢
    rw[AD,EK hl]
    simp only
    rw[List.getElem?_set_self hlt]
    simp only
    rw[Hw h hA,set_set,List.set_set]
end Go.TVF
end
section
namespace Go.TVF
open Go.IntKind(i64 u8)
inductive Stp where
 | key (k:B8)
 | idx (i:Nat)
deriving DecidableEq
def scO:Sc:=⟨0,false,false,[],0,0,0,0,0,[],[]⟩
def vlO:Vl:= .mk scO [] []
end Go.TVF
end
section
namespace Go.TVF
open Go.IntKind(i64 u8)
def AV (t:Tb) (k:B8) (eb:Nat) (e:En):Tb:= .mk t.b t.m t.hd (t.es++[.mk k eb e])
def Cp (t:Tb) (k:B8) (e:En):Tb:= .mk t.b t.m t.hd (Bs k e t.es)
theorem FO {t:Tb} {k k2:B8} {eb:Nat} {e:En} (h:Ag k t.es=none):Ag k2 (AV t k eb e).es=if k2=k then some (eb,e)else Ag k2 t.es:=by
 show Ag k2 (t.es++[.mk k eb e])=_
 rw[Mo]
 by_cases hk:k2=k
 ·subst hk;simp[h]
 ·rw[if_neg hk,if_neg hk]
  cases Ag k2 t.es<;>rfl
theorem PQ {t:Tb} {k k2:B8} {eb:Nat} {e x:En} (h:Ag k t.es=some (eb,e)):Ag k2 (Cp t k x).es=if k2=k then some (eb,x)else Ag k2 t.es:=by
 show Ag k2 (Bs k x t.es)=_
 by_cases hk:k2=k
 ·subst hk;rw[if_pos rfl,EK h]
 ·rw[if_neg hk,HZ hk]
structure Asg where
 tab:Bool
 elem:Bool
 keys:List B8
 val:Vl
structure Nu where
 b:Nat
 m:Nat
 eb:Nat
def AF (nu:Nu) (hd:Bool):Tb:= .mk nu.b nu.m hd []
def Dg (nu:Nu) (hd:Bool) (T:Tb) (h:List Hop) (k:B8):Option (Tb×List Hop):=
 match atT T h with
 | none=>none
 | some t=>match Ag k t.es with
  | none=>some (AD T h (AV t k nu.eb (.opn (AF nu false))),h++[(k,none)])
  | some (_,.opn _)=>some (T,h++[(k,none)])
  | some (_,.lst l)=>if hd=true then some (T,h++[(k,some (l.length-1))])else none
  | some (_,.clo _ _)=>none
def Bm (nu:Nat->Nu) (hd:Bool):Nat->Tb->List Hop->List B8->Option (Tb×List Hop)
 | _,T,h,[]=>some (T,h)
 | j,T,h,k::ks=>match Dg (nu j) hd T h k with
  | none=>none
  | some (T',h')=>Bm nu hd (j+1) T' h' ks
def BY:Tb->Tb | .mk b m _ es=> .mk b m true es
def Ca (nu:Nu) (a:Asg) (i:Nat) (T:Tb) (h cur:List Hop) (k:B8):Except Int (Tb×List Hop):=
 match atT T h with
 | none=> .error 0
 | some t=>
  if a.elem=true then(match Ag k t.es with
   | none=> .ok (AD T h (AV t k nu.eb (.lst [AF nu false])),h++[(k,some 0)])
   | some (_,.lst l)=> .ok (AD T h (Cp t k (.lst (l++[AF nu false]))),h++[(k,some l.length)])
   | some _=> .error 6)
  else if a.tab=true then(match Ag k t.es with
   | none=> .ok (AD T h (AV t k nu.eb (.opn (AF nu true))),h++[(k,none)])
   | some (_,.opn u)=>if u.hd=true then .error 8 else .ok (AD T h (Cp t k (.opn (BY u))),h++[(k,none)])
   | some _=> .error 8)
  else(match Ag k t.es with
   | none=> .ok (AD T h (AV t k nu.eb (.clo a.val i)),cur)
   | some _=> .error 8)
deriving instance DecidableEq for Sc
def Ix (v:Vl):Bool:=decide (v.sc=scO)&&v.list.isEmpty&&v.flds.isEmpty
def Cl (a:Asg):Bool:= !a.keys.isEmpty&&(a.tab || !a.elem)&&(!a.tab || Ix a.val)
def CH (nu:Nat->Nu) (i:Nat) (T:Tb) (cur:List Hop) (a:Asg):Except Int (Tb×List Hop):=
 if Cl a=false then .error 1
 else match Bm nu a.tab 0 T (if a.tab=true then []else cur) a.keys.dropLast with
  | none=> .error 8
  | some (T',h)=>Ca (nu a.keys.length) a i T' h cur (a.keys.getLastD [])
end Go.TVF
end
section
namespace Go.TVF
open Go.IntKind(i64 u8)
inductive ShE where
 | opn (b:Nat)
 | lst (bs:List Nat)
 | clo (v:Vl) (i:Nat)
structure Sh where
 b:Nat
 m:Nat
 hd:Bool
 d:Nat
 es:List (B8×Nat×ShE)
def shE:En->ShE
 | .opn t=> .opn t.b
 | .lst l=> .lst (l.map Tb.b)
 | .clo v i=> .clo v i
def shK (d:Kn):B8×Nat×ShE:=(d.key,d.eb,shE d.en)
mutual
def shT:Nat->Tb->List Sh
 | d,.mk b m hd es=>⟨b,m,hd,d,es.map shK⟩::Bi d es
def Bi:Nat->List Kn->List Sh
 | _,[]=>[]
 | d,.mk _ _ e::r=>AT d e++Bi d r
def AT:Nat->En->List Sh
 | d,.opn t=>shT (d+1) t
 | d,.lst l=>Cx (d+2) l
 | _,.clo _ _=>[]
def Cx:Nat->List Tb->List Sh
 | _,[]=>[]
 | d,t::r=>shT d t++Cx d r
end
theorem L7 (d:Nat):∀a b:List Kn,Bi d (a++b)=Bi d a++Bi d b
 | [],b=>by simp[Bi]
 | .mk k eb e::r,b=>by simp only[List.cons_append,Bi,L7 d r b,List.append_assoc]
theorem G1 (d:Nat):∀a b:List Tb,Cx d (a++b)=Cx d a++Cx d b
 | [],b=>by simp[Cx]
 | t::r,b=>by simp only[List.cons_append,Cx,G1 d r b,List.append_assoc]
theorem EE (d:Nat) {k:B8}:∀{es:List Kn} {eb:Nat} {e:En},Ag k es=some (eb,e)->∃P Q,Bi d es=P++(AT d e++Q)/\∀x,Bi d (Bs k x es)=P++(AT d x++Q)
 | .mk k' eb' e'::r,eb,e,h=>by
  unfold Ag at h
  by_cases hk:k=k'
  ·rw[if_pos hk]at h
   cases h
   exact⟨[],Bi d r,by rw[Bi,List.nil_append],fun x=>by rw[Bs,if_pos hk,Bi,List.nil_append]⟩
  ·rw[if_neg hk]at h
   obtain⟨P,Q,h1,h2⟩:=EE d h
   exact⟨AT d e'++P,Q,by rw[Bi,h1,List.append_assoc],fun x=>by rw[Bs,if_neg hk,Bi,h2 x,List.append_assoc]⟩
theorem K4 {k:B8} {x:En}:∀{es:List Kn} {eb:Nat} {e:En},Ag k es=some (eb,e)->shE x=shE e->(Bs k x es).map shK=es.map shK
 | .mk k' eb' e'::r,eb,e,h,hx=>by
  unfold Ag at h
  by_cases hk:k=k'
  ·rw[if_pos hk]at h
   cases h
   rw[Bs,if_pos hk,List.map_cons,List.map_cons]
   show(k',eb',shE x)::_=(k',eb',shE e')::_
   rw[hx]
  ·rw[if_neg hk]at h
   rw[Bs,if_neg hk,List.map_cons,List.map_cons,K4 h hx]
theorem L5 (d:Nat):∀{l:List Tb} {i:Nat} {u:Tb},l[i]? =some u->∃P Q,Cx d l=P++(shT d u++Q)/\∀x,Cx d (l.set i x)=P++(shT d x++Q)
 | t::r,0,u,h=>by
  cases h
  exact⟨[],Cx d r,by rw[Cx,List.nil_append],fun x=>by rw[List.set_cons_zero,Cx,List.nil_append]⟩
 | t::r,i+1,u,h=>by
  obtain⟨P,Q,h1,h2⟩:=L5 d (l:=r) (i:=i) (u:=u) (by simpa using h)
  exact⟨shT d t++P,Q,by rw[Cx,h1,List.append_assoc],fun x=>by rw[List.set_cons_succ,Cx,h2 x,List.append_assoc]⟩
def dpH:List Hop->Nat
 | []=>0
 | (_,none)::h=>dpH h+1
 | (_,some _)::h=>dpH h+2
theorem Hi:∀a b:List Hop,dpH (a++b)=dpH a+dpH b
 | [],b=>by simp[dpH]
 | (k,none)::a,b=>by rw[List.cons_append,dpH,dpH,Hi a b];omega
 | (k,some i)::a,b=>by rw[List.cons_append,dpH,dpH,Hi a b];omega
theorem box_set {l:List Tb} {i:Nat} {u x:Tb} (h:l[i]? =some u) (hx:x.b=u.b):(l.set i x).map Tb.b=l.map Tb.b:=by
 rw[List.map_set,hx]
 apply List.ext_getElem?
 intro j
 by_cases hj:i=j
 ·subst hj
  obtain⟨hlt,hu⟩:=List.getElem?_eq_some_iff.1 h
  rw[List.getElem?_set_self (by rw[List.length_map];exact hlt),List.getElem?_map,h];rfl
 ·rw[List.getElem?_set_ne hj]
theorem Gk:∀(h:List Hop) {T t:Tb},atT T h=some t->∀d,∃A B,shT d T=A++(shT (d+dpH h) t++B)/\∀t',t'.b=t.b->shT d (AD T h t')=A++(shT (d+dpH h) t'++B)
 | [],T,t,hA,d=>by
  cases T;cases hA
  exact⟨[],[],by rw[List.nil_append,List.append_nil];rfl,fun t' _=>by rw[List.nil_append,List.append_nil];rfl⟩
 | (k,none)::h,.mk b m hd es,t,hA,d=>by
  rw[atT]at hA
  rcases hl:Ag k es with _ | ⟨eb,u | l | ⟨v,i⟩⟩<;>rw[hl]at hA<;>simp only at hA<;>try (cases hA;done)
  obtain⟨A,B,h1,h2⟩:=Gk h hA (d+1)
  obtain⟨P,Q,h3,h4⟩:=EE d hl
  have e:d+1+dpH h=d+dpH ((k,none)::h):=by rw[dpH];omega
  rw[e]at h1 h2
  refine⟨⟨b,m,hd,d,es.map shK⟩::(P++A),B++Q,?_,fun t' ht=>?_⟩
  ·rw[shT,h3,AT,h1]
   simp only[List.cons_append,List.append_assoc]
  ·rw[AD,hl]
   simp only
   rw[shT,h4,AT,h2 t' ht,K4 hl (by show ShE.opn _=ShE.opn _;rw[D6 h hA ht])]
   simp only[List.cons_append,List.append_assoc]
 | (k,some j)::h,.mk b m hd es,t,hA,d=>by
  rw[atT]at hA
  rcases hl:Ag k es with _ | ⟨eb,u | l | ⟨v,i⟩⟩<;>rw[hl]at hA<;>simp only at hA<;>try (cases hA;done)
  cases hj:l[j]? with
  | none=>simp[hj]at hA
  | some u=>
  rw[hj]at hA
  simp only at hA
  obtain⟨A,B,h1,h2⟩:=Gk h hA (d+2)
  obtain⟨P,Q,h3,h4⟩:=EE d hl
  obtain⟨P2,Q2,h5,h6⟩:=L5 (d+2) hj
  have e:d+2+dpH h=d+dpH ((k,some j)::h):=by rw[dpH];omega
  rw[e]at h1 h2
  refine⟨⟨b,m,hd,d,es.map shK⟩::(P++(P2++A)),B++(Q2++Q),?_,fun t' ht=>?_⟩
  ·rw[shT,h3,AT,h5,h1]
   simp only[List.cons_append,List.append_assoc]
  ·rw[AD,hl]
   simp only[hj]
   rw[shT,h4,AT,h6,h2 t' ht,K4 hl (by show ShE.lst _=ShE.lst _;rw[box_set hj (D6 h hA ht)])]
   simp only[List.cons_append,List.append_assoc]
theorem K3 (d:Nat) (t:Tb) (k:B8) (eb:Nat) (e:En):shT d (AV t k eb e)=⟨t.b,t.m,t.hd,d,t.es.map shK++[(k,eb,shE e)]⟩::(Bi d t.es++AT d e):=by
 unfold AV
 rw[shT,List.map_append,L7,Bi,Bi,List.append_nil]
 rfl
theorem Dm (d:Nat) (t:Tb):shT d t=⟨t.b,t.m,t.hd,d,t.es.map shK⟩::Bi d t.es:=by cases t;rfl
def C6 (k:B8):List (B8×Nat×ShE)->Option (Nat×ShE)
 | []=>none
 | (k',p)::r=>if k=k' then some p else C6 k r
theorem EL (k:B8):∀es:List Kn,C6 k (es.map shK)=(Ag k es).map fun p=>(p.1,shE p.2)
 | []=>rfl
 | .mk k' eb e::r=>by
  rw[List.map_cons,Ag]
  show(if k=k' then some (eb,shE e)else C6 k (r.map shK))=_
  by_cases hk:k=k'
  ·rw[if_pos hk,if_pos hk];rfl
  ·rw[if_neg hk,if_neg hk,EL k r]
theorem Km {k k2:B8} {p:Nat×ShE}:∀{es:List (B8×Nat×ShE)},C6 k2 (es++[(k,p)])=match C6 k2 es with | some q=>some q | none=>if k2=k then some p else none
 | []=>by simp[C6]
 | (k',q)::r=>by
  rw[List.cons_append,C6,C6]
  split
  ·rfl
  ·exact Km
def bxS (s:Sh):List Nat:=s.b::s.m::s.es.map fun x=>x.2.1
def bxL (L:List Sh):List Nat:=L.flatMap bxS
theorem Ax (A B:List Sh):bxL (A++B)=bxL A++bxL B:=by unfold bxL;rw[List.flatMap_append]
theorem AN (s:Sh) (L:List Sh):bxL (s::L)=bxS s++bxL L:=by unfold bxL;rw[List.flatMap_cons]
theorem A3 {x:Nat} {s:Sh} {L:List Sh} (hs:s∈L) (hx:x∈bxS s):x∈bxL L:=List.mem_flatMap.2 ⟨s,hs,hx⟩
end Go.TVF
end
namespace Go.TVF
open Go.IntKind(i64 u8)
open Go Go.Proofs
def AW:TV->Option Nat
 | .list _ (.own id) _ _=>some id
 | _=>none
def B7 (v:TV) (xs:List TV):Prop:=(v= .nilSlice/\xs=[])∨∃tip,v= .list 1 tip xs.length xs/\(tip= .full∨∃id,tip= .own id)
theorem B7.nil:B7 .nilSlice []:= .inl ⟨rfl,rfl⟩
theorem B7.sl {v:TV} {xs:List TV} (h:B7 v xs):isSl v=true:=by
 rcases h with⟨rfl,_⟩ | ⟨tip,rfl,_⟩<;>rfl
theorem B7.len {v:TV} {xs:List TV} (h:B7 v xs):lenS v=xs.length:=by
 rcases h with⟨rfl,rfl⟩ | ⟨tip,rfl,_⟩<;>rfl
theorem B7.lenZ {v:TV} {xs:List TV} (h:B7 v xs):lenZ 1 v=xs.length:=by
 rcases h with⟨rfl,rfl⟩ | ⟨tip,rfl,_⟩<;>rfl
theorem JC {T bytes:Nat} {st:St} {v y:TV} {xs:List TV} {K:TV->St->Prop} (h:B7 v xs) (ht:∀id,AW v=some id->id<st.nt/\st.live id=true) (hby:(xs.length+1)*bytes<=140737488355328)
  (hK:∀v' st',B7 v' (xs++[y])->AW v'=some st.nt->st'.box=st.box->st'.nb=st.nb->st'.bt=st.bt->st'.nt=st.nt+1->st'.live st.nt=true->(∀i,i<st.nt->AW v≠some i->st'.live i=st.live i)->K v' st'):
  Cf T 1 bytes v 1 [y] st K:=by
 rcases h with⟨rfl,rfl⟩ | ⟨tip,rfl,rfl | ⟨id,rfl⟩⟩
 ·simp only[Cf]
  refine Aa (by rw[Nat.ble_eq];simpa using hby) (hK _ _ (.inr ⟨.own st.nt,rfl,.inr ⟨_,rfl⟩⟩) rfl rfl rfl rfl rfl (by simp[St.fresh]) fun i hi _=>?_)
  simp only[St.fresh];rw[if_neg (by omega)]
 ·simp only[Cf,Nat.beq_refl]
  refine⟨hby,hK _ _ (.inr ⟨.own st.nt,by simp,.inr ⟨_,rfl⟩⟩) rfl rfl rfl rfl rfl (by simp[St.fresh]) fun i hi _=>?_⟩
  simp only[St.fresh];rw[if_neg (by omega)]
 ·obtain⟨h1,h2⟩:=ht id rfl
  simp only[Cf,Nat.beq_refl]
  refine⟨hby,h2,hK _ _ (.inr ⟨.own st.nt,by simp,.inr ⟨_,rfl⟩⟩) rfl rfl rfl rfl rfl (by simp[St.fresh,St.retire]) fun i hi hne=>?_⟩
  have h3:i≠id:=fun e=>hne (by rw[e];rfl)
  have h4:i≠st.nt:=by omega
  simp[St.fresh,St.retire,h3,h4]
theorem K0 {t m e d:Nat} {kv:TV} {ks:List B8} {key:B8} {es:List (B8×TV)} {st:St} {K:St->Prop} (hb:st.box t= .cells [kv,.map m,.int .i64 d]) (hm:st.box m= .map es)
  (hr:B7 kv (ks.map TV.str)) (ht:∀id,AW kv=some id->id<st.nt/\st.live id=true) (hl:ks.length<=1000000)
  (hk:∀kv' st',B7 kv' ((ks++[key]).map TV.str)->AW kv'=some st.nt->st'.box=(fun x=>if x=m then .map (Ek key (.box e 0) es)else if x=t then .cells [kv',.map m,.int .i64 d]else st.box x)->st'.nb=st.nb->st'.bt=st.bt->st'.nt=st.nt+1->
   st'.live st.nt=true->(∀i,i<st.nt->AW kv≠some i->st'.live i=st.live i)->K st'):
  CallT PR AB [.box t 0,.str key,.box e 0] [] st K:=by
 have hmt:m≠t:=fun h=>by rw[h,hb]at hm;cases hm
 refine FB t key e st K (Ad (x:=kv) (by simp only[Ac,hb];rfl) (JC hr ht (by rw[List.length_map];omega) fun v' st1 h1 h2 h3 h4 h5 h6 h7 h8=>?_))
 have h1':Aq v'=true:=by
  rcases h1 with⟨_,hx⟩ | ⟨tip,h9,_⟩
  ·simp at hx
  ·rw[h9];rfl
 refine Aa (by simp[h1']) ?_
 have hb1:st1.box t= .cells [kv,.map m,.int .i64 d]:=by rw[h3];exact hb
 refine⟨_,hb1,by simp,?_⟩
 refine Ad (x:= .map m) (by simp[Ac,St.put,setAll]) ?_
 refine⟨es,by simp only[St.put];rw[if_neg hmt,h3];exact hm,?_⟩
 refine hk v' _ (by rw[List.map_append];exact h1) h2 ?_ h4 h5 h6 h7 h8
 funext x
 simp only[St.put,h3,setAll]
 rfl
theorem allC {st:St} {up:List (Nat×TV)} (h:∀p,p∈up->Ai st p.1=true):(up.all fun p=>Ai st p.1)=true:=List.all_eq_true.2 h
theorem HD {st:St} {ub k:Nat} {up:List (Nat×TV)} (hu:st.box ub= .pmap up) (h:∀p,p∈up->Ai st p.1=true) (hk:Ai st k=true):IY st (.map ub) (.box k 0)=some (up,k):=by
 simp only[IY,IW,hu,pkey,Nat.beq_refl,hk,allC h]
 rfl
theorem Gg {bb ub d:Nat} {r n:TV} {nodes:Int} {up:List (Nat×TV)} {st:St} {K:TV->St->Prop} (hb:st.box bb= .cells [r,n,.map ub,.int .i64 nodes]) (hu:st.box ub= .pmap up) (hbb:bb<st.nb) (hub:ub<st.nb)
  (hc:∀p,p∈up->Ai st p.1=true/\p.1<st.nb) (hn:0<=nodes/\nodes<1000000000)
  (hk:∀st',st'.nb=st.nb+2->st'.box=(fun x=>if x=bb then .cells [r,n,.map ub,.int .i64 (nodes+1)]else if x=ub then .pmap (Dp (st.nb+1) (.bool true) up)else if x=st.nb+1 then .cells [.nilSlice,.map st.nb,.int .i64 d]else if x=st.nb then .map []else st.box x)->
   st'.nt=st.nt->st'.live=st.live->K (.box (st.nb+1) 0) st'):
  CallT PR Au [.box bb 0,.int .i64 d] [.one .tv] st K:=by
 have hbu:ub≠bb:=fun h=>by rw[h,hb]at hu;cases hu
 have e1:bb≠st.nb:=by omega
 have e2:bb≠st.nb+1:=by omega
 have e3:ub≠st.nb:=by omega
 have e4:ub≠st.nb+1:=by omega
 refine Eh bb d st K (Aa rfl (Ad (x:= .map ub) (by simp[Ac,St.push,e1,e2,hb]) ?_))
 have hg:IY ((st.push (.map []) none).push (.cells [.nilSlice,.map st.nb,.int .i64 d]) (some 77)) (.map ub) (.box (st.nb+1) 0)=some (up,st.nb+1):=by
  refine HD (by simp[St.push,e3,e4,hu]) (fun p hp=>?_) (by simp[Ai,St.push])
  obtain⟨h1,h2⟩:=hc p hp
  have h3:p.1≠st.nb:=by omega
  have h4:p.1≠st.nb+1:=by omega
  simp only[Ai]at h1
  simp[Ai,St.push,h3,h4,h1]
 refine Ad hg ?_
 refine Ad (x:= .int .i64 nodes) (by simp[Ac,St.push,St.put,FN,Ne.symm hbu,e1,e2,hb]) (BJ ?_)
 refine⟨[r,n,.map ub,.int .i64 nodes],by simp[St.push,St.put,FN,Ne.symm hbu,e1,e2,hb],by simp,?_⟩
 rw[Ap _ (by omega) (by omega)]
 refine hk _ rfl ?_ rfl rfl
 funext x
 simp only[St.push,St.put,FN,setAll]
 rfl
def z13:List TV:=AC scO .nilSlice .nilSlice .nilSlice
def Il (σ:Nat->TV) (st:St) (eb:Nat):ShE->Prop
 | .opn b=>st.box eb= .cells (.box b 0:: .nilSlice::(z13++[.int .i64 0]))/\AW (σ eb)=none
 | .lst bs=>B7 (σ eb) (bs.map fun b=> .box b 0)/\bs≠ []/\st.box eb= .cells (.nilPtr::σ eb::(z13++[.int .i64 0]))
 | .clo v i=>∃cs,VlR St.zero v cs/\cs.length=13/\st.box eb= .cells (.nilPtr:: .nilSlice::(cs++[.int .i64 i]))/\AW (σ eb)=none
structure JG (σ:Nat->TV) (st:St) (s:Sh):Prop where
 cell:st.box s.b= .cells [σ s.b,.map s.m,.int .i64 s.d]
 row:B7 (σ s.b) ((s.es.map fun x=>x.1).map TV.str)
 mp:∃mp,st.box s.m= .map mp/\∀k,As k mp=(C6 k s.es).map fun p=> .box p.1 0
 en:∀x,x∈s.es->Il σ st x.2.1 x.2.2
structure HP (σ:Nat->TV) (st:St) (L:List Sh):Prop where
 nd:(bxL L).Nodup
 lt:∀x,x∈bxL L->x<st.nb
 sh:∀s,s∈L->JG σ st s
 tip:∀x,x∈bxL L->∀id,AW (σ x)=some id->id<st.nt/\st.live id=true
 td:∀x,x∈bxL L->∀y,y∈bxL L->x≠y->∀id,AW (σ x)=some id->AW (σ y)≠some id
theorem Il.fr {σ σ':Nat->TV} {st st':St} {eb:Nat} {e:ShE} (h:Il σ st eb e) (hb:st'.box eb=st.box eb) (hs:σ' eb=σ eb):Il σ' st' eb e:=by
 cases e with
 | opn b=>unfold Il at h⊢;rw[hb,hs];exact h
 | lst bs=>unfold Il at h⊢;rw[hb,hs];exact h
 | clo v i=>unfold Il at h⊢;rw[hb,hs];exact h
theorem Dt {s:Sh} {x:B8×Nat×ShE} (h:x∈s.es):x.2.1∈bxS s:= .tail _ (.tail _ (List.mem_map.2 ⟨x,h,rfl⟩))
theorem JG.fr {σ σ':Nat->TV} {st st':St} {s:Sh} (h:JG σ st s) (hb:∀x,x∈bxS s->st'.box x=st.box x/\σ' x=σ x):JG σ' st' s:=by
 have h1:=hb s.b (.head _)
 have h2:=hb s.m (.tail _ (.head _))
 exact⟨by rw[h1.1,h1.2];exact h.cell,by rw[h1.2];exact h.row,by rw[h2.1];exact h.mp,fun x hx=>(h.en x hx).fr (hb _ (Dt hx)).1 (hb _ (Dt hx)).2⟩
theorem Hc {A X B:List Sh} (h:(bxL (A++(X++B))).Nodup):(bxL A++bxL B).Nodup/\(bxL X).Nodup/\∀x,x∈bxL X->x∉bxL A/\x∉bxL B:=by
 rw[Ax,Ax]at h
 obtain⟨h1,h2,h3⟩:=List.nodup_append.1 h
 obtain⟨h4,h5,h6⟩:=List.nodup_append.1 h2
 exact⟨List.nodup_append.2 ⟨h1,h5,fun a ha b hb=>h3 a ha b (List.mem_append_right _ hb)⟩,h4,fun x hx=>⟨fun ha=>h3 x ha x (List.mem_append_left _ hx) rfl,fun hb=>h6 x hx x hb rfl⟩⟩
theorem HP.upd {σ σ':Nat->TV} {st st':St} {A X X' B:List Sh} (h:HP σ st (A++(X++B))) (hnb:st.nb<=st'.nb)
  (hbx:∀x,x∈bxL A∨x∈bxL B->st'.box x=st.box x/\σ' x=σ x)
  (hlv:∀x,x∈bxL A∨x∈bxL B->∀id,AW (σ x)=some id->id<st'.nt/\st'.live id=true)
  (hX:∀s,s∈X'->JG σ' st' s) (hnd:(bxL X').Nodup) (hnew:∀x,x∈bxL X'->x<st'.nb/\(x∈bxL X∨st.nb<=x))
  (htip:∀x,x∈bxL X'->∀id,AW (σ' x)=some id->id<st'.nt/\st'.live id=true/\((∃y,y∈bxL X/\AW (σ y)=some id)∨st.nt<=id))
  (htd:∀x,x∈bxL X'->∀y,y∈bxL X'->x≠y->∀id,AW (σ' x)=some id->AW (σ' y)≠some id):HP σ' st' (A++(X'++B)):=by
 obtain⟨n1,n2,n3⟩:=Hc h.nd
 have mA:∀{x},x∈bxL A->x∈bxL (A++(X++B)):=fun hx=>by rw[Ax];exact List.mem_append_left _ hx
 have mB:∀{x},x∈bxL B->x∈bxL (A++(X++B)):=fun hx=>by rw[Ax,Ax];exact List.mem_append_right _ (List.mem_append_right _ hx)
 have mX:∀{x},x∈bxL X->x∈bxL (A++(X++B)):=fun hx=>by rw[Ax,Ax];exact List.mem_append_right _ (List.mem_append_left _ hx)
 have mAB:∀{x},x∈bxL A∨x∈bxL B->x∈bxL (A++(X++B)):=fun hx=>hx.elim mA mB
 have dAB:∀{x},x∈bxL X'->¬(x∈bxL A∨x∈bxL B):=fun {x} hx hm=>by
  rcases (hnew x hx).2 with h1 | h1
  ·exact hm.elim (n3 x h1).1 (n3 x h1).2
  ·have:=h.lt x (mAB hm);omega
 have tAB:∀{x y},x∈bxL X'->(y∈bxL A∨y∈bxL B)->∀{id},AW (σ' x)=some id->AW (σ y)=some id->False:=fun {x y} hx hy {id} h1 h2=>by
  rcases (htip x hx id h1).2.2 with⟨z,hz,h3⟩ | h3
  ·exact h.td z (mX hz) y (mAB hy) (fun e=>by subst e;exact hy.elim (n3 z hz).1 (n3 z hz).2) id h3 h2
  ·have:=(h.tip y (mAB hy) id h2).1;omega
 have spl:∀{x},x∈bxL (A++(X'++B))->(x∈bxL A∨x∈bxL B)∨x∈bxL X':=fun {x} hx=>by
  rw[Ax,Ax]at hx
  rcases List.mem_append.1 hx with h1 | h1
  ·exact .inl (.inl h1)
  ·rcases List.mem_append.1 h1 with h2 | h2
   ·exact .inr h2
   ·exact .inl (.inr h2)
 refine⟨?_,fun x hx=>?_,fun s hs=>?_,fun x hx id hid=>?_,fun x hx y hy hne id h1 h2=>?_⟩
 ·rw[Ax,Ax]
  obtain⟨a1,a2,a3⟩:=List.nodup_append.1 n1
  refine List.nodup_append.2 ⟨a1,List.nodup_append.2 ⟨hnd,a2,fun x hx y hy e=>dAB hx (.inr (by rw[e];exact hy))⟩,fun x hx y hy e=>?_⟩
  rcases List.mem_append.1 hy with h1 | h1
  ·exact dAB h1 (.inl (by rw[<-e];exact hx))
  ·exact a3 x hx y h1 e
 ·rcases spl hx with h1 | h1
  ·exact Nat.lt_of_lt_of_le (h.lt x (mAB h1)) hnb
  ·exact(hnew x h1).1
 ·rcases List.mem_append.1 hs with h1 | h1
  ·exact(h.sh s (List.mem_append_left _ h1)).fr fun x hx=>hbx x (.inl (A3 h1 hx))
  ·rcases List.mem_append.1 h1 with h2 | h2
   ·exact hX s h2
   ·exact(h.sh s (List.mem_append_right _ (List.mem_append_right _ h2))).fr fun x hx=>hbx x (.inr (A3 h2 hx))
 ·rcases spl hx with h1 | h1
  ·exact hlv x h1 id ((hbx x h1).2▸hid)
  ·exact⟨(htip x h1 id hid).1,(htip x h1 id hid).2.1⟩
 ·rcases spl hx with h3 | h3<;>rcases spl hy with h4 | h4
  ·exact h.td x (mAB h3) y (mAB h4) hne id ((hbx x h3).2▸h1) ((hbx y h4).2▸h2)
  ·exact tAB h4 h3 h2 ((hbx x h3).2▸h1)
  ·exact tAB h3 h4 h1 ((hbx y h4).2▸h2)
  ·exact htd x h3 y h4 hne id h1 h2
theorem HP.add {σ σ':Nat->TV} {st st':St} {A R N B:List Sh} {s:Sh} {k:B8} {eb:Nat} {e:ShE} (h:HP σ st (A++((s::R)++B))) (hnb:st.nb<=st'.nb)
  (hbx:∀x,x∈bxL (A++((s::R)++B))->x≠s.b->x≠s.m->st'.box x=st.box x/\σ' x=σ x)
  (hlv:∀x,x∈bxL (A++((s::R)++B))->x≠s.b->∀id,AW (σ x)=some id->id<st'.nt/\st'.live id=true)
  (hc:st'.box s.b= .cells [σ' s.b,.map s.m,.int .i64 s.d]) (hr:B7 (σ' s.b) (((s.es++[(k,eb,e)]).map fun x=>x.1).map TV.str))
  (hm:∃mp,st.box s.m= .map mp/\st'.box s.m= .map (Ek k (.box eb 0) mp)) (hsm:σ' s.m=σ s.m) (hk:C6 k s.es=none) (he:Il σ' st' eb e)
  (hN:∀s',s'∈N->JG σ' st' s') (hnd:(eb::bxL N).Nodup) (hnew:∀x,x∈eb::bxL N->st.nb<=x/\x<st'.nb)
  (htip:∀x,x∈s.b::eb::bxL N->∀id,AW (σ' x)=some id->st.nt<=id/\id<st'.nt/\st'.live id=true)
  (htd:∀x,x∈s.b::eb::bxL N->∀y,y∈s.b::eb::bxL N->x≠y->∀id,AW (σ' x)=some id->AW (σ' y)≠some id):
  HP σ' st' (A++((⟨s.b,s.m,s.hd,s.d,s.es++[(k,eb,e)]⟩::(R++N))++B)):=by
 obtain⟨n1,n2,n3⟩:=Hc h.nd
 have hin:∀{x},x∈bxL (s::R)->x∈bxL (A++((s::R)++B)):=fun hx=>by rw[Ax,Ax];exact List.mem_append_right _ (List.mem_append_left _ hx)
 have hsR:s∈A++((s::R)++B):=List.mem_append_right _ (List.mem_append_left _ (.head _))
 have hsb:s.b∈bxL (s::R):=by rw[AN];exact List.mem_append_left _ (.head _)
 have hsmm:s.m∈bxL (s::R):=by rw[AN];exact List.mem_append_left _ (.tail _ (.head _))
 have hS:=h.sh s hsR
 rw[AN]at n2
 obtain⟨m1,m2,m3⟩:=List.nodup_append.1 n2
 have hbm:s.m≠s.b:=fun e=>by
  have:=hS.cell;obtain⟨mp,h1,_⟩:=hS.mp;rw[e,this]at h1;cases h1
 have eE:bxL (⟨s.b,s.m,s.hd,s.d,s.es++[(k,eb,e)]⟩::(R++N))=(s.b::s.m::(s.es.map (fun x=>x.2.1)++[eb]))++(bxL R++bxL N):=by
  rw[AN,Ax]
  show(s.b::s.m::(s.es++[(k,eb,e)]).map (fun x=>x.2.1))++_=_
  rw[List.map_append];rfl
 have mem':∀{x},x∈bxL (⟨s.b,s.m,s.hd,s.d,s.es++[(k,eb,e)]⟩::(R++N))->x∈bxL (s::R)∨x∈eb::bxL N:=fun {x} hx=>by
  rw[eE]at hx
  rw[AN]
  rcases List.mem_append.1 hx with h1 | h1
  ·rcases List.mem_cons.1 h1 with rfl | h1
   ·exact .inl (List.mem_append_left _ (.head _))
   ·rcases List.mem_cons.1 h1 with rfl | h1
    ·exact .inl (List.mem_append_left _ (.tail _ (.head _)))
    ·rcases List.mem_append.1 h1 with h2 | h2
     ·exact .inl (List.mem_append_left _ (.tail _ (.tail _ h2)))
     ·rw[List.mem_singleton.1 h2];exact .inr (.head _)
  ·rcases List.mem_append.1 h1 with h2 | h2
   ·exact .inl (List.mem_append_right _ h2)
   ·exact .inr (.tail _ h2)
 have old:∀{x},x∈bxL (s::R)->x≠s.b->σ' x=σ x:=fun {x} hx hne=>by
  by_cases hxm:x=s.m
  ·rw[hxm];exact hsm
  ·exact(hbx x (hin hx) hne hxm).2
 have hRes:∀s',s'∈R->∀x,x∈bxS s'->st'.box x=st.box x/\σ' x=σ x:=fun s' hs' x hx=>by
  have hxR:x∈bxL R:=A3 hs' hx
  refine hbx x (hin (by rw[AN];exact List.mem_append_right _ hxR)) (fun e=>?_) fun e=>?_
  ·exact m3 s.b (.head _) x hxR e.symm
  ·exact m3 s.m (.tail _ (.head _)) x hxR e.symm
 refine h.upd hnb (fun x hx=>?_) (fun x hx id hid=>?_) (fun s' hs'=>?_) ?_ (fun x hx=>?_) (fun x hx id hid=>?_) fun x hx y hy hne id h1 h2=>?_
 ·have hx':x∈bxL (A++((s::R)++B)):=by
   rw[Ax,Ax];exact hx.elim (fun h=>List.mem_append_left _ h) fun h=>List.mem_append_right _ (List.mem_append_right _ h)
  refine hbx x hx' (fun e=>?_) fun e=>?_
  ·subst e;exact hx.elim (n3 _ hsb).1 (n3 _ hsb).2
  ·subst e;exact hx.elim (n3 _ hsmm).1 (n3 _ hsmm).2
 ·have hx':x∈bxL (A++((s::R)++B)):=by
   rw[Ax,Ax];exact hx.elim (fun h=>List.mem_append_left _ h) fun h=>List.mem_append_right _ (List.mem_append_right _ h)
  exact hlv x hx' (fun e=>by subst e;exact hx.elim (n3 _ hsb).1 (n3 _ hsb).2) id hid
 ·rcases List.mem_cons.1 hs' with rfl | hs'
  ·refine⟨hc,hr,?_,fun x hx=>?_⟩
   ·obtain⟨mp,h1,h2⟩:=hm
    obtain⟨mp2,h3,h4⟩:=hS.mp
    rw[h3]at h1;cases h1
    refine⟨_,h2,fun k2=>?_⟩
    rw[GN,h4 k2,Km]
    by_cases hkk:k2=k
    ·subst hkk;rw[if_pos rfl,hk,if_pos rfl];rfl
    ·rw[if_neg hkk,if_neg hkk]
     cases C6 k2 s.es<;>rfl
   ·rcases List.mem_append.1 hx with h1 | h1
    ·have hxb:x.2.1∈s.es.map fun x=>x.2.1:=List.mem_map.2 ⟨x,h1,rfl⟩
     have hxn:x.2.1≠s.b:=fun e=>by
      have:=(List.nodup_cons.1 m1).1
      exact this (.tail _ (e▸hxb))
     have hxm:x.2.1≠s.m:=fun e=>by
      have:=(List.nodup_cons.1 (List.nodup_cons.1 m1).2).1
      exact this (e▸hxb)
     have:=hbx x.2.1 (A3 hsR (Dt h1)) hxn hxm
     exact(hS.en x h1).fr this.1 this.2
    ·rw[List.mem_singleton.1 h1];exact he
  ·rcases List.mem_append.1 hs' with h1 | h1
   ·exact(h.sh s' (List.mem_append_right _ (List.mem_append_left _ (.tail _ h1)))).fr (hRes s' h1)
   ·exact hN s' h1
 ·have hlt:∀{x},x∈bxS s++bxL R->x<st.nb:=fun hx=>h.lt _ (hin (by rw[AN];exact hx))
  obtain⟨q1,q2⟩:=List.nodup_cons.1 hnd
  have e2:bxS s=s.b::s.m::s.es.map fun x=>x.2.1:=rfl
  rw[eE]
  refine List.nodup_append.2 ⟨?_,List.nodup_append.2 ⟨m2,q2,fun x hx y hy e=>?_⟩,fun x hx y hy e=>?_⟩
  ·have e3:s.b::s.m::(s.es.map (fun x=>x.2.1)++[eb])=bxS s++[eb]:=rfl
   rw[e3]
   refine List.nodup_append.2 ⟨m1,by simp,fun x hx y hy e=>?_⟩
   rw[List.mem_singleton.1 hy]at e
   have h1:=hlt (List.mem_append_left _ hx)
   have h2:=(hnew eb (.head _)).1
   omega
  ·have h1:=hlt (List.mem_append_right _ hx)
   have h2:=(hnew y (.tail _ hy)).1
   omega
  ·have e3:s.b::s.m::(s.es.map (fun x=>x.2.1)++[eb])=bxS s++[eb]:=rfl
   rw[e3]at hx
   subst e
   rcases List.mem_append.1 hx with h1 | h1
   ·rcases List.mem_append.1 hy with h2 | h2
    ·exact m3 x h1 x h2 rfl
    ·have h3:=hlt (List.mem_append_left _ h1)
     have h4:=(hnew x (.tail _ h2)).1
     omega
   ·have h5:=List.mem_singleton.1 h1
    subst h5
    rcases List.mem_append.1 hy with h2 | h2
    ·have h3:=hlt (List.mem_append_right _ h2)
     have h4:=(hnew x (.head _)).1
     omega
    ·exact q1 h2
 ·rcases mem' hx with h1 | h1
  ·exact⟨Nat.lt_of_lt_of_le (h.lt x (hin h1)) hnb,.inl h1⟩
  ·exact⟨(hnew x h1).2,.inr (hnew x h1).1⟩
 ·rcases mem' hx with h1 | h1
  ·by_cases hxb:x=s.b
   ·subst hxb
    have:=htip _ (.head _) id hid
    exact⟨this.2.1,this.2.2,.inr this.1⟩
   ·rw[old h1 hxb]at hid
    have:=hlv x (hin h1) hxb id hid
    exact⟨this.1,this.2,.inl ⟨x,h1,hid⟩⟩
  ·have:=htip x (.tail _ h1) id hid
   exact⟨this.2.1,this.2.2,.inr this.1⟩
 ·have cl:∀{x},x∈bxL (s::R)∨x∈eb::bxL N->(x∈s.b::eb::bxL N)∨(x∈bxL (s::R)/\x≠s.b):=fun {x} hx=>by
   rcases hx with h3 | h3
   ·by_cases hxb:x=s.b
    ·rw[hxb];exact .inl (.head _)
    ·exact .inr ⟨h3,hxb⟩
   ·exact .inl (.tail _ h3)
  rcases cl (mem' hx)with h3 | ⟨h3,h3'⟩<;>rcases cl (mem' hy)with h4 | ⟨h4,h4'⟩
  ·exact htd x h3 y h4 hne id h1 h2
  ·have g1:=(htip x h3 id h1).1
   rw[old h4 h4']at h2
   have g2:=(h.tip y (hin h4) id h2).1
   omega
  ·have g1:=(htip y h4 id h2).1
   rw[old h3 h3']at h1
   have g2:=(h.tip x (hin h3) id h1).1
   omega
  ·rw[old h3 h3']at h1
   rw[old h4 h4']at h2
   exact h.td x (hin h3) y (hin h4) hne id h1 h2
end Go.TVF
section
namespace Go.TVF
open Go.IntKind(i64 u8)
structure Chg (v v' u u':Vl) (g:Nat):Prop where
 cnt:v'.cnt+u.cnt=v.cnt+u'.cnt
 sz:v'.sz+u.sz=v.sz+u'.sz
 lv:lvV v'<=max (lvV v) (g+lvV u')
 lvu:g+lvV u<=lvV v
 vu:AK v->AK u
 va:AK v->AK u'->AK v'
theorem Chg.refl (u u':Vl):Chg u u' u u' 0:=⟨by omega,by omega,by omega,by omega,id,fun _ h=>h⟩
theorem Chg.trans {v v' w w' u u':Vl} {g h:Nat} (a:Chg v v' w w' g) (b:Chg w w' u u' h):Chg v v' u u' (g+h):=
 ⟨by have:=a.cnt;have:=b.cnt;omega,by have:=a.sz;have:=b.sz;omega,by have:=a.lv;have:=b.lv;have:=a.lvu;omega,by have:=a.lvu;have:=b.lvu;omega,fun x=>b.vu (a.vu x),fun x y=>a.va x (b.va (a.vu x) y)⟩
theorem I8 (l m:List Fd):Du (l++m)=max (Du l) (Du m):=by
 induction l with
 | nil=>simp[Du]
 | cons d r ih=>simp only[List.cons_append,Du,ih];omega
theorem I7 (l m:List Vl):DP (l++m)=max (DP l) (DP m):=by
 induction l with
 | nil=>simp[DP]
 | cons d r ih=>simp only[List.cons_append,DP,ih];omega
theorem DK (l m:List Fd):Bz (l++m)↔Bz l/\Bz m:=by
 induction l with
 | nil=>simp[Bz]
 | cons d r ih=>simp only[List.cons_append,Bz,ih,and_assoc]
theorem EY (l m:List Vl):By (l++m)↔By l/\By m:=by
 induction l with
 | nil=>simp[By]
 | cons d r ih=>simp only[List.cons_append,By,ih,and_assoc]
theorem Kt:∀(f f':List Fd) (seen:List B8),f.map Fd.key=f'.map Fd.key->Ck seen f=Ck seen f'
 | [],[],_,_=>rfl
 | [],d::r,_,h=>by simp at h
 | d::r,[],_,h=>by simp at h
 | d::r,d'::r',seen,h=>by
  rw[List.map_cons,List.map_cons,List.cons.injEq]at h
  unfold Ck
  rw[h.1,Kt r r' _ h.2]
theorem Mj {f f':List Fd} (h:KQ scM [] f) (hk:Ck [] f'=0):KQ scM [] f':=
 ⟨⟨h.own.k0,h.own.k7,h.own.bo,h.own.nu,h.own.ti,h.own.tx,h.own.by_,h.own.ls,fun h=>absurd rfl h⟩,h.dec,h.time,h.text,h.tlen,h.blen,hk⟩
theorem PE {l l':List Vl} (h:KQ scL l []):KQ scL l' []:=
 ⟨⟨h.own.k0,h.own.k7,h.own.bo,h.own.nu,h.own.ti,h.own.tx,h.own.by_,fun h=>absurd rfl h,h.own.fs⟩,h.dec,h.time,h.text,h.tlen,h.blen,h.keys⟩
theorem Chg.fld (F G:List Fd) (k:B8) (u u':Vl):Chg (.mk scM [] (F++ .mk k u::G)) (.mk scM [] (F++ .mk k u'::G)) u u' 1:=by
 refine⟨?_,?_,?_,?_,fun h=>?_,fun h g=>?_⟩
 ·simp only[Vl.cnt,DE,AA,Fd.cnt];omega
 ·simp only[Vl.sz,Hf,Bt,Fd.sz];omega
 ·simp only[lvV,I8,Du,lvD];omega
 ·simp only[lvV,I8,Du,lvD];omega
 ·unfold AK at h
  have:=((DK _ _).1 h.2.2).2
  unfold Bz Fo at this
  exact this.1
 ·unfold AK at h⊢
  obtain⟨h1,h2,h3⟩:=h
  obtain⟨h4,h5⟩:=(DK _ _).1 h3
  refine⟨Mj h1 ?_,h2,(DK _ _).2 ⟨h4,?_⟩⟩
  ·rw[<-h1.keys];exact Kt _ _ _ (by simp[Fd.key])
  ·unfold Bz Fo at h5⊢;exact⟨g,h5.2⟩
theorem Chg.lst (A B:List Vl) (u u':Vl):Chg (.mk scL (A++u::B) []) (.mk scL (A++u'::B) []) u u' 1:=by
 refine⟨?_,?_,?_,?_,fun h=>?_,fun h g=>?_⟩
 ·simp only[Vl.cnt,CK,Av];omega
 ·simp only[Vl.sz,GS,Br];omega
 ·simp only[lvV,I7,DP];omega
 ·simp only[lvV,I7,DP];omega
 ·unfold AK at h
  have:=((EY _ _).1 h.2.1).2
  unfold By at this
  exact this.1
 ·unfold AK at h⊢
  obtain⟨h1,h2,h3⟩:=h
  obtain⟨h4,h5⟩:=(EY _ _).1 h2
  refine⟨PE h1,(EY _ _).2 ⟨h4,?_⟩,h3⟩
  unfold By at h5⊢;exact⟨g,h5.2⟩
theorem CO {k:B8}:∀{es:List Kn} {eb:Nat} {e:En},Ag k es=some (eb,e)->∃F G,AG es=F++ .mk k (AI e)::G/\∀x,AG (Bs k x es)=F++ .mk k (AI x)::G
 | .mk k' eb' e'::r,eb,e,h=>by
  unfold Ag at h
  by_cases hk:k=k'
  ·rw[if_pos hk]at h
   cases h
   subst hk
   exact⟨[],AG r,by rw[AG,List.nil_append],fun x=>by rw[Bs,if_pos rfl,AG,List.nil_append]⟩
  ·rw[if_neg hk]at h
   obtain⟨F,G,h1,h2⟩:=CO h
   exact⟨.mk k' (AI e')::F,G,by rw[AG,h1];rfl,fun x=>by rw[Bs,if_neg hk,AG,h2 x];rfl⟩
theorem Kw:∀{l:List Tb} {i:Nat} {u:Tb},l[i]? =some u->∃A B,A7 l=A++Ae u::B/\∀x,A7 (l.set i x)=A++Ae x::B
 | t::r,0,u,h=>by cases h;exact⟨[],A7 r,by rw[A7,List.nil_append],fun x=>by rw[List.set_cons_zero,A7,List.nil_append]⟩
 | t::r,i+1,u,h=>by
  obtain⟨A,B,h1,h2⟩:=Kw (l:=r) (i:=i) (u:=u) (by simpa using h)
  exact⟨Ae t::A,B,by rw[A7,h1];rfl,fun x=>by rw[List.set_cons_succ,A7,h2 x];rfl⟩
theorem CE:∀(h:List Hop) {T t:Tb},atT T h=some t->∀t',Chg (Ae T) (Ae (AD T h t')) (Ae t) (Ae t') (dpH h)
 | [],T,t,hA,t'=>by cases T;cases hA;exact Chg.refl _ _
 | (k,none)::h,.mk b m hd es,t,hA,t'=>by
  rw[atT]at hA
  rcases hl:Ag k es with _ | ⟨eb,u | l | ⟨v,i⟩⟩<;>rw[hl]at hA<;>simp only at hA<;>try (cases hA;done)
  obtain⟨F,G,h1,h2⟩:=CO hl
  have:=(Chg.fld F G k (Ae u) (Ae (AD u h t'))).trans (CE h hA t')
  rw[AD,hl]
  simp only
  rw[Ae,Ae,h1,h2,AI,AI,dpH,Nat.add_comm]
  exact this
 | (k,some j)::h,.mk b m hd es,t,hA,t'=>by
  rw[atT]at hA
  rcases hl:Ag k es with _ | ⟨eb,u | l | ⟨v,i⟩⟩<;>rw[hl]at hA<;>simp only at hA<;>try (cases hA;done)
  cases hj:l[j]? with
  | none=>simp[hj]at hA
  | some u=>
  rw[hj]at hA
  simp only at hA
  obtain⟨F,G,h1,h2⟩:=CO hl
  obtain⟨A,B,h3,h4⟩:=Kw hj
  have:=((Chg.fld F G k (.mk scL (A++Ae u::B) []) (.mk scL (A++Ae (AD u h t')::B) [])).trans (Chg.lst A B _ _)).trans (CE h hA t')
  rw[AD,hl]
  simp only[hj]
  rw[Ae,Ae,h1,h2,AI,AI,h3,h4,dpH,show dpH h+2=1+1+dpH h by omega]
  exact this
theorem Ej (t:Tb):Ae t= .mk scM [] (AG t.es):=by cases t;rw[Ae];rfl
theorem GW (t:Tb) (k:B8) (eb:Nat) (e:En):Ae (AV t k eb e)= .mk scM [] (AG t.es++[.mk k (AI e)]):=by
 unfold AV
 rw[Ae,Hs,AG,AG]
theorem Iw (t:Tb) (k:B8) (eb:Nat) (e:En):(Ae (AV t k eb e)).cnt=(Ae t).cnt+(AI e).cnt:=by
 rw[GW,Ej t]
 simp only[Vl.cnt,DE,AA,Fd.cnt];omega
theorem Ps (t:Tb) (k:B8) (eb:Nat) (e:En):(Ae (AV t k eb e)).sz=(Ae t).sz+k.length+(AI e).sz:=by
 rw[GW,Ej t]
 simp only[Vl.sz,Hf,Bt,Fd.sz];omega
theorem Nx (t:Tb) (k:B8) (eb:Nat) (e:En):lvV (Ae (AV t k eb e))=max (lvV (Ae t)) (1+lvV (AI e)):=by
 rw[GW,Ej t]
 simp only[lvV,I8,Du,lvD];omega
theorem PX (es:List Kn):(AG es).map Fd.key=es.map Kn.key:=by
 rw[FY,List.map_map];rfl
theorem Kb {t:Tb} {k:B8} {eb:Nat} {e:En} (h:AK (Ae t)) (hl:Ag k t.es=none) (h8:U8 k) (hk:k.length<=1024) (he:AK (AI e)):AK (Ae (AV t k eb e)):=by
 rw[Ej]at h
 rw[GW]
 unfold AK at h⊢
 obtain⟨h1,h2,h3⟩:=h
 obtain⟨k1,k2⟩:=Mu _ _ h1.keys
 refine⟨Mj h1 (Mt _ _ ?_ fun d hd=>?_),h2,(DK _ _).2 ⟨h3,?_⟩⟩
 ·unfold JI at k1⊢
  rw[List.map_append]
  refine List.nodup_append.2 ⟨k1,by simp,fun x hx y hy e=>?_⟩
  rw[PX]at hx
  obtain⟨d,hd,rfl⟩:=List.mem_map.1 hx
  simp only[List.map_cons,List.map_nil,List.mem_singleton]at hy
  subst hy
  exact GI hl d hd e
 ·rcases List.mem_append.1 hd with h4 | h4
  ·exact k2 d h4
  ·rw[List.mem_singleton.1 h4];exact⟨by simp,h8,hk⟩
 ·unfold Bz Fo Bz;exact⟨he,trivial⟩
theorem Lj (t:Tb):t.es.length<(Ae t).cnt:=by
 rw[Ej]
 have:∀es:List Kn,es.length<=AA (AG es):=by
  intro es
  induction es with
  | nil=>simp
  | cons d r ih=>
   obtain⟨k,eb,e⟩:=d
   rw[AG,AA,Fd.cnt,List.length_cons]
   have:1<=(AI e).cnt:=by cases AI e;unfold Vl.cnt;omega
   omega
 have:=this t.es
 unfold Vl.cnt
 omega
theorem OF {T t:Tb} {h:List Hop} (hA:atT T h=some t):(Ae t).cnt<=(Ae T).cnt/\(Ae t).sz<=(Ae T).sz:=by
 have:=CE h hA (.mk 0 0 false [])
 have h1:=this.cnt
 have h2:=this.sz
 have h3:(Ae (.mk 0 0 false [])).cnt=1:=by rw[Ae,AG];simp[Vl.cnt,Av,AA]
 have h4:(Ae (.mk 0 0 false [])).sz=1:=by rw[Ae,AG];simp[Vl.sz,Br,Bt,scM]
 have h5:1<=(Ae (AD T h (.mk 0 0 false []))).cnt:=by cases Ae (AD T h (.mk 0 0 false []));unfold Vl.cnt;omega
 have h6:=(Ae (AD T h (.mk 0 0 false []))).sz_pos
 omega
end Go.TVF
end
namespace Go.TVF
open Go.IntKind(i64 u8)
open Go Go.Proofs
theorem Lg {a b:Nat} (h:a≠b):Nat.beq a b=false:=by rw[Bool.eq_false_iff];exact fun e=>h (Nat.eq_of_beq_eq_true e)
theorem CT (k k':Nat) (v:TV):∀es:List (Nat×TV),Bc k (Dp k' v es)=if k=k' then some v else Bc k es
 | []=>by
  unfold Dp Bc
  by_cases h:k=k'
  ·subst h;simp[Bc]
  ·have:Nat.beq k k'=false:=Lg (h)
   rw[this,if_neg h];rfl
 | (k2,v2)::es=>by
  unfold Dp
  by_cases h2:k'=k2
  ·subst h2
   rw[Nat.beq_refl]
   by_cases h:k=k'
   ·subst h;simp[Bc]
   ·have:Nat.beq k k'=false:=Lg (h)
    simp only[Bc,this,if_neg h]
  ·have e:Nat.beq k' k2=false:=Lg (h2)
   rw[e]
   simp only[Bc]
   by_cases h:k=k2
   ·subst h;rw[Nat.beq_refl,if_neg (fun g=>h2 g.symm)]
   ·have:Nat.beq k k2=false:=Lg (h)
    rw[this]
    simp only
    exact CT k k' v es
theorem G3 (k:Nat) (v:TV):∀es:List (Nat×TV),∀p,p∈Dp k v es->p=(k,v)∨p∈es
 | [],p,h=> .inl (List.mem_singleton.1 h)
 | (k2,v2)::es,p,h=>by
  unfold Dp at h
  cases hb:Nat.beq k k2 with
  | true=>
   rw[hb]at h
   rcases List.mem_cons.1 h with rfl | h
   ·exact .inl rfl
   ·exact .inr (.tail _ h)
  | false=>
   rw[hb]at h
   rcases List.mem_cons.1 h with rfl | h
   ·exact .inr (.head _)
   ·exact(G3 k v es p h).imp id (.tail _)
theorem F0 (k:Nat) (v:TV):∀es:List (Nat×TV),(∀p,p∈es->p.1≠k)->(Dp k v es).map Prod.fst=es.map Prod.fst++[k]
 | [],_=>rfl
 | (k2,v2)::es,h=>by
  have h2:=h (k2,v2) (.head _)
  have e:Nat.beq k k2=false:=Lg (Ne.symm h2)
  unfold Dp
  rw[e]
  simp only[List.map_cons,List.cons_append]
  rw[F0 k v es fun p hp=>h p (.tail _ hp)]
theorem Js (k:Nat):∀es:List (Nat×TV),∀p,p∈Fh k es->p∈es
 | [],p,h=>by cases h
 | (k2,v2)::es,p,h=>by
  unfold Fh at h
  cases hb:Nat.beq k k2 with
  | true=>rw[hb]at h;exact .tail _ h
  | false=>
   rw[hb]at h
   rcases List.mem_cons.1 h with rfl | h
   ·exact .head _
   ·exact .tail _ (Js k es p h)
theorem Oz (k:Nat):∀es:List (Nat×TV),(es.map Prod.fst).Nodup->((Fh k es).map Prod.fst).Nodup
 | [],_=>List.nodup_nil
 | (k2,v2)::es,h=>by
  rw[List.map_cons,List.nodup_cons]at h
  unfold Fh
  cases hb:Nat.beq k k2 with
  | true=>exact h.2
  | false=>
   simp only[List.map_cons,List.nodup_cons]
   refine⟨fun hm=>?_,Oz k es h.2⟩
   obtain⟨p,hp,he⟩:=List.mem_map.1 hm
   exact h.1 (List.mem_map.2 ⟨p,Js k es p hp,he⟩)
theorem Jl {k:Nat}:∀{es:List (Nat×TV)},k∉es.map Prod.fst->Bc k es=none
 | [],_=>rfl
 | (k2,v2)::es,h=>by
  rw[List.map_cons,List.mem_cons,not_or]at h
  have:Nat.beq k k2=false:=Lg (h.1)
  simp only[Bc,this]
  exact Jl h.2
theorem HN (k k':Nat):∀es:List (Nat×TV),(es.map Prod.fst).Nodup->Bc k (Fh k' es)=if k=k' then none else Bc k es
 | [],_=>by unfold Fh Bc;split<;>rfl
 | (k2,v2)::es,h=>by
  rw[List.map_cons,List.nodup_cons]at h
  unfold Fh
  by_cases h2:k'=k2
  ·subst h2
   rw[Nat.beq_refl]
   by_cases hk:k=k'
   ·subst hk;rw[if_pos rfl];exact Jl h.1
   ·have:Nat.beq k k'=false:=Lg (hk)
    simp only[Bc,this,if_neg hk]
  ·have e:Nat.beq k' k2=false:=Lg (h2)
   rw[e]
   simp only[Bc]
   by_cases hk:k=k2
   ·subst hk;rw[Nat.beq_refl,if_neg (fun g=>h2 g.symm)]
   ·have:Nat.beq k k2=false:=Lg (hk)
    rw[this]
    simp only
    exact HN k k' es h.2
structure Un (ub:Nat) (L:List Sh) (st:St) (up:List (Nat×TV)):Prop where
 box:st.box ub= .pmap up
 nd:(up.map Prod.fst).Nodup
 ok:∀p,p∈up->Ai st p.1=true/\p.1<st.nb
 fd:∀s,s∈L->Bc s.b up=if s.hd=true then none else some (.bool true)
structure BH (bb ub:Nat) (now:TV) (T:Tb) (nodes:Nat) (σ:Nat->TV) (st:St):Prop where
 hp:HP σ st (shT 1 T)
 cell:st.box bb= .cells [.box T.b 0,now,.map ub,.int .i64 nodes]
 un:∃up,Un ub (shT 1 T) st up
 bl:bb<st.nb
 ul:ub<st.nb
 bx:bb∉bxL (shT 1 T)
 ux:ub∉bxL (shT 1 T)
theorem Oh {A R N B:List Sh} {s s':Sh} {eb:Nat} (hs:bxS s'=bxS s++[eb]) {x:Nat} (h:x∈bxL (A++((s'::(R++N))++B))):x∈bxL (A++((s::R)++B))∨x=eb∨x∈bxL N:=by
 simp only[Ax,AN,List.mem_append,hs,List.mem_singleton]at h⊢
 rcases h with h | (((h | h) | h | h) | h)
 ·exact .inl (.inl h)
 ·exact .inl (.inr (.inl (.inl h)))
 ·exact .inr (.inl h)
 ·exact .inl (.inr (.inl (.inr h)))
 ·exact .inr (.inr h)
 ·exact .inl (.inr (.inr h))
theorem Mi {bb ub:Nat} {now:TV} {T t:Tb} {nodes:Nat} {σ:Nat->TV} {st:St} {h:List Hop} {k:B8} (H:BH bb ub now T nodes σ st) (hA:atT T h=some t) (hl:Ag k t.es=none) (hn:nodes<900000) (hcn:(Ae T).cnt=nodes)
  {K:TV->St->St->Prop}
  (hk:∀nu σ' st2 st',nu.eb=st2.nb->BH bb ub now (AD T h (AV t k nu.eb (.opn (AF nu false)))) (nodes+1) σ' st'->K (.box nu.b 0) st2 st'):
  CallT PR Au [.box bb 0,.int .i64 ((1+dpH h+1:Nat):Int)] [.one .tv] st fun v st2=>need (List.all [v] Aq)
   (CallT PR AB [.box t.b 0,.str k,.box st2.nb 0] [] (st2.push (.cells (v:: .nilSlice::(z13++[.int .i64 0]))) (some 81)) fun st3=>K v st2 st3):=by
 obtain⟨A,B,e1,e2⟩:=Gk h hA 1
 rw[Dm (1+dpH h) t]at e1
 have hp:=H.hp
 rw[e1]at hp
 obtain⟨up,hup⟩:=H.un
 have ht':=e2 (AV t k (st.nb+2) (.opn (AF ⟨st.nb+1,st.nb,st.nb+2⟩ false))) rfl
 rw[K3]at ht'
 have hS:=hp.sh _ (List.mem_append_right A (List.mem_append_left B (List.mem_cons_self ..)))
 have hin:∀{x},x∈bxS ⟨t.b,t.m,t.hd,1+dpH h,t.es.map shK⟩->x∈bxL (A++((⟨t.b,t.m,t.hd,1+dpH h,t.es.map shK⟩::Bi (1+dpH h) t.es)++B)):=fun hx=>
  A3 (List.mem_append_right A (List.mem_append_left B (List.mem_cons_self ..))) hx
 have itb:=hin (x:=t.b) (.head _)
 have itm:=hin (x:=t.m) (.tail _ (.head _))
 have ltb:t.b<st.nb:=hp.lt _ itb
 have ltm:t.m<st.nb:=hp.lt _ itm
 have bx:=H.bx
 have ux:=H.ux
 rw[e1]at bx ux
 have nb1:t.b≠bb:=fun e=>bx (e▸itb)
 have nb2:t.b≠ub:=fun e=>ux (e▸itb)
 have nm1:t.m≠bb:=fun e=>bx (e▸itm)
 have nm2:t.m≠ub:=fun e=>ux (e▸itm)
 have hbl:=H.bl
 have hul:=H.ul
 have hbu:bb≠ub:=fun e=>by have:=H.cell;rw[e,hup.box]at this;cases this
 obtain⟨mp,hm1,hm2⟩:=hS.mp
 have hmt:t.m≠t.b:=fun e=>by have:=hS.cell;simp only at this hm1;rw[e,this]at hm1;cases hm1
 refine Gg H.cell hup.box hbl hul hup.ok ⟨by omega,by omega⟩ fun st1 hnb hbox hnt hlive=>Aa rfl ?_
 have k1:∀x,x<st.nb->x≠bb->x≠ub->st1.box x=st.box x:=fun x h1 h2 h3=>by
  rw[hbox];simp only;rw[if_neg h2,if_neg h3,if_neg (by omega),if_neg (by omega)]
 have hlen:(t.es.map shK).length<=1000000:=by
  rw[List.length_map];have:=Lj t;have:=(OF hA).1;omega
 refine K0 (kv:=σ t.b) (d:=1+dpH h) (m:=t.m) (ks:=(t.es.map shK).map fun x=>x.1) (es:=mp) ?_ ?_ hS.row ?_ (by rw[List.length_map];exact hlen) fun kv' st' r1 r2 r3 r4 r5 r6 r7 r8=>?_
 ·show(if t.b=st1.nb then _ else st1.box t.b)=_
  rw[if_neg (by omega),k1 _ ltb nb1 nb2];exact hS.cell
 ·show(if t.m=st1.nb then _ else st1.box t.m)=_
  rw[if_neg (by omega),k1 _ ltm nm1 nm2];exact hm1
 ·intro id hid
  obtain⟨q1,q2⟩:=hp.tip t.b itb id hid
  show id<st1.nt/\st1.live id=true
  rw[hnt,hlive];exact⟨q1,q2⟩
 have bx':∀x,st'.box x=if x=t.m then .map (Ek k (.box (st.nb+2) 0) mp)else if x=t.b then .cells [kv',.map t.m,.int .i64 ((1+dpH h:Nat):Int)]else if x=st.nb+2 then .cells (.box (st.nb+1) 0:: .nilSlice::(z13++[.int .i64 0]))else st1.box x:=fun x=>by
  rw[r3];simp only[St.push,hnb]
 have nb':st'.nb=st.nb+3:=by rw[r4];simp only[St.push,hnb]
 have nt':st'.nt=st.nt+1:=by rw[r6];simp only[St.push,hnt]
 have lv':∀i,i<st.nt->AW (σ t.b)≠some i->st'.live i=st.live i:=fun i h1 h2=>by
  rw[r8 i (by simp only[St.push,hnt];exact h1) h2];simp only[St.push,hlive]
 have tip':AW kv'=some st.nt/\st'.live st.nt=true:=by
  simp only[St.push,hnt]at r2 r7;exact⟨r2,r7⟩
 have k2:∀x,x<st.nb->x≠bb->x≠ub->x≠t.b->x≠t.m->st'.box x=st.box x:=fun x h1 h2 h3 h4 h5=>by
  rw[bx',if_neg h5,if_neg h4,if_neg (by omega),k1 x h1 h2 h3]
 have kbb:st'.box bb= .cells [.box T.b 0,now,.map ub,.int .i64 ((nodes:Int)+1)]:=by
  rw[bx',if_neg (Ne.symm nm1),if_neg (Ne.symm nb1),if_neg (by omega),hbox];simp only;rw[if_pos trivial]
 have kub:st'.box ub= .pmap (Dp (st.nb+1) (.bool true) up):=by
  rw[bx',if_neg (Ne.symm nm2),if_neg (Ne.symm nb2),if_neg (by omega),hbox];simp only;rw[if_neg (Ne.symm hbu),if_pos trivial]
 have kb1:st'.box (st.nb+1)= .cells [.nilSlice,.map st.nb,.int .i64 ((1+dpH h+1:Nat):Int)]:=by
  rw[bx',if_neg (by omega),if_neg (by omega),if_neg (by omega),hbox];simp only;rw[if_neg (by omega),if_neg (by omega),if_pos trivial]
 have kb0:st'.box st.nb= .map []:=by
  rw[bx',if_neg (by omega),if_neg (by omega),if_neg (by omega),hbox];simp only;rw[if_neg (by omega),if_neg (by omega),if_neg (by omega),if_pos trivial]
 have kb2:st'.box (st.nb+2)= .cells (.box (st.nb+1) 0:: .nilSlice::(z13++[.int .i64 0])):=by
  rw[bx',if_neg (by omega),if_neg (by omega),if_pos rfl]
 have eN:AT (1+dpH h) (.opn (AF ⟨st.nb+1,st.nb,st.nb+2⟩ false))=[⟨st.nb+1,st.nb,false,1+dpH h+1,[]⟩]:=by
  rw[AT,AF,shT,Bi];rfl
 rw[eN]at ht'
 have bN:bxL [⟨st.nb+1,st.nb,false,1+dpH h+1,[]⟩]=[st.nb+1,st.nb]:=rfl
 let σ':Nat->TV:=fun x=>if x=t.b then kv' else if x<st.nb then σ x else .nilSlice
 have s1:σ' t.b=kv':=if_pos rfl
 have s2:∀x,x<st.nb->x≠t.b->σ' x=σ x:=fun x h1 h2=>by simp only[σ'];rw[if_neg h2,if_pos h1]
 have s3:∀x,st.nb<=x->σ' x= .nilSlice:=fun x h1=>by simp only[σ'];rw[if_neg (by omega),if_neg (by omega)]
 have HP':HP σ' st' (A++((⟨t.b,t.m,t.hd,1+dpH h,t.es.map shK++[(k,st.nb+2,.opn (st.nb+1))]⟩::(Bi (1+dpH h) t.es++[⟨st.nb+1,st.nb,false,1+dpH h+1,[]⟩]))++B)):=by
  refine HP.add hp (by omega) (fun x hx h2 h3=>?_) (fun x hx hne id hid=>?_) ?_ ?_ ⟨mp,hm1,?_⟩ (s2 _ ltm hmt) ?_ ⟨kb2,by rw[s3 _ (by omega)];rfl⟩ (fun s' hs'=>?_) ?_ (fun x hx=>?_) (fun x hx id hid=>?_) fun x hx y hy hne id g1 g2=>?_
  ·exact⟨k2 x (hp.lt x hx) (fun e=>bx (e▸hx)) (fun e=>ux (e▸hx)) h2 h3,s2 x (hp.lt x hx) h2⟩
  ·have hq:=hp.tip x hx id hid
   refine⟨by omega,?_⟩
   rw[lv' id hq.1 fun e=>hp.td x hx t.b itb hne id hid e]
   exact hq.2
  ·rw[s1,bx',if_neg (Ne.symm hmt),if_pos rfl]
  ·rw[s1];simp only[List.map_append]at r1⊢;exact r1
  ·rw[bx',if_pos rfl]
  ·rw[EL,hl];rfl
  ·rw[List.mem_singleton.1 hs']
   have s4:σ' (st.nb+1)= .nilSlice:=s3 _ (by omega)
   exact⟨by show st'.box (st.nb+1)= .cells [σ' (st.nb+1),_,_];rw[s4];exact kb1,by show B7 (σ' (st.nb+1)) _;rw[s4];exact B7.nil,⟨[],kb0,fun _=>rfl⟩,fun x hx=>by cases hx⟩
  ·rw[bN];simp
  ·rw[bN]at hx
   rcases List.mem_cons.1 hx with rfl | hx
   ·omega
   ·rcases List.mem_cons.1 hx with rfl | hx
    ·omega
    ·rw[List.mem_singleton.1 hx];omega
  ·by_cases hxb:x=t.b
   ·rw[hxb,s1,tip'.1]at hid
    cases hid
    exact⟨Nat.le_refl _,by omega,tip'.2⟩
   ·rw[s3 x ?_]at hid
    ·cases hid
    ·rw[bN]at hx
     rcases List.mem_cons.1 hx with h1 | hx
     ·exact absurd h1 hxb
     ·rcases List.mem_cons.1 hx with rfl | hx
      ·omega
      ·rcases List.mem_cons.1 hx with rfl | hx
       ·omega
       ·rw[List.mem_singleton.1 hx];exact Nat.le_refl _
  ·have nn:∀{z},z∈t.b::(st.nb+2)::bxL [⟨st.nb+1,st.nb,false,1+dpH h+1,[]⟩]->z≠t.b->st.nb<=z:=fun {z} hz hne=>by
    rw[bN]at hz
    rcases List.mem_cons.1 hz with h1 | hz
    ·exact absurd h1 hne
    ·rcases List.mem_cons.1 hz with rfl | hz
     ·omega
     ·rcases List.mem_cons.1 hz with rfl | hz
      ·omega
      ·rw[List.mem_singleton.1 hz];exact Nat.le_refl _
   by_cases hxb:x=t.b
   ·have:=nn hy (fun e=>hne (hxb.trans e.symm))
    rw[s3 y this]at g2;cases g2
   ·rw[s3 x (nn hx hxb)]at g1;cases g1
 have memb:∀x,x∈bxL (A++((⟨t.b,t.m,t.hd,1+dpH h,t.es.map shK++[(k,st.nb+2,.opn (st.nb+1))]⟩::(Bi (1+dpH h) t.es++[⟨st.nb+1,st.nb,false,1+dpH h+1,[]⟩]))++B))->
   x∈bxL (A++((⟨t.b,t.m,t.hd,1+dpH h,t.es.map shK⟩::Bi (1+dpH h) t.es)++B))∨st.nb<=x:=fun x hx=>by
  rcases Oh (s:=⟨t.b,t.m,t.hd,1+dpH h,t.es.map shK⟩) (eb:=st.nb+2) (by simp[bxS]) hx with h1 | h1 | h1
  ·exact .inl h1
  ·exact .inr (by omega)
  ·rw[bN]at h1
   rcases List.mem_cons.1 h1 with rfl | h1
   ·exact .inr (by omega)
   ·rw[List.mem_singleton.1 h1];exact .inr (Nat.le_refl _)
 have fdo:∀s,s∈A++((⟨t.b,t.m,t.hd,1+dpH h,t.es.map shK⟩::Bi (1+dpH h) t.es)++B)->Bc s.b (Dp (st.nb+1) (.bool true) up)=if s.hd=true then none else some (.bool true):=fun s hs=>by
  have hlt:s.b<st.nb:=hp.lt _ (A3 hs (.head _))
  rw[CT,if_neg (by omega)]
  refine hup.fd s ?_
  rw[e1];exact hs
 refine hk ⟨st.nb+1,st.nb,st.nb+2⟩ σ' st1 st' hnb.symm ⟨by rw[ht'];exact HP',by rw[D6 h (x:=AV t k (st.nb+2) (.opn (AF ⟨st.nb+1,st.nb,st.nb+2⟩ false))) hA rfl,kbb];simp,⟨_,kub,?_,fun p hp'=>?_,fun s hs=>?_⟩,by omega,by omega,fun hx=>?_,fun hx=>?_⟩
 ·rw[F0 _ _ _ fun p hp' e=>by have:=(hup.ok p hp').2;omega]
  refine List.nodup_append.2 ⟨hup.nd,by simp,fun x hx y hy e=>?_⟩
  obtain⟨p,hp',rfl⟩:=List.mem_map.1 hx
  have:=(hup.ok p hp').2
  rw[List.mem_singleton.1 hy]at e
  omega
 ·rcases G3 _ _ _ p hp' with rfl | hp'
  ·exact⟨by simp[Ai,kb1],by show st.nb+1<st'.nb;omega⟩
  ·obtain⟨q1,q2⟩:=hup.ok p hp'
   refine⟨?_,by omega⟩
   by_cases c1:p.1=t.m
   ·have hm1':st.box t.m= .map mp:=hm1
    rw[c1]at q1;simp[Ai,hm1']at q1
   ·by_cases c2:p.1=t.b
    ·rw[c2];simp only[Ai,bx',if_neg (Ne.symm hmt),if_pos trivial]
    ·by_cases c3:p.1=bb
     ·rw[c3];simp[Ai,kbb]
     ·by_cases c4:p.1=ub
      ·rw[c4]at q1;simp[Ai,hup.box]at q1
      ·simp only[Ai,k2 _ q2 c3 c4 c2 c1]at q1⊢;exact q1
 ·rw[ht']at hs
  rcases List.mem_append.1 hs with h1 | h1
  ·exact fdo s (List.mem_append_left _ h1)
  ·rcases List.mem_append.1 h1 with h1 | h1
   ·rcases List.mem_cons.1 h1 with rfl | h1
    ·exact fdo ⟨t.b,t.m,t.hd,1+dpH h,t.es.map shK⟩ (List.mem_append_right _ (List.mem_append_left _ (.head _)))
    ·rcases List.mem_append.1 h1 with h1 | h1
     ·exact fdo s (List.mem_append_right _ (List.mem_append_left _ (.tail _ h1)))
     ·rw[List.mem_singleton.1 h1,CT,if_pos rfl];rfl
   ·exact fdo s (List.mem_append_right _ (List.mem_append_right _ h1))
 ·rw[ht']at hx
  rcases memb bb hx with h1 | h1
  ·exact bx h1
  ·omega
 ·rw[ht']at hx
  rcases memb ub hx with h1 | h1
  ·exact ux h1
  ·omega
section
theorem GL {hd:Bool}:∀(ks:List B8) {nu nu':Nat->Nu} (j:Nat) (T:Tb) (h:List Hop),(∀i,j<=i->i<j+ks.length->nu i=nu' i)->Bm nu hd j T h ks=Bm nu' hd j T h ks
 | [],_,_,_,_,_,_=>rfl
 | k::ks,nu,nu',j,T,h,he=>by
  unfold Bm
  rw[he j (Nat.le_refl _) (by simp only[List.length_cons];omega)]
  cases Dg (nu' j) hd T h k with
  | none=>rfl
  | some p=>exact GL ks (j+1) p.1 p.2 fun i h1 h2=>he i (by omega) (by simp only[List.length_cons];omega)
theorem Ku {nu:Nat->Nu} {hd:Bool}:∀(ks:List B8) (j:Nat) (T:Tb) (h:List Hop) (k:B8),Bm nu hd j T h (ks++[k])=(Bm nu hd j T h ks).bind fun p=>Dg (nu (j+ks.length)) hd p.1 p.2 k
 | [],j,T,h,k=>by
  simp only[List.nil_append,Bm,Option.bind_some,List.length_nil,Nat.add_zero]
  cases Dg (nu j) hd T h k with
  | none=>rfl
  | some p=>rfl
 | a::ks,j,T,h,k=>by
  rw[List.cons_append]
  unfold Bm
  cases Dg (nu j) hd T h a with
  | none=>rfl
  | some p=>
   simp only
   rw[Ku ks (j+1) p.1 p.2 k,List.length_cons,show j+1+ks.length=j+(ks.length+1) by omega]
theorem HJ {nu:Nat->Nu} {hd:Bool}:∀(ks rs:List B8) (j:Nat) (T:Tb) (h:List Hop),Bm nu hd j T h ks=none->Bm nu hd j T h (ks++rs)=none
 | [],rs,j,T,h,hn=>by unfold Bm at hn;cases hn
 | a::ks,rs,j,T,h,hn=>by
  rw[List.cons_append]
  unfold Bm at hn⊢
  cases hh:Dg (nu j) hd T h a with
  | none=>rfl
  | some p=>
   rw[hh]at hn
   exact HJ ks rs (j+1) p.1 p.2 hn
def HX (nu:Nat->Nu) (j:Nat) (x:Nu):Nat->Nu:=fun i=>if i=j then x else nu i
theorem P4 {nu:Nat->Nu} {hd:Bool} {ks:List B8} {T:Tb} {h:List Hop} {x:Nu}:Bm (HX nu ks.length x) hd 0 T h ks=Bm nu hd 0 T h ks:=
 GL ks 0 T h fun i _ h2=>by unfold HX;rw[if_neg (by omega)]
theorem JB {T t:Tb} {h:List Hop} {k:B8} {nu:Nu} {hd:Bool} (hA:atT T h=some t) (hl:Ag k t.es=none):atT (AD T h (AV t k nu.eb (.opn (AF nu hd)))) (h++[(k,none)])=some (AF nu hd):=by
 rw[Fl,Cq h hA]
 show atT (AV t k nu.eb (.opn (AF nu hd))) [(k,none)]=_
 have:=FO (t:=t) (k:=k) (k2:=k) (eb:=nu.eb) (e:= .opn (AF nu hd)) hl
 rw[if_pos rfl]at this
 unfold AV at this⊢
 rw[atT]
 simp only[Tb.es]at this⊢
 rw[this]
 rfl
theorem Lz {T t u:Tb} {h:List Hop} {k:B8} {eb:Nat} (hA:atT T h=some t) (hl:Ag k t.es=some (eb,.opn u)):atT T (h++[(k,none)])=some u:=by
 rw[Fl,hA]
 obtain⟨b,m,hd,es⟩:=t
 show atT (.mk b m hd es) [(k,none)]=_
 rw[atT]
 simp only[Tb.es]at hl
 rw[hl]
 cases u;rfl
theorem HR {T t u:Tb} {h:List Hop} {k:B8} {eb i:Nat} {l:List Tb} (hA:atT T h=some t) (hl:Ag k t.es=some (eb,.lst l)) (hi:l[i]? =some u):atT T (h++[(k,some i)])=some u:=by
 rw[Fl,hA]
 obtain⟨b,m,hd,es⟩:=t
 show atT (.mk b m hd es) [(k,some i)]=_
 rw[atT]
 simp only[Tb.es]at hl
 rw[hl]
 simp only[hi]
 cases u;rfl
section
variable {bb ub:Nat} {now:TV} {T t:Tb} {nodes:Nat} {σ:Nat->TV} {st:St} {h:List Hop}
theorem BH.tab (H:BH bb ub now T nodes σ st) (hA:atT T h=some t):JG σ st ⟨t.b,t.m,t.hd,1+dpH h,t.es.map shK⟩/\(⟨t.b,t.m,t.hd,1+dpH h,t.es.map shK⟩:Sh)∈shT 1 T:=by
 obtain⟨A,B,e1,_⟩:=Gk h hA 1
 rw[Dm (1+dpH h) t]at e1
 have hm:(⟨t.b,t.m,t.hd,1+dpH h,t.es.map shK⟩:Sh)∈shT 1 T:=by
  rw[e1];exact List.mem_append_right A (List.mem_append_left B (List.mem_cons_self ..))
 exact⟨H.hp.sh _ hm,hm⟩
theorem BH.ldm (H:BH bb ub now T nodes σ st) (hA:atT T h=some t) {f:TV->Prop} (hf:f (.map t.m)):Al (Ac st [] (.t (.box t.b 1)) 0) f:=by
 have:=(H.tab hA).1.cell
 refine Ad (x:= .map t.m) ?_ hf
 simp only at this
 simp only[Ac,this]
 rfl
theorem BH.ldd (H:BH bb ub now T nodes σ st) (hA:atT T h=some t) {f:TV->Prop} (hf:f (.int .i64 ((1+dpH h:Nat):Int))):Al (Ac st [] (.t (.box t.b 2)) 0) f:=by
 have:=(H.tab hA).1.cell
 refine Ad (x:= .int .i64 ((1+dpH h:Nat):Int)) ?_ hf
 simp only at this
 simp only[Ac,this]
 rfl
theorem BH.map (H:BH bb ub now T nodes σ st) (hA:atT T h=some t) {f:List (B8×TV)->Prop} (hf:∀es,(∀k,As k es=(Ag k t.es).map fun p=> .box p.1 0)->f es):Al (Dn st (.map t.m)) f:=by
 obtain⟨mp,h1,h2⟩:=(H.tab hA).1.mp
 refine Ad (x:=mp) ?_ (hf mp fun k=>?_)
 ·simp only at h1
  simp only[Dn,h1]
 ·rw[h2 k,EL]
  cases Ag k t.es<;>rfl
theorem BH.ent (H:BH bb ub now T nodes σ st) (hA:atT T h=some t) {k:B8} {eb:Nat} {e:En} (hl:Ag k t.es=some (eb,e)):Il σ st eb (shE e):=
 (H.tab hA).1.en (k,eb,shE e) (List.mem_map.2 ⟨.mk k eb e,Gd hl,rfl⟩)
theorem BH.ent0 (H:BH bb ub now T nodes σ st) (hA:atT T h=some t) {k:B8} {eb:Nat} {e:En} (hl:Ag k t.es=some (eb,e)) {f:TV->Prop} (hf:f (match e with | .opn u=> .box u.b 0 | _=> .nilPtr)):Al (Ac st [] (.t (.box eb 0)) 0) f:=by
 have:=H.ent hA hl
 cases e with
 | opn u=>
  obtain⟨h1,_⟩:=this
  exact Ad (by simp only[Ac,h1];rfl) hf
 | lst l=>
  obtain⟨_,_,h1⟩:=this
  exact Ad (by simp only[Ac,h1];rfl) hf
 | clo v i=>
  obtain⟨cs,_,_,h1,_⟩:=this
  exact Ad (by simp only[Ac,h1];rfl) hf
def Mc:En->List TV
 | .lst l=>l.map fun t=> .box t.b 0
 | _=>[]
theorem BH.ent1 (H:BH bb ub now T nodes σ st) (hA:atT T h=some t) {k:B8} {eb:Nat} {e:En} (hl:Ag k t.es=some (eb,e)) {f:TV->Prop} (hf:∀v,B7 v (Mc e)->f v):Al (Ac st [] (.t (.box eb 1)) 0) f:=by
 have:=H.ent hA hl
 cases e with
 | opn u=>
  obtain⟨h1,_⟩:=this
  exact Ad (by simp only[Ac,h1];rfl) (hf _ B7.nil)
 | lst l=>
  obtain⟨h0,_,h1⟩:=this
  refine Ad (x:=σ eb) (by simp only[Ac,h1];rfl) (hf _ ?_)
  rw[List.map_map]at h0
  exact h0
 | clo v i=>
  obtain⟨cs,_,_,h1,_⟩:=this
  exact Ad (by simp only[Ac,h1];rfl) (hf _ B7.nil)
end
theorem B7.get {v:TV} {xs:List TV} (h:B7 v xs) {st:St} {i:Nat} {x:TV} (hx:xs[i]? =some x) {f:TV->Prop} (hf:f x):Al (Ac st [] (.t (ixT 1 v i)) 0) f:=by
 rcases h with⟨rfl,rfl⟩ | ⟨tip,rfl,_⟩
 ·simp at hx
 ·refine Ad (x:=x) ?_ hf
  simp only[ixT,Ac,Nat.mul_one,List.getElem?_drop,Nat.add_zero]
  exact hx
end
end Go.TVF
