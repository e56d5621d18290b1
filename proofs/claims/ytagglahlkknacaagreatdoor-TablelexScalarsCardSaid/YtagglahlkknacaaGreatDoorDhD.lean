/- What the laws below rest on: a framework for Go programs, and contracts of the functions that they reach. -/
import Derived.Test.YtagglahlkknacaaGreatDoorDhC
import Derived.Lib.DecodeN
import Derived.Shelf.Strings.Search1
import Derived.Shelf.Small.Strs
import Derived.Shelf.Unicode.DecodeSlow
import Derived.Shelf.Unicode.DecodeAny
import Derived.Test.YtagglahlkknacaaGreatDoorProg
set_option maxRecDepth 20000
set_option linter.unusedVariables false
set_option linter.unusedSimpArgs false
namespace Go.TVF
open Go.IntKind(i64 u8)
open Go Go.Proofs
theorem el13 {st0 st:St} {ul:TV} {xl:List TV} {l:List Vl} (hke:Hd st0 st) (h2:SlR st0 13 ul l.length xl) (h3:VsR st0 l xl) {i:Int} {k:Nat} (hi:i=k) (hk:k<l.length) {f:Fun [.int .i64,.bool,.bool,.str,.int .i64,.int .i64,.int .i64,.int .i64,.int .i64,.str,.tv,.tv,.tv] Prop}
  (hf:∀s' l' f' ub1 ul1 uf1,l[k]? =some (.mk s' l' f')->VlR st0 (.mk s' l' f') (EO s' ub1 ul1 uf1)->List.all (EO s' ub1 ul1 uf1) BR=true->f s'.kind s'.b s'.neg s'.dg s'.ex s'.tk s'.td s'.tn s'.tz s'.text ub1 ul1 uf1):
  (0<=i/\i<(lenZ 13 ul:Int))/\At ((Aq st [] (.t (ixT 13 ul (Int.toNat i))) 0 13).map TV.agg) fun x=>Mi [.int .i64,.bool,.bool,.str,.int .i64,.int .i64,.int .i64,.int .i64,.int .i64,.str,.tv,.tv,.tv] x f:=by
 subst hi
 have gw:l[k]? =some l[k]:=List.getElem?_eq_getElem hk
 obtain⟨cw,hw,hcw,hcl⟩:=h3.get gw
 rw[h2.lenZ,Int.toNat_natCast,(h2.keep hke).ldc h3.len hk,hcw]
 generalize l[k]=w at*
 cases w with
 | mk s' l' f'=>
 have hw0:=hw
 unfold VlR at hw0
 obtain⟨ub',ul',uf',xl',xf',rfl,w1,w2,w3,w4,w5⟩:=hw0
 exact⟨⟨by omega,by omega⟩,Ac rfl (OU (hf s' l' f' ub' ul' uf' gw hw (MM w1.one w2.one w4.one)))⟩
theorem Ju {α:Type} {l:List α} {k:Nat} {v:α} (h:l[k]? =some v):l.take (k+1)=l.take k++[v]:=by
 obtain⟨q1,q2⟩:=List.getElem?_eq_some_iff.1 h
 rw[List.take_succ_eq_append_getElem q1,q2]
end Go.TVF
section
namespace Go.TVF
open Go.IntKind(i64 u8)
open Go
theorem or_i64 (x y:Nat) (hx:x<2^63) (hy:y<2^63):Ak .or .i64 (x:Int) (y:Int)=((x ||| y:Nat):Int):=by
 have h:x ||| y<2^63:=Nat.or_lt_two_pow hx hy
 show IntKind.wrap .i64 ((BitVec.ofInt 64 (x:Int) ||| BitVec.ofInt 64 (y:Int)).toNat:Int)=_
 simp only[BitVec.ofInt_natCast,BitVec.toNat_or,BitVec.toNat_ofNat]
 rw[Nat.mod_eq_of_lt (by omega),Nat.mod_eq_of_lt (by omega),Ab _ (by omega) (by omega)]
theorem and_i64 (x y:Nat) (hx:x<2^63) (hy:y<2^63):Ak .and .i64 (x:Int) (y:Int)=((x&&&y:Nat):Int):=by
 have h:x&&&y<2^63:=Nat.and_lt_two_pow _ hy
 show IntKind.wrap .i64 ((BitVec.ofInt 64 (x:Int)&&&BitVec.ofInt 64 (y:Int)).toNat:Int)=_
 simp only[BitVec.ofInt_natCast,BitVec.toNat_and,BitVec.toNat_ofNat]
 rw[Nat.mod_eq_of_lt (by omega),Nat.mod_eq_of_lt (by omega),Ab _ (by omega) (by omega)]
theorem and_u8 (x y:Nat) (hx:x<2^8) (hy:y<2^8):Ak .and .u8 (x:Int) (y:Int)=((x&&&y:Nat):Int):=by
 have h:x&&&y<2^8:=Nat.and_lt_two_pow _ hy
 show IntKind.wrap .u8 ((BitVec.ofInt 8 (x:Int)&&&BitVec.ofInt 8 (y:Int)).toNat:Int)=_
 simp only[BitVec.ofInt_natCast,BitVec.toNat_and,BitVec.toNat_ofNat]
 rw[Nat.mod_eq_of_lt (by omega),Nat.mod_eq_of_lt (by omega),Gl _ (by omega) (by omega)]
theorem Ok (a b m:Nat) (hb:b<2^m) (h:a*2^m+b<2^63):Ak .or .i64 ((a*2^m:Nat):Int) (b:Int)=((a*2^m+b:Nat):Int):=by
 have hb':b<2^63:=by omega
 rw[or_i64 _ _ (by omega) hb',Nat.mul_comm a,Nat.two_pow_add_eq_or_of_lt hb]
theorem FI (a m:Nat) (ha:a<2^63) (hm:m<63):Ak .and .i64 (a:Int) ((2^m-1:Nat):Int)=((a%2^m:Nat):Int):=by
 have:2^m<2^63:=Nat.pow_lt_pow_right (by decide) hm
 rw[and_i64 _ _ ha (by omega),Nat.and_two_pow_sub_one_eq_mod]
theorem NS (n:Nat) (h:n<=255):IntKind.wrap .i64 (n:Int)=n:=Ab _ (by omega) (by omega)
theorem Ei {α:Type} (l:List α) (i:Nat) (d:α) (h:i<l.length):l.take (i+1)=l.take i++[l.getD i d]:=by
 rw[List.take_add_one,List.getElem?_eq_getElem h,List.getD,List.getElem?_eq_getElem h];rfl
theorem Nc (a c:UInt8):((a.toNat:Int)=(c.toNat:Int))↔a=c:=by
 constructor
 ·intro h;exact UInt8.toNat_inj.1 (by omega)
 ·intro h;rw[h]
theorem shr_i64 (x m:Nat) (h:m<=64):Int.fdiv (x:Int) (2^(min m (IntKind.bits .i64)))=((x/2^m:Nat):Int):=by
 rw[show min m (IntKind.bits .i64)=m from Nat.min_eq_left h,show(2:Int)^m=((2^m:Nat):Int) by simp,Int.fdiv_eq_ediv_of_nonneg _ (Int.natCast_nonneg _)]
 rfl
theorem NB {α:Type} (l:List α) (i j:Nat) (d:α):(l.drop i).getD j d=l.getD (i+j) d:=by
 simp[List.getD,List.getElem?_drop]
theorem Ek {α:Type} (l:List α) (i:Nat) (d:α) (h:i<l.length):l.drop i=l.getD i d::l.drop (i+1):=by
 rw[List.drop_eq_getElem_cons h,List.getD,List.getElem?_eq_getElem h];rfl
theorem CQ {α:Type} (l:List α) (i j:Nat):(l.take j).drop i=(l.drop i).take (j-i):=by
 rw[List.drop_take]
def bt (l:B8) (i:Nat):Nat:=(l.getD i 0).toNat
theorem JP (l:B8) (i:Nat):bt l i<256:=(l.getD i 0).toNat_lt
theorem BF (l:B8) (i j:Nat):bt (l.drop i) j=bt l (i+j):=by simp[bt,NB]
def dN (l:B8):Nat×Nat:=Lib.decodeN l.length (bt l 0) (bt l 1) (bt l 2) (bt l 3)
def ul (l:B8):Nat:=if l=[]∨dN l=(65533,1)then 0 else(dN l).2
def ur (l:B8):Nat:=(dN l).1
def Az (r:Nat):Prop:=r<=1114111/\(r<55296∨57343<r)
instance (r:Nat):Decidable (Az r):=by unfold Az;infer_instance
def CC (r:Nat):B8:=
 if r<128 then [UInt8.ofNat r]else if r<2048 then [UInt8.ofNat (192+r/64),UInt8.ofNat (128+r%64)]
 else if r<65536 then [UInt8.ofNat (224+r/4096),UInt8.ofNat (128+r/64%64),UInt8.ofNat (128+r%64)]
 else [UInt8.ofNat (240+r/262144),UInt8.ofNat (128+r/4096%64),UInt8.ofNat (128+r/64%64),UInt8.ofNat (128+r%64)]
theorem G0 (n:Nat) (c:UInt8):UInt8.ofNat n=c↔n%256=c.toNat:=by
 rw[<-UInt8.toNat_inj];simp
theorem KH (l:B8) (h:1<=l.length):l.take 1=[l.getD 0 0]:=by
 rw[Ei l 0 0 (by omega)];rfl
theorem KG (l:B8) (h:2<=l.length):l.take 2=[l.getD 0 0,l.getD 1 0]:=by
 rw[Ei l 1 0 (by omega),KH l (by omega)];rfl
theorem It (l:B8) (h:3<=l.length):l.take 3=[l.getD 0 0,l.getD 1 0,l.getD 2 0]:=by
 rw[Ei l 2 0 (by omega),KG l (by omega)];rfl
theorem Ni (l:B8) (h:4<=l.length):l.take 4=[l.getD 0 0,l.getD 1 0,l.getD 2 0,l.getD 3 0]:=by
 rw[Ei l 3 0 (by omega),It l (by omega)];rfl
def rsz (b0:Nat):Nat:=if 240<=b0 then 4 else if 224<=b0 then 3 else if 192<=b0 then 2 else 1
def rb0 (b0:Nat):Nat:=if 240<=b0 then b0%8 else if 224<=b0 then b0%16 else if 192<=b0 then b0%32 else b0
def GY (l:B8) (r0:Nat):Nat->Nat
 | 0=>r0
 | j+1=>GY l r0 j*64+bt l (j+1)%64
theorem MK (l:B8) (r0:Nat) (h:r0<256):∀j,GY l r0 j<256*64^j
 | 0=>by simpa [GY]using h
 | j+1=>by
  have:=MK l r0 h j
  have h2:=Nat.mod_lt (bt l (j+1)) (show 0<64 by omega)
  simp only[GY,Nat.pow_succ]
  omega
theorem rb0_lt (b0:Nat) (h:b0<256):rb0 b0<256:=by
 unfold rb0
 repeat' split
 all_goals omega
theorem Oa (b0:Nat):1<=rsz b0/\rsz b0<=4:=by
 unfold rsz
 repeat' split
 all_goals omega
def refU (l:B8):Nat×Nat:=
 let size:=rsz (bt l 0)
 let r:=GY l (rb0 (bt l 0)) (size-1)
 if l.length<size then(0,0)else if Az r/\CC r=l.take size then(r,size)else(0,0)
theorem Ha {a b:UInt8} {x y:B8}:(a::x=b::y)↔a=b/\x=y:=by simp
set_option maxHeartbeats 4000000 in
theorem MJ (l:B8) (h:l≠ []):refU l=if ul l=0 then(0,0)else(ur l,ul l):=by
 have hl:1<=l.length:=by cases l with | nil=>exact absurd rfl h | cons a r=>simp
 have h0:=JP l 0
 have h1:=JP l 1
 have h2:=JP l 2
 have h3:=JP l 3
 have e0:(l.getD 0 0).toNat=bt l 0:=rfl
 have e1:(l.getD 1 0).toNat=bt l 1:=rfl
 have e2:(l.getD 2 0).toNat=bt l 2:=rfl
 have e3:(l.getD 3 0).toNat=bt l 3:=rfl
 have hul:ul l=if dN l=(65533,1)then 0 else(dN l).2:=by simp[ul,h]
 rw[hul,ur]
 unfold dN
 generalize hb0:bt l 0=b0 at*
 generalize hb1:bt l 1=b1 at*
 generalize hb2:bt l 2=b2 at*
 generalize hb3:bt l 3=b3 at*
 unfold refU
 simp only[hb0]
 by_cases c4:240<=b0
 ·have r4:rsz b0=4:=by unfold rsz;rw[if_pos c4]
  have rb:rb0 b0=b0%8:=by unfold rb0;rw[if_pos c4]
  rw[r4,rb]
  simp only[Nat.reduceSub,GY,hb1,hb2,hb3,Nat.zero_add,Nat.reduceAdd]
  by_cases hn:l.length<4
  ·rw[if_pos hn]
   have:Lib.decodeN l.length b0 b1 b2 b3=(65533,1):=by
    unfold Lib.decodeN
    rw[if_neg (by omega),if_neg (by omega),if_neg (by omega),if_neg (by omega)]
   rw[this];simp
  ·rw[if_neg hn]
   have hEnc:(Az (((b0%8*64+b1%64)*64+b2%64)*64+b3%64)/\CC (((b0%8*64+b1%64)*64+b2%64)*64+b3%64)=l.take 4)↔(b0/8=30/\b1/64=2/\b2/64=2/\b3/64=2/\65536<=((b0%8*64+b1%64)*64+b2%64)*64+b3%64/\((b0%8*64+b1%64)*64+b2%64)*64+b3%64<=1114111):=by
    rw[Ni l (by omega)]
    generalize hr:((b0%8*64+b1%64)*64+b2%64)*64+b3%64=r
    unfold Az CC
    by_cases k1:r<128
    ·rw[if_pos k1];simp;omega
    ·rw[if_neg k1]
     by_cases k2:r<2048
     ·rw[if_pos k2];simp;omega
     ·rw[if_neg k2]
      by_cases k3:r<65536
      ·rw[if_pos k3];simp;omega
      ·rw[if_neg k3]
       simp only[Ha,G0,e0,e1,e2,e3,and_true]
       omega
   by_cases hE:b0/8=30/\b1/64=2/\b2/64=2/\b3/64=2/\65536<=((b0%8*64+b1%64)*64+b2%64)*64+b3%64/\((b0%8*64+b1%64)*64+b2%64)*64+b3%64<=1114111
   ·rw[if_pos (hEnc.2 hE)]
    have:Lib.decodeN l.length b0 b1 b2 b3=(((b0%8*64+b1%64)*64+b2%64)*64+b3%64,4):=by
     unfold Lib.decodeN
     rw[if_neg (by omega),if_neg (by omega),if_neg (by omega),if_pos (by omega),if_pos (by omega)]
     simp only[Prod.mk.injEq,and_true];omega
    rw[this];simp
   ·rw[if_neg (fun hh=>hE (hEnc.1 hh))]
    have:Lib.decodeN l.length b0 b1 b2 b3=(65533,1):=by
     unfold Lib.decodeN
     rw[if_neg (by omega),if_neg (by omega),if_neg (by omega)]
     split
     ·rw[if_neg (by omega)]
     ·rfl
    rw[this];simp
 ·by_cases c3:224<=b0
  ·have r4:rsz b0=3:=by unfold rsz;rw[if_neg c4,if_pos c3]
   have rb:rb0 b0=b0%16:=by unfold rb0;rw[if_neg c4,if_pos c3]
   rw[r4,rb]
   simp only[Nat.reduceSub,GY,hb1,hb2,Nat.zero_add,Nat.reduceAdd]
   by_cases hn:l.length<3
   ·rw[if_pos hn]
    have:Lib.decodeN l.length b0 b1 b2 b3=(65533,1):=by
     unfold Lib.decodeN
     rw[if_neg (by omega),if_neg (by omega),if_neg (by omega),if_neg (by omega)]
    rw[this];simp
   ·rw[if_neg hn]
    have hEnc:(Az ((b0%16*64+b1%64)*64+b2%64)/\CC ((b0%16*64+b1%64)*64+b2%64)=l.take 3)↔(b1/64=2/\b2/64=2/\2048<=(b0%16*64+b1%64)*64+b2%64/\Az ((b0%16*64+b1%64)*64+b2%64)):=by
     rw[It l (by omega)]
     generalize hr:(b0%16*64+b1%64)*64+b2%64=r
     unfold Az CC
     by_cases k1:r<128
     ·rw[if_pos k1];simp;omega
     ·rw[if_neg k1]
      by_cases k2:r<2048
      ·rw[if_pos k2];simp;omega
      ·rw[if_neg k2]
       by_cases k3:r<65536
       ·rw[if_pos k3]
        simp only[Ha,G0,e0,e1,e2,and_true]
        omega
       ·omega
    by_cases hE:b1/64=2/\b2/64=2/\2048<=(b0%16*64+b1%64)*64+b2%64/\Az ((b0%16*64+b1%64)*64+b2%64)
    ·rw[if_pos (hEnc.2 hE)]
     have:Lib.decodeN l.length b0 b1 b2 b3=((b0%16*64+b1%64)*64+b2%64,3):=by
      unfold Az at hE
      unfold Lib.decodeN
      rw[if_neg (by omega),if_neg (by omega),if_pos (by omega),if_pos (by omega)]
      simp only[Prod.mk.injEq,and_true];omega
     rw[this];simp
    ·rw[if_neg (fun hh=>hE (hEnc.1 hh))]
     have:Lib.decodeN l.length b0 b1 b2 b3=(65533,1):=by
      unfold Az at hE
      unfold Lib.decodeN
      rw[if_neg (by omega),if_neg (by omega)]
      split
      ·rw[if_neg (by omega)]
      ·rw[if_neg (by omega)]
     rw[this];simp
  ·by_cases c2:192<=b0
   ·have r4:rsz b0=2:=by unfold rsz;rw[if_neg c4,if_neg c3,if_pos c2]
    have rb:rb0 b0=b0%32:=by unfold rb0;rw[if_neg c4,if_neg c3,if_pos c2]
    rw[r4,rb]
    simp only[Nat.reduceSub,GY,hb1,Nat.zero_add,Nat.reduceAdd]
    by_cases hn:l.length<2
    ·rw[if_pos hn]
     have:Lib.decodeN l.length b0 b1 b2 b3=(65533,1):=by
      unfold Lib.decodeN
      rw[if_neg (by omega),if_neg (by omega),if_neg (by omega),if_neg (by omega)]
     rw[this];simp
    ·rw[if_neg hn]
     have hEnc:(Az (b0%32*64+b1%64)/\CC (b0%32*64+b1%64)=l.take 2)↔(b1/64=2/\128<=b0%32*64+b1%64):=by
      rw[KG l (by omega)]
      generalize hr:b0%32*64+b1%64=r
      unfold Az CC
      by_cases k1:r<128
      ·rw[if_pos k1];simp;omega
      ·rw[if_neg k1,if_pos (by omega)]
       simp only[Ha,G0,e0,e1,and_true]
       omega
     by_cases hE:b1/64=2/\128<=b0%32*64+b1%64
     ·rw[if_pos (hEnc.2 hE)]
      have:Lib.decodeN l.length b0 b1 b2 b3=(b0%32*64+b1%64,2):=by
       unfold Lib.decodeN
       rw[if_neg (by omega),if_pos (by omega),if_pos (by omega)]
      rw[this];simp
     ·rw[if_neg (fun hh=>hE (hEnc.1 hh))]
      have:Lib.decodeN l.length b0 b1 b2 b3=(65533,1):=by
       unfold Lib.decodeN
       rw[if_neg (by omega)]
       split
       ·rw[if_neg (by omega)]
       ·rw[if_neg (by omega),if_neg (by omega)]
      rw[this];simp
   ·have r4:rsz b0=1:=by unfold rsz;rw[if_neg c4,if_neg c3,if_neg c2]
    have rb:rb0 b0=b0:=by unfold rb0;rw[if_neg c4,if_neg c3,if_neg c2]
    rw[r4,rb]
    simp only[Nat.reduceSub,GY]
    rw[if_neg (by omega),KH l hl]
    have hEnc:(Az b0/\CC b0=[l.getD 0 0])↔b0<128:=by
     unfold Az CC
     by_cases k1:b0<128
     ·rw[if_pos k1];simp only[Ha,G0,e0,and_true];omega
     ·rw[if_neg k1,if_pos (by omega)];simp;omega
    by_cases hE:b0<128
    ·rw[if_pos (hEnc.2 hE)]
     have:Lib.decodeN l.length b0 b1 b2 b3=(b0,1):=by unfold Lib.decodeN;rw[if_pos hE]
     rw[this,if_neg (by simp;omega)]
     simp only[Prod.mk.injEq]
     rw[if_neg (by omega)]
     simp
    ·rw[if_neg (fun hh=>hE (hEnc.1 hh))]
     have:Lib.decodeN l.length b0 b1 b2 b3=(65533,1):=by
      unfold Lib.decodeN
      rw[if_neg (by omega),if_neg (by omega),if_neg (by omega),if_neg (by omega)]
     rw[this];simp
theorem Ic (l:B8) (h:ul l≠0):Az (ur l)/\CC (ur l)=l.take (ul l)/\ul l<=l.length/\ul l<=4:=by
 have hne:l≠ []:=fun h0=>h (by simp[ul,h0])
 have e:=MJ l hne
 rw[if_neg h]at e
 unfold refU at e
 simp only at e
 split at e
 ·simp only[Prod.mk.injEq]at e;omega
 ·split at e
  ·rename_i hn hc
   simp only[Prod.mk.injEq]at e
   rw[<-e.1,<-e.2]
   exact⟨hc.1,hc.2,by omega,(Oa _).2⟩
  ·simp only[Prod.mk.injEq]at e;omega
theorem MD (l:B8):ul l<=l.length:=by
 by_cases h:ul l=0
 ·omega
 ·exact(Ic l h).2.2.1
theorem Im (l:B8) (h:l≠ []) (hb:bt l 0<128):ul l=1/\ur l=bt l 0:=by
 have:dN l=(bt l 0,1):=by unfold dN Lib.decodeN;rw[if_pos hb]
 unfold ul ur
 rw[this,if_neg (by simp[h];omega)]
 exact⟨rfl,rfl⟩
theorem ul_high (l:B8) (h:ul l≠0) (hb:128<=bt l 0):2<=ul l/\128<=ur l:=by
 have hne:l≠ []:=fun h0=>h (by simp[ul,h0])
 have hul:ul l=if dN l=(65533,1)then 0 else(dN l).2:=by simp[ul,hne]
 rw[hul]at h⊢
 unfold ur
 split at h
 ·exact absurd rfl h
 ·rename_i hd
  rw[if_neg hd]
  unfold dN Lib.decodeN at hd⊢
  rw[if_neg (by omega)]at hd⊢
  repeat' split at hd
  all_goals (repeat' split)
  all_goals first | (exact absurd rfl hd) | (exfalso;omega) | (simp only;omega)
theorem JV (l:B8) (h:l≠ []):ul l=0↔dN l=(65533,1):=by
 have hul:ul l=if dN l=(65533,1)then 0 else(dN l).2:=by simp[ul,h]
 rw[hul]
 constructor
 ·intro h0
  by_cases hd:dN l=(65533,1)
  ·exact hd
  ·rw[if_neg hd]at h0
   exfalso
   unfold dN Lib.decodeN at h0
   repeat' split at h0
   all_goals simp at h0
 ·intro h0;rw[if_pos h0]
theorem OV (l:B8) (h:ul l≠0):dN l=(ur l,ul l):=by
 have hne:l≠ []:=fun h0=>h (by simp[ul,h0])
 have hul:ul l=if dN l=(65533,1)then 0 else(dN l).2:=by simp[ul,hne]
 have hd:dN l≠(65533,1):=fun hd=>h ((JV l hne).2 hd)
 rw[if_neg hd]at hul
 rw[hul];rfl
theorem ul_not (l:B8) (h:ul l≠0):¬(ur l=65533/\ul l=1):=by
 intro hh
 have hne:l≠ []:=fun h0=>h (by simp[ul,h0])
 have:=OV l h
 rw[hh.1,hh.2]at this
 exact h ((JV l hne).2 this)
def vlen (l:B8):Nat:=if h:ul l=0 then 0 else ul l+vlen (l.drop (ul l))
termination_by l.length
decreasing_by
 have:=MD l
 simp only[List.length_drop];omega
end Go.TVF
end
namespace Go.TVF
open Go.IntKind(i64 u8)
open Go Go.Proofs
def AH (c:UInt8):Prop:=48<=c.toNat/\c.toNat<=57
instance (c:UInt8):Decidable (AH c):=inferInstanceAs (Decidable (_/\_))
def Bi (l:B8):Nat:=(l.reverse.takeWhile (·==48)).length
def DecOk (neg:Bool) (dg:B8) (ex:Int):Prop:=
 (dg=[]->neg=false/\ex=0)/\(dg≠ []->dg.length<=120/\(∀c,c∈dg->AH c)/\dg.getD 0 0≠48/\Bi dg=0/\ -400<=ex/\ex<=400)
instance (neg:Bool) (dg:B8) (ex:Int):Decidable (DecOk neg dg ex):=inferInstanceAs (Decidable ((_->_)/\(_->_)))
def TimeOk (k d n z:Int):Prop:=
 1<=k/\k<=4/\0<=d/\d<=3652058/\0<=n/\n<=86399999999999/\ -1439<=z/\z<=1439/\(k=2->d=0)/\(k=1->n=0)/\(k≠4->z=0)
instance (k d n z:Int):Decidable (TimeOk k d n z):=inferInstanceAs (Decidable (_/\_/\_/\_/\_/\_/\_/\_/\(_->_)/\(_->_)/\(_->_)))
def HR (y:Nat):Prop:=y%4=0/\(y%100≠0∨y%400=0)
instance (y:Nat):Decidable (HR y):=inferInstanceAs (Decidable (_/\_))
def HC (y m:Nat):Nat:=if m=2 then(if HR y then 29 else 28)else if m=4∨m=6∨m=9∨m=11 then 30 else 31
def FA (y:Nat):Nat->Nat
 | 0=>0
 | 1=>0
 | m+2=>FA y (m+1)+HC y (m+1)
def yrS (y:Nat):Nat:=365*(y-1)+(y-1)/4-(y-1)/100+(y-1)/400
theorem monS_12 (y:Nat):FA y 12+HC y 12=if HR y then 366 else 365:=by
 simp only[FA,HC]
 by_cases h:HR y<;>simp[h]
theorem Mg (k q:Nat) (h:0<q):(k+1)/q=k/q+(if (k+1)%q=0 then 1 else 0):=by
 rw[Nat.succ_div]
 congr 1
 simp only[Nat.dvd_iff_mod_eq_zero]
theorem NR {y:Nat} (h:1<=y):yrS (y+1)=yrS y+(FA y 12+HC y 12):=by
 rw[monS_12]
 obtain⟨k,rfl⟩:∃k,y=k+1:=⟨y-1,by omega⟩
 unfold yrS
 simp only[Nat.add_sub_cancel]
 rw[Mg k 4 (by omega),Mg k 100 (by omega),Mg k 400 (by omega)]
 have m1:(k+1)%400=0->(k+1)%100=0:=fun h=>by omega
 have m2:(k+1)%100=0->(k+1)%4=0:=fun h=>by omega
 have m3:k/100<=k/4:=by omega
 by_cases a4:(k+1)%4=0
 ·rw[if_pos a4]
  by_cases a100:(k+1)%100=0
  ·rw[if_pos a100]
   by_cases a400:(k+1)%400=0
   ·rw[if_pos a400,if_pos ⟨a4,.inr a400⟩];omega
   ·rw[if_neg a400,if_neg (fun h=>h.2.elim (fun h=>h a100) a400)];omega
  ·rw[if_neg a100,if_neg (fun h=>a100 (m1 h)),if_pos ⟨a4,.inl a100⟩];omega
 ·rw[if_neg a4,if_neg (fun h=>a4 (m2 h)),if_neg (fun h=>a4 (m2 (m1 h))),if_neg (fun h=>a4 h.1)];omega
theorem FO (y:Nat) {m:Nat} (h:1<=m):FA y (m+1)=FA y m+HC y m:=by
 cases m with
 | zero=>omega
 | succ m=>rfl
structure OwnOk (s:Sc) (l:List Vl) (f:List Fd):Prop where
 k0:0<=s.kind
 k7:s.kind<=7
 bo:s.kind≠1->s.b=false
 nu:s.kind≠2->s.neg=false/\s.dg=[]/\s.ex=0
 ti:s.kind≠3->s.tk=0/\s.td=0/\s.tn=0/\s.tz=0
 tx:s.kind≠4->s.text=[]
 by_:s.kind≠5->s.bytes=[]
 ls:s.kind≠6->l=[]
 fs:s.kind≠7->f=[]
noncomputable instance (s:Sc) (l:List Vl) (f:List Fd):Decidable (OwnOk s l f):=Classical.propDecidable _
def U8 (s:B8):Prop:=vlen s=s.length
instance (s:B8):Decidable (U8 s):=inferInstanceAs (Decidable (_=_))
theorem SlR.isPtr {st:St} {sz n i:Nat} {u:TV} {xs:List TV} (h:SlR st sz u n xs) (hi:i<n):TVF.isPtr (ixT sz u i)=true:=by
 rcases h with(⟨rfl,rfl,rfl⟩ | ⟨tip,rfl⟩) | ⟨b,off,cap,l,rfl,_⟩
 ·omega
 ·rfl
 ·rfl
theorem SlR.ldcf {st:St} {sz n i f m:Nat} {u:TV} {xs:List TV} (h:SlR st sz u n xs) (hl:xs.length=n*sz) (hi:i<n) (hf:f+m<=sz):Aq st [] (.t (Bo (ixT sz u i) f)) 0 m=some ((xs.drop (i*sz+f)).take m):=by
 have hm:(i+1)*sz<=n*sz:=Nat.mul_le_mul_right _ hi
 rw[Nat.add_mul,Nat.one_mul]at hm
 rcases h with(⟨rfl,rfl,rfl⟩ | ⟨tip,rfl⟩) | ⟨b,off,cap,l,rfl,h2,h3,h4,h5,rfl⟩
 ·omega
 ·show Aq st [] (.t (.rptr ((xs.drop (i*sz)).drop f))) 0 m=_
  rw[List.drop_drop,IJ m 0 (by rw[List.length_drop];omega),List.drop_zero]
 ·have hc:n*sz<=cap*sz:=Nat.mul_le_mul_right _ h5
  have e1:(((l.drop off).take (n*sz)).drop (i*sz+f)).take m=(l.drop (off+i*sz+f)).take m:=by
   rw[List.drop_take,List.drop_drop,List.take_take,Nat.min_eq_left (by omega),Nat.add_assoc]
  rw[e1]
  have e:=If (B:=l.drop (off+i*sz+f+m)) (st:=st) (b:=b) ((l.drop (off+i*sz+f)).take m) l 0 (off+i*sz+f) h3 (by
   have:=List.take_append_drop m (l.drop (off+i*sz+f))
   rw[List.drop_drop]at this
   rw[Nat.add_zero];exact this.symm)
  rw[show((l.drop (off+i*sz+f)).take m).length=m by simp;omega]at e
  exact e
theorem SlR.ldf {st:St} {sz n i f:Nat} {u x:TV} {xs:List TV} (h:SlR st sz u n xs) (hl:xs.length=n*sz) (hi:i<n) (hf:f<sz) (hx:xs[i*sz+f]? =some x):Ag st [] (.t (Bo (ixT sz u i) f)) 0=some x:=by
 have:=h.ldcf (f:=f) (m:=1) hl hi (by omega)
 have hlt:i*sz+f<xs.length:=by
  obtain⟨q,_⟩:=List.getElem?_eq_some_iff.1 hx
  exact q
 rw[List.drop_eq_getElem_cons hlt]at this
 rw[List.getElem?_eq_getElem hlt]at hx
 simp only[Aq,List.take_succ_cons,List.take_zero]at this
 cases hq:Ag st [] (.t (Bo (ixT sz u i) f)) 0 with
 | none=>rw[hq]at this;cases this
 | some y=>
  rw[hq]at this
  simp only[Option.map_some,Option.some.injEq,List.cons.injEq,and_true]at this
  rw[this];exact hx
theorem SlR.toBytes {st:St} {u:TV} {l:B8} (h:SlR st 1 u l.length (AE l)):TVF.toBytes st u=some l:=by
 have hl:(AE l).length=l.length:=Ji l
 rcases h with(⟨rfl,h1,_⟩ | ⟨tip,rfl⟩) | ⟨b,off,cap,m,rfl,h2,h3,h4,h5,h6⟩
 ·rw[List.eq_nil_of_length_eq_zero h1];rfl
 ·simp[TVF.toBytes,BZ]
 ·have e:=If (B:=m.drop (off+l.length)) (st:=st) (b:=b) (AE l) m 0 off h3 (by
   rw[h6,Nat.add_zero,Nat.mul_one,<-List.drop_drop,List.take_append_drop])
  rw[hl]at e
  simp only[TVF.toBytes,Nat.beq_refl,e,BZ]
theorem key14 {st0 st:St} {uf:TV} {xf:List TV} {l:List Fd} (hke:Hd st0 st) (h2:SlR st0 14 uf l.length xf) (h3:FsR st0 l xf) {i:Int} {k:Nat} (hi:i=k) {d:Fd} (hd:l[k]? =some d) {f:B8->Prop} (hf:f d.key):
  (0<=i/\i<(lenZ 14 uf:Int))/\need (TVF.isPtr (ixT 14 uf (Int.toNat i))) (At (Ag st [] (.t (Bo (ixT 14 uf (Int.toNat i)) 0)) 0) fun x=>Au .str x f):=by
 subst hi
 obtain⟨hk,_⟩:=List.getElem?_eq_some_iff.1 hd
 obtain⟨cw,hw,hcw,hcl⟩:=h3.get hd
 rw[h2.lenZ,Int.toNat_natCast]
 have hx:xf[k*14+0]? =some (.str d.key):=by
  cases d with
  | mk key w=>
   unfold FdR at hw
   obtain⟨cs,rfl,_⟩:=hw
   have:=congrArg (fun z=>z[0]?) hcw
   simpa [Fd.key]using this
 exact⟨⟨by omega,by omega⟩,Ae (h2.isPtr hk) (Ac ((h2.keep hke).ldf h3.len hk (by omega) hx) hf)⟩
theorem val14 {st0 st:St} {uf:TV} {xf:List TV} {l:List Fd} (hke:Hd st0 st) (h2:SlR st0 14 uf l.length xf) (h3:FsR st0 l xf) {i:Int} {k:Nat} (hi:i=k) (hk:k<l.length) {f:Fun [.int .i64,.bool,.bool,.str,.int .i64,.int .i64,.int .i64,.int .i64,.int .i64,.str,.tv,.tv,.tv] Prop}
  (hf:∀key s' l' f' ub1 ul1 uf1,l[k]? =some (.mk key (.mk s' l' f'))->VlR st0 (.mk s' l' f') (EO s' ub1 ul1 uf1)->List.all (EO s' ub1 ul1 uf1) BR=true->f s'.kind s'.b s'.neg s'.dg s'.ex s'.tk s'.td s'.tn s'.tz s'.text ub1 ul1 uf1):
  (0<=i/\i<(lenZ 14 uf:Int))/\need (TVF.isPtr (ixT 14 uf (Int.toNat i))) (At ((Aq st [] (.t (Bo (ixT 14 uf (Int.toNat i)) 1)) 0 13).map TV.agg) fun x=>Mi [.int .i64,.bool,.bool,.str,.int .i64,.int .i64,.int .i64,.int .i64,.int .i64,.str,.tv,.tv,.tv] x f):=by
 subst hi
 have gw:l[k]? =some l[k]:=List.getElem?_eq_getElem hk
 obtain⟨cw,hw,hcw,hcl⟩:=h3.get gw
 rw[h2.lenZ,Int.toNat_natCast]
 refine⟨⟨by omega,by omega⟩,Ae (h2.isPtr hk) ?_⟩
 rw[(h2.keep hke).ldcf (f:=1) (m:=13) h3.len hk (by omega)]
 generalize l[k]=w at*
 cases w with
 | mk key w=>
 cases w with
 | mk s' l' f'=>
 unfold FdR at hw
 obtain⟨cw2,rfl,hw1⟩:=hw
 have hw2:=hw1
 unfold VlR at hw2
 obtain⟨ub',ul',uf',xl',xf',rfl,w1,w2,w3,w4,w5⟩:=hw2
 have e:(xf.drop (k*14+1)).take 13=EO s' ub' ul' uf':=by
  rw[<-List.drop_drop]
  have:=congrArg (fun z=>z.drop 1) hcw
  simp only[List.drop_take]at this
  simpa [EO]using this
 rw[e]
 exact Ac rfl (OU (hf key s' l' f' ub' ul' uf' gw hw1 (MM w1.one w2.one w4.one)))
theorem Hd.refl (a:St):Hd a a:=⟨Nat.le_refl _,fun _ _=>rfl⟩
theorem AD {s:B8} {f:B8->Prop} (h:f s):Au .str (.str s) f:=h
theorem As {k:IntKind} {n:Int} {f:Int->Prop} (h:f n):Au (.int k) (.int k n) f:=by
 simp only[Au];exact h
theorem NI {b:Bool} {f:Bool->Prop} (h:f b):Au .bool (.bool b) f:=h
theorem DM {α:Type} {K:α->St->Prop} {a b:α} {st:St} (h:a=b) (hk:K b st):K a st:=h▸hk
theorem Jp {r:Int} {st:St} {K:Bool->St->Prop} (h0:0<=r) (hk:K (decide (Az r.toNat)) st):CallT PR Bk [.int .i64 r] [.one (.bool)] st K:=by
 refine DJ _ st K (Aa (fun _=>Aa (fun h2=>Aa (fun h3=>?_) fun h3=>?_) fun h2=>?_) fun h1=>absurd h0 h1)
 ·have:Az r.toNat:=by unfold Az;omega
  simpa [this]using hk
 ·have:decide ((57343:Int)<r)=decide (Az r.toNat):=by
   rw[Bool.eq_iff_iff];simp only[decide_eq_true_eq];unfold Az;omega
  rw[this];exact hk
 ·have:¬Az r.toNat:=by unfold Az;omega
  simpa [this]using hk
theorem Dg (st:St) (n:Nat) (l:B8) (xs:List TV) (h:xs=AE l):(toBytes st (.list 1 .full n xs)).map TV.str=some (.str l):=by
 subst h;simp[toBytes,BZ]
theorem CY (n:Nat):IntKind.wrap .u8 (n:Int)=((UInt8.ofNat n).toNat:Int):=by
 unfold IntKind.wrap
 simp only[IntKind.signed,IntKind.bits]
 simp
 try omega
theorem orN (a b m:Nat) (hb:b<2^m) (h:a*2^m+b<2^63) (x y:Int) (hx:x=((a*2^m:Nat):Int)) (hy:y=(b:Int)):Ak .or .i64 x y=((a*2^m+b:Nat):Int):=by
 rw[hx,hy];exact Ok a b m hb h
theorem IZ {R:Int} {r:Nat} {st:St} {K:B8->Int->St->Prop} (hR:R=(r:Int)) (hr:r<2^40) (hk:K (if Az r then CC r else []) (if Az r then 0 else 2) st):CallT PR Ar [.int .i64 R] [.one (.str),.one (.int .i64)] st K:=by
 have shr:∀m,m<=64->Int.fdiv R (2^(min m (IntKind.bits .i64)))=((r/2^m:Nat):Int):=fun m hm=>by rw[hR];exact shr_i64 r m hm
 have s6:=shr 6 (by decide)
 have s12:=shr 12 (by decide)
 have s18:=shr 18 (by decide)
 have m63:∀x:Nat,x<2^63->Ak .and .i64 (x:Int) (63:Int)=((x%64:Nat):Int):=fun x hx=>FI x 6 hx (by decide)
 have mR:Ak .and .i64 R (63:Int)=((r%64:Nat):Int):=by rw[hR];exact m63 r (by omega)
 have o128:∀x:Nat,x<64->Ak .or .i64 (128:Int) (x:Int)=((128+x:Nat):Int):=fun x hx=>orN 2 x 6 (by omega) (by omega) _ _ rfl rfl
 have hR0:0<=R:=by omega
 have hRn:R.toNat=r:=by omega
 refine Ew _ st K (Jp hR0 (Ay (fun h0=>?_) fun h0=>?_))
 ·have hc:¬Az r:=by rw[hRn]at h0;simpa using h0
  rw[if_neg hc,if_neg hc]at hk
  exact hk
 ·have hc:Az r:=by rw[hRn]at h0;simpa using h0
  rw[if_pos hc,if_pos hc]at hk
  unfold CC at hk
  refine Aa (fun h1=>?_) fun h1=>Aa (fun h2=>?_) fun h2=>Aa (fun h3=>?_) fun h3=>?_
  ·rw[if_pos (by omega)]at hk
   exact Ac (Dg _ _ _ _ (by simp only[AE,List.map,FH];rw[hR,CY])) hk
  ·rw[if_neg (by omega),if_pos (by omega)]at hk
   have o192:Ak .or .i64 (192:Int) ((r/2^6:Nat):Int)=((192+r/64:Nat):Int):=orN 6 _ 5 (by omega) (by omega) _ _ rfl rfl
   refine Ac (Dg _ _ _ _ ?_) hk
   simp only[AE,List.map,FH]
   rw[show Int.toNat (6:Int)=6 from rfl,s6,o192,mR,o128 _ (by omega),CY,CY]
  ·rw[if_neg (by omega),if_neg (by omega),if_pos (by omega)]at hk
   have o224:Ak .or .i64 (224:Int) ((r/2^12:Nat):Int)=((224+r/4096:Nat):Int):=orN 14 _ 4 (by omega) (by omega) _ _ rfl rfl
   refine Ac (Dg _ _ _ _ ?_) hk
   simp only[AE,List.map,FH]
   rw[show Int.toNat (6:Int)=6 from rfl,show Int.toNat (12:Int)=12 from rfl,s6,s12,o224,mR,m63 (r/2^6) (by omega),o128 _ (by omega),o128 _ (by omega),CY,CY,CY]
  ·rw[if_neg (by omega),if_neg (by omega),if_neg (by omega)]at hk
   have hr2:r<=1114111:=hc.1
   have o240:Ak .or .i64 (240:Int) ((r/2^18:Nat):Int)=((240+r/262144:Nat):Int):=orN 30 _ 3 (by omega) (by omega) _ _ rfl rfl
   refine Ac (Dg _ _ _ _ ?_) hk
   simp only[AE,List.map,FH]
   rw[show Int.toNat (6:Int)=6 from rfl,show Int.toNat (12:Int)=12 from rfl,show Int.toNat (18:Int)=18 from rfl,s6,s12,s18,o240,mR,m63 (r/2^6) (by omega),m63 (r/2^12) (by omega),o128 _ (by omega),o128 _ (by omega),o128 _ (by omega),CY,CY,CY,CY]
theorem NF {r:Nat} {st:St} {K:B8->Int->St->Prop} (hr:r<2^40) (hk:K (if Az r then CC r else []) (if Az r then 0 else 2) st):CallT PR Ar [.int .i64 (r:Int)] [.one (.str),.one (.int .i64)] st K:=
 IZ rfl hr hk
def rD (l:B8):Nat×Nat:=if ul l=0 then(0,0)else(ur l,ul l)
theorem K0 {s:B8} {I:Int} {i:Nat} {st:St} {K:Int->Int->St->Prop} (hI:I=(i:Int)) (hl:s.length<=2000000) (hi:i<=s.length) (hk:K ((rD (s.drop i)).1:Nat) ((rD (s.drop i)).2:Nat) st):CallT PR AR [.str s,.int .i64 I] [.one (.int .i64),.one (.int .i64)] st K:=by
 refine Ex s I st K (Aa (fun h=>by omega) fun _=>Aa (fun h=>?_) fun h=>⟨⟨by omega,by omega⟩,?_⟩)
 ·have:s.drop i=[]:=List.drop_of_length_le (by omega)
  have h0:rD (s.drop i)=(0,0):=by rw[this];simp[rD,ul]
  rw[h0]at hk;exact hk
 ·have hne:s.drop i≠ []:=by
   intro h0
   have:=congrArg List.length h0
   simp at this;omega
  have href:=MJ (s.drop i) hne
  have hb0:(List.getD s (Int.toNat I) 0).toNat=bt (s.drop i) 0:=by rw[BF,hI];rfl
  have hlt:=JP (s.drop i) 0
  have hlen:(s.drop i).length=s.length-i:=by simp
  rw[hb0,NS _ (by omega)]
  have m15:Ak .and .i64 ((bt (s.drop i) 0:Nat):Int) (15:Int)=((bt (s.drop i) 0%16:Nat):Int):=FI _ 4 (by omega) (by decide)
  have m7:Ak .and .i64 ((bt (s.drop i) 0:Nat):Int) (7:Int)=((bt (s.drop i) 0%8:Nat):Int):=FI _ 3 (by omega) (by decide)
  have m31:Ak .and .i64 ((bt (s.drop i) 0:Nat):Int) (31:Int)=((bt (s.drop i) 0%32:Nat):Int):=FI _ 5 (by omega) (by decide)
  rw[m15,m7,m31]
  refine⟨fun size r s' at' st1=>s=s'/\I=at'/\st=st1/\((rsz (bt (s.drop i) 0):Nat):Int)=size/\((rb0 (bt (s.drop i) 0):Nat):Int)=r,?_,?_⟩
  ·refine Aa (fun h1=>⟨rfl,rfl,rfl,?_,?_⟩) fun h1=>Aa (fun h2=>⟨rfl,rfl,rfl,?_,?_⟩) fun h2=>Aa (fun h3=>⟨rfl,rfl,rfl,?_,?_⟩) fun h3=>⟨rfl,rfl,rfl,?_,?_⟩
   ·unfold rsz;rw[if_pos (by omega)];rfl
   ·unfold rb0;rw[if_pos (by omega)]
   ·unfold rsz;rw[if_neg (by omega),if_pos (by omega)];rfl
   ·unfold rb0;rw[if_neg (by omega),if_pos (by omega)]
   ·unfold rsz;rw[if_neg (by omega),if_neg (by omega),if_pos (by omega)];rfl
   ·unfold rb0;rw[if_neg (by omega),if_neg (by omega),if_pos (by omega)]
   ·unfold rsz;rw[if_neg (by omega),if_neg (by omega),if_neg (by omega)];rfl
   ·unfold rb0;rw[if_neg (by omega),if_neg (by omega),if_neg (by omega)]
  ·rintro _ _ _ _ _ ⟨rfl,rfl,rfl,rfl,rfl⟩
   have hs:=Oa (bt (s.drop i) 0)
   have hr0:=rb0_lt _ hlt
   generalize hsz:rsz (bt (s.drop i) 0)=size at*
   generalize hrr:rb0 (bt (s.drop i) 0)=r0 at*
   have hra:=MK (s.drop i) r0 hr0
   unfold refU at href
   simp only[hsz,hrr]at href
   rw[Ab _ (by omega) (by omega)]
   refine Aa (fun h1=>?_) fun h1=>?_
   ·rw[if_pos (by omega)]at href
    have:rD (s.drop i)=(0,0):=by unfold rD;rw[<-href]
    rw[this]at hk;exact hk
   ·rw[if_neg (by omega)]at href
    refine⟨fun r j s' at' sz st2=>s=s'/\I=at'/\st=st2/\((size:Nat):Int)=sz/\∃k:Nat,j=((k+1:Nat):Int)/\k+1<=size/\r=((GY (s.drop i) r0 k:Nat):Int),fun _ j _ _ sz _=>(sz-j).toNat,⟨rfl,rfl,rfl,rfl,0,rfl,hs.1,rfl⟩,?_⟩
    rintro _ _ _ _ _ _ ⟨rfl,rfl,rfl,rfl,k,rfl,hk1,rfl⟩
    have hrk:=hra k
    have h64:64^k<=64^3:=Nat.pow_le_pow_right (by decide) (by omega)
    refine Aa (fun h2=>?_) fun h2=>?_
    ·rw[Ab _ (by omega) (by omega)]
     have hbk:(List.getD s (Int.toNat (I+((k+1:Nat):Int))) 0).toNat=bt (s.drop i) (k+1):=by
      rw[BF,show Int.toNat (I+((k+1:Nat):Int))=i+(k+1) by omega];rfl
     have hbl:=JP (s.drop i) (k+1)
     have hand:Ak .and .i64 (i64.wrap ((bt (s.drop i) (k+1):Nat):Int)) (63:Int)=((bt (s.drop i) (k+1)%64:Nat):Int):=by
      rw[NS _ (by omega)];exact FI _ 6 (by omega) (by decide)
     have hmul:i64.wrap (((GY (s.drop i) r0 k:Nat):Int)*2^(min (Int.toNat (6:Int)) (IntKind.bits .i64)))=((GY (s.drop i) r0 k*2^6:Nat):Int):=by
      rw[show(2:Int)^(min (Int.toNat (6:Int)) (IntKind.bits .i64))=64 by decide,Ab _ (by omega) (by omega)];omega
     refine⟨⟨by omega,by omega⟩,?_⟩
     rw[hbk,hand,hmul,Ok _ _ 6 (by omega) (by omega),Ab _ (by omega) (by omega)]
     exact⟨⟨rfl,rfl,rfl,rfl,k+1,by omega,by omega,by simp only[GY]⟩,by dsimp only;omega⟩
    ·have hks:k=size-1:=by omega
     subst hks
     refine NF (by omega) ?_
     generalize hR:GY (s.drop i) r0 (size-1)=R at*
     refine Aa (fun h3=>?_) fun h3=>?_
     ·have hc:¬Az R:=by intro hc;rw[if_pos hc]at h3;exact h3 rfl
      rw[if_neg (fun h=>hc h.1)]at href
      have:rD (s.drop i)=(0,0):=by unfold rD;rw[<-href]
      rw[this]at hk;exact hk
     ·have hc:Az R:=by
       apply Decidable.byContradiction
       intro hc;rw[if_neg hc]at h3;exact h3 (by decide)
      rw[if_pos hc,Ab _ (by omega) (by omega)]
      refine⟨⟨by omega,by omega,by omega⟩,?_⟩
      rw[CQ,show Int.toNat (I+(size:Int))-Int.toNat I=size by omega,show Int.toNat I=i by omega]
      refine Aa (fun h4=>?_) fun h4=>?_
      ·rw[if_neg (fun h=>h4 h.2)]at href
       have:rD (s.drop i)=(0,0):=by unfold rD;rw[<-href]
       rw[this]at hk;exact hk
      ·rw[if_pos ⟨hc,Decidable.not_not.1 h4⟩]at href
       have:rD (s.drop i)=(R,size):=by unfold rD;rw[<-href]
       rw[this]at hk;exact hk
def hdS (b:Nat):Nat:=if b<128 then 1 else if 192<=b/\b<224 then 2 else if 224<=b/\b<240 then 3 else if 240<=b/\b<248 then 4 else 0
theorem JW {l:B8} {c:UInt8} (hc:c.toNat<128) (hl:l.length<=9223372036854775807) {st:St} {K:B8->St->Prop} (hk:K (Lib.trimRightB l c) st):CallT PR CU [.str l,.str [c]] [.one .str] st K:=by
 refine Cv (fun _ _=>by kernel_rfl) fun g w vargs s hr=>?_
 obtain⟨v,u,rfl,hv,hu⟩:=IB hr
 rw[Cr hv,Cr hu]
 refine Calls.mono (Tryz.strings_TrimRight_one ⟨l.toArray⟩ c hc w (by simpa [ByteArray.size]using hl)) ?_
 rintro e w' ⟨rfl,rfl⟩
 exact⟨_,rfl,.str _,st,g,hk,s,Rel.str _,Ext.refl _ _⟩
theorem Iq (l:B8):(Lib.trimRightB l 48).length+Bi l=l.length:=by
 unfold Lib.trimRightB Bi
 have:=congrArg List.length (List.takeWhile_append_dropWhile (p:=fun x:UInt8=>x==48) (l:=l.reverse))
 rw[List.length_append,List.length_reverse]at this
 rw[List.length_reverse];omega
theorem LA {p:UInt8->Bool}:∀(r:B8) (n:Nat),n<=r.length->(∀j x,j<n->r[j]? =some x->p x=true)->(∀x,r[n]? =some x->p x=false)->(r.takeWhile p).length=n
 | [],n,h,_,_=>by simp at h;simp[h]
 | a::r,0,_,_,h=>by simp[List.takeWhile_cons,h a rfl]
 | a::r,n+1,h,h1,h2=>by
  rw[List.takeWhile_cons,if_pos (h1 0 a (by omega) rfl),List.length_cons,LA r n (by simpa using h) (fun j x hj hx=>h1 (j+1) x (by omega) (by simpa using hx)) (fun x hx=>h2 x (by simpa using hx))]
theorem Ob (l:B8) (n:Nat) (h:n<l.length):l.reverse[n]? =some (List.getD l (l.length-1-n) 0):=by
 rw[List.getElem?_reverse h,List.getD_eq_getElem?_getD,List.getElem?_eq_getElem (by omega),Option.getD_some]
theorem Np {l:B8} (hl:l.length<=2000000) {st:St} {K:Int->St->Prop} (hk:K (Bi l:Nat) st):CallT PR BL [.str l] [.one (.int .i64)] st K:=by
 refine E8 l st K ⟨fun i s st'=>l=s/\st=st'/\∃n:Nat,i=n/\n<=l.length/\∀j x,j<n->l.reverse[j]? =some x->(x==48)=true,fun i _ _=>(l.length-i).toNat,⟨rfl,rfl,0,rfl,Nat.zero_le _,fun j x hj=>absurd hj (Nat.not_lt_zero _)⟩,?_⟩
 rintro _ _ _ ⟨rfl,rfl,n,rfl,hn,hall⟩
 refine Aa (fun g=>?_) fun g=>?_
 ·have hr:=Ob l n (by omega)
  rw[Ab ((l.length:Int)-1) (by omega) (by omega),Ab _ (by omega) (by omega),show Int.toNat ((l.length:Int)-1-(n:Int))=l.length-1-n by omega]
  refine⟨⟨by omega,by omega⟩,?_⟩
  generalize List.getD l (l.length-1-n) 0=c at hr⊢
  refine Aa (fun g2=>?_) fun g2=>?_
  ·rw[Ab _ (by omega) (by omega)]
   refine⟨⟨rfl,rfl,n+1,by omega,by omega,fun j x hj hx=>?_⟩,by dsimp only;omega⟩
   by_cases hjn:j=n
   ·subst hjn
    rw[hr]at hx
    rw[<-Option.some.inj hx]
    simpa [<-UInt8.toNat_inj]using (by omega:c.toNat=48)
   ·exact hall j x (by omega) hx
  ·have:Bi l=n:=LA _ n (by simpa using hn) hall fun x hx=>by
    rw[hr]at hx
    rw[<-Option.some.inj hx]
    have:c≠48:=fun e=>g2 (by rw[e];rfl)
    simpa using this
   rw[<-this];exact hk
 ·have:Bi l=n:=LA _ n (by simpa using hn) hall fun x hx=>by
   rw[List.getElem?_eq_none (by simp;omega)]at hx;cases hx
  rw[<-this];exact hk
theorem Dz {l:B8} {n:Nat} (h:n<l.length):List.getD l n 0∈l:=by
 rw[List.getD_eq_getElem?_getD,List.getElem?_eq_getElem h,Option.getD_some]
 exact List.getElem_mem h
theorem Lv {P:UInt8->Prop} {l:B8} {n:Nat} (h:n<l.length) (h1:∀c,c∈l.take n->P c) (h2:P (List.getD l n 0)):∀c,c∈l.take (n+1)->P c:=by
 intro c hc
 rw[Ei _ _ 0 h]at hc
 rcases List.mem_append.1 hc with hc | hc
 ·exact h1 c hc
 ·rw[List.mem_singleton.1 hc];exact h2
theorem all_ok {l:B8} (hl:l.length<=2000000) {st:St} {K:Bool->St->Prop} (hk:K (decide (∀c,c∈l->AH c)) st):CallT PR DZ [.str l] [.one .bool] st K:=by
 refine Je l st K ⟨fun i s m st'=>l=s/\(l.length:Int)=m/\st=st'/\∃n:Nat,i=n/\n<=l.length/\∀c,c∈l.take n->AH c,fun i _ _ _=>(l.length-i).toNat,⟨rfl,rfl,rfl,0,rfl,Nat.zero_le _,fun c hc=>by simp at hc⟩,?_⟩
 rintro _ _ _ _ ⟨rfl,rfl,rfl,n,rfl,hn,hall⟩
 refine Aa (fun g=>?_) fun g=>?_
 ·have hm:=Dz (l:=l) (n:=n) (by omega)
  have bad:¬AH (List.getD l n 0)->K false st:=fun hb=>by
   rw[decide_eq_false fun h=>hb (h _ hm)]at hk;exact hk
  rw[Int.toNat_natCast]
  refine⟨⟨by omega,by omega⟩,Aa (fun g2=>bad (by unfold AH;omega)) fun g2=>⟨⟨by omega,by omega⟩,Aa (fun g3=>bad (by unfold AH;omega)) fun g3=>?_⟩⟩
  rw[Ab _ (by omega) (by omega)]
  exact⟨⟨rfl,rfl,rfl,n+1,by omega,by omega,Lv (by omega) hall (by unfold AH;omega)⟩,by dsimp only;omega⟩
 ·have:n=l.length:=by omega
  subst this
  rw[List.take_length]at hall
  rw[decide_eq_true hall]at hk;exact hk
theorem LQ {l:B8} (hl:l.length<=2000000) {st:St} {K:Bool->St->Prop} (hk:K (decide (∀c,c∈l->AH c)) st):CallT PR BE [.str l] [.one .bool] st K:=by
 refine Ez l st K ⟨fun i s st'=>l=s/\st=st'/\∃n:Nat,i=n/\n<=l.length/\∀c,c∈l.take n->AH c,fun i _ _=>(l.length-i).toNat,⟨rfl,rfl,0,rfl,Nat.zero_le _,fun c hc=>by simp at hc⟩,?_⟩
 rintro _ _ _ ⟨rfl,rfl,n,rfl,hn,hall⟩
 refine Aa (fun g=>?_) fun g=>?_
 ·have hm:=Dz (l:=l) (n:=n) (by omega)
  have bad:¬AH (List.getD l n 0)->K false st:=fun hb=>by
   rw[decide_eq_false fun h=>hb (h _ hm)]at hk;exact hk
  rw[Int.toNat_natCast]
  refine⟨⟨by omega,by omega⟩,Aa (fun g2=>bad (by unfold AH;omega)) fun g2=>⟨⟨by omega,by omega⟩,Aa (fun g3=>bad (by unfold AH;omega)) fun g3=>?_⟩⟩
  rw[Ab _ (by omega) (by omega)]
  exact⟨⟨rfl,rfl,n+1,by omega,by omega,Lv (by omega) hall (by unfold AH;omega)⟩,by dsimp only;omega⟩
 ·have:n=l.length:=by omega
  subst this
  rw[List.take_length]at hall
  rw[decide_eq_true hall]at hk;exact hk
def Hc (l:B8):Prop:=l.length<=600/\(∀c,c∈l->AH c)/\(l≠ []->l.getD 0 0≠48)
instance (l:B8):Decidable (Hc l):=inferInstanceAs (Decidable (_/\_/\(_->_)))
theorem ne48 (c:UInt8):decide ((c.toNat:Int)≠48)=decide (c≠48):=by
 have:((c.toNat:Int)≠48)↔c≠48:=by rw[ne_eq,ne_eq,<-UInt8.toNat_inj];exact not_congr ⟨fun h=>Int.ofNat.inj h,fun h=>by rw[h];rfl⟩
 exact decide_eq_decide.2 this
theorem NK {l:B8} (hl:l.length<=2000000) {st:St} {K:Bool->St->Prop} (hk:K (decide (Hc l)) st):CallT PR C0 [.str l] [.one .bool] st K:=by
 have no:¬Hc l->K false st:=fun h=>by rw[decide_eq_false h]at hk;exact hk
 refine H4 l st K (Aa (fun g=>all_ok hl (Aa (fun g2=>Aa (fun g3=>?_) fun g3=>⟨⟨by omega,by have:=List.length_pos_iff.2 g3;omega⟩,?_⟩) fun g2=>no fun h=>g2 h.2.1)) fun g=>no fun h=>g (by have:=h.1;omega))
 ·rw[decide_eq_true (show Hc l from⟨by omega,g2,fun h=>absurd g3 h⟩)]at hk;exact hk
 ·rw[ne48]
  refine DM (decide_eq_decide.2 ?_) hk
  exact⟨fun h=>⟨by omega,g2,fun _=>h⟩,fun h=>h.2.2 g3⟩
theorem rNum_ok {l:B8} (hl:l.length<=2000000) {st:St} {K:Bool->St->Prop} (hk:K (decide (Hc l)) st):CallT PR BM [.str l] [.one .bool] st K:=by
 have no:¬Hc l->K false st:=fun h=>by rw[decide_eq_false h]at hk;exact hk
 refine E9 l st K (Aa (fun g=>LQ hl (Aa (fun g2=>Aa (fun g3=>?_) fun g3=>⟨⟨by omega,by omega⟩,?_⟩) fun g2=>no fun h=>g2 h.2.1)) fun g=>no fun h=>g (by have:=h.1;omega))
 ·rw[decide_eq_true (show Hc l from⟨by omega,g2,fun h=>absurd (List.eq_nil_of_length_eq_zero (by omega)) h⟩)]at hk;exact hk
 ·rw[ne48]
  refine DM (decide_eq_decide.2 ?_) hk
  exact⟨fun h=>⟨by omega,g2,fun _=>h⟩,fun h=>h.2.2 fun e=>g3 (by rw[e];rfl)⟩
theorem VlR.cells {st:St} {s:Sc} {l:List Vl} {f:List Fd} {cs:List TV} (h:VlR st (.mk s l f) cs):∃ub ul uf xl xf,cs=EO s ub ul uf/\SlR st 1 ub s.bytes.length (AE s.bytes)/\SlR st 13 ul l.length xl/\VsR st l xl/\SlR st 14 uf f.length xf/\FsR st f xf:=by
 unfold VlR at h
 obtain⟨ub,ul,uf,xl,xf,rfl,h⟩:=h
 exact⟨ub,ul,uf,xl,xf,rfl,h⟩
theorem szs (s:Sc) (l:List Vl) (f:List Fd):(Vl.mk s l f).sz=1+s.bytes.length+s.text.length+s.dg.length+Kx l+Lg f:=by unfold Vl.sz;rfl
theorem szd (k:B8) (v:Vl):(Fd.mk k v).sz=k.length+v.sz:=by unfold Fd.sz;rfl
theorem MQ {st0 st:St} {uf:TV} {xf:List TV} {l:List Fd} (hke:Hd st0 st) (h2:SlR st0 14 uf l.length xf) (h3:FsR st0 l xf) {k:Nat} {d:Fd} (hd:l[k]? =some d):Ag st [] (.t (Bo (ixT 14 uf k) 0)) 0=some (.str d.key):=by
 obtain⟨hk,_⟩:=List.getElem?_eq_some_iff.1 hd
 obtain⟨cw,hw,hcw,hcl⟩:=h3.get hd
 have hx:xf[k*14+0]? =some (.str d.key):=by
  cases d with
  | mk key w=>
   unfold FdR at hw
   obtain⟨cs,rfl,_⟩:=hw
   have:=congrArg (fun z=>z[0]?) hcw
   simpa [Fd.key]using this
 exact(h2.keep hke).ldf h3.len hk (by omega) hx
end Go.TVF
section
namespace Go.TVF
open Go.IntKind(i64 u8)
open Go Go.Proofs Go.ChangeShapes
section
variable {H:Type} {enc:TypeId×Value->H} {P:Program} {w:World} {base:Nat} {held:Bool}
def Op (enc:TypeId×Value->H) (P:Program) (w:World) (base:Nat) (held:Bool) (n c:Nat) (S:List TV->Prop) (e:TypeId):Prop:=
 P.cellsOf e=c/\∀vs x,DataW.trod enc P w base (fun _=>true) held n e vs=some x->∃tv,AA (Af.start w) w tv vs/\tv.length=c/\S tv
end
end Go.TVF
end
namespace Go.TVF
open Go.IntKind(i64 u8)
open Go Go.Proofs
def Aj (s:B8):B8:=s.takeWhile fun c=>decide (AH c)
def DK (n:Nat) (l:B8):Nat:=l.foldl (fun n c=>10*n+(c.toNat-48)) n
def A3 (l:B8):Nat:=DK 0 l
def AI (l:B8):B8:=l.dropWhile (·==48)
def dcN (neg:Bool) (s:B8) (ex:Int):Bool×B8×Int×Int:=
 if s=[]then(false,[],0,0)else if 400<ex+Bi s∨ex+Bi s< -400∨120<s.length-Bi s then(false,[],0,2)else(neg,s.take (s.length-Bi s),ex+Bi s,0)
def Gi:Bool×B8×Int×Int:=(false,[],0,3)
def dcX (neg:Bool) (all:B8) (ex:Int) (less:Bool) (r:B8):Bool×B8×Int×Int:=
 if r=[]∨(Aj r).length≠r.length then Gi else dcN neg (AI all) (if less then ex-A3 r else ex+A3 r)
def dcE (neg:Bool) (all:B8) (ex:Int) (r:B8):Bool×B8×Int×Int:=
 if r=[]then dcN neg (AI all) ex else if r.getD 0 0=101∨r.getD 0 0=69 then
  (if (r.drop 1).getD 0 0=45 then dcX neg all ex true (r.drop 2)else if (r.drop 1).getD 0 0=43 then dcX neg all ex false (r.drop 2)else dcX neg all ex false (r.drop 1))
 else Gi
def dcF (neg:Bool) (a:B8) (r:B8):Bool×B8×Int×Int:=
 if r.getD 0 0=46 then(if Aj (r.drop 1)=[]then Gi else dcE neg (a++Aj (r.drop 1)) (-(Aj (r.drop 1)).length) (r.drop (1+(Aj (r.drop 1)).length)))
 else dcE neg a 0 r
def dcQ (neg:Bool) (s:B8):Bool×B8×Int×Int:=
 if Aj s=[]∨(1<(Aj s).length/\s.getD 0 0=48)then Gi else dcF neg (Aj s) (s.drop (Aj s).length)
def dcP (s:B8):Bool×B8×Int×Int:=if s.getD 0 0=45 then dcQ true (s.drop 1)else dcQ false s
theorem DB (s:B8):∀c,c∈Aj s->AH c:=by
 induction s with
 | nil=>intro c h;cases h
 | cons a s ih=>
  intro c h
  unfold Aj at h ih
  rw[List.takeWhile_cons]at h
  split at h
  ·rename_i hd
   rcases List.mem_cons.1 h with rfl | h
   ·exact of_decide_eq_true hd
   ·exact ih c h
  ·cases h
theorem Bs (s:B8):(Aj s).length<=s.length:=(List.takeWhile_sublist _).length_le
theorem HH (s:B8):s=Aj s++s.drop (Aj s).length:=by
 induction s with
 | nil=>rfl
 | cons a s ih=>
  unfold Aj at ih⊢
  rw[List.takeWhile_cons]
  split
  ·rw[List.length_cons,List.drop_succ_cons,List.cons_append,<-ih]
  ·rfl
theorem Ck (s:B8):s.take (Aj s).length=Aj s:=by
 have h:=HH s
 have:s.take (Aj s).length=(Aj s++s.drop (Aj s).length).take (Aj s).length:=by rw[<-h]
 rw[this,List.take_left]
theorem Ii (l:B8):Bi l<=l.length:=by
 unfold Bi
 have:=(List.takeWhile_sublist (l:=l.reverse) (fun x:UInt8=>x==48)).length_le
 rwa [List.length_reverse]at this
theorem Fo {c:UInt8} {l:B8} (h:c≠48):AI (c::l)=c::l:=by
 unfold AI;rw[List.dropWhile_cons,if_neg (by simpa using h)]
theorem Gt (k:Nat) (l:B8):AI (List.replicate k 48++l)=AI l:=by
 induction k with
 | zero=>rfl
 | succ k ih=>rw[List.replicate_succ,List.cons_append];unfold AI at ih⊢;rw[List.dropWhile_cons,if_pos (by simp),ih]
theorem KA (n:Nat) (a b:B8):DK n (a++b)=DK (DK n a) b:=by
 unfold DK;rw[List.foldl_append]
def b0 (s:B8) (k:Nat):UInt8:=s.getD k 0
def dv (s:B8) (k:Nat):Nat:=(b0 s k).toNat-48
def d2 (s:B8) (k:Nat):Nat:=dv s k*10+dv s (k+1)
def dd (s:B8) (k:Nat):Prop:=AH (b0 s k)/\AH (b0 s (k+1))
instance (s:B8) (k:Nat):Decidable (dd s k):=inferInstanceAs (Decidable (_/\_))
def Gd (s:B8):Prop:=dd s 0/\b0 s 2=58/\dd s 3/\b0 s 5=58/\dd s 6
instance (s:B8):Decidable (Gd s):=inferInstanceAs (Decidable (_/\_/\_/\_/\_))
def Ct (s:B8):Prop:=dd s 0/\dd s 2/\b0 s 4=45/\dd s 5/\b0 s 7=45/\dd s 8
instance (s:B8):Decidable (Ct s):=inferInstanceAs (Decidable (_/\_/\_/\_/\_/\_))
def IR (f:B8):Nat:=A3 (f++List.replicate (9-f.length) 48)
def D4 (s:B8):Option (Nat×Nat×Nat×Nat×B8):=
 if Gd s then
  (if b0 s 8=46 then(if Aj (s.drop 9)=[]∨9<(Aj (s.drop 9)).length then none else some (d2 s 0,d2 s 3,d2 s 6,IR (Aj (s.drop 9)),s.drop (9+(Aj (s.drop 9)).length)))
  else some (d2 s 0,d2 s 3,d2 s 6,0,s.drop 8))
 else none
def H9 (s:B8):Option (Bool×Nat×Nat):=
 if s=[90]∨s=[122]then some (false,0,0)else if s.length=6/\(b0 s 0=43∨b0 s 0=45)/\dd s 1/\b0 s 3=58/\dd s 4 then some (decide (b0 s 0=45),d2 s 1,d2 s 4)else none
def okD (y m d:Nat):Prop:=1<=y/\y<=9999/\1<=m/\m<=12/\1<=d/\d<=HC y m
instance (y m d:Nat):Decidable (okD y m d):=inferInstanceAs (Decidable (_/\_/\_/\_/\_/\_))
def F3 (y m d:Nat):Nat:=yrS y+FA y m+(d-1)
abbrev TmR:=Int×Int×Int×Int×Int
def ES:TmR:=(0,0,0,0,3)
def ER:TmR:=(0,0,0,0,2)
def okC (h m s:Nat):Prop:=h<=23/\m<=59/\s<=59
instance (h m s:Nat):Decidable (okC h m s):=inferInstanceAs (Decidable (_/\_/\_))
def De (h m s f:Nat):Nat:=((h*60+m)*60+s)*1000000000+f
def tmO (y mo d h m s f:Nat) (r:B8):TmR:=
 if r=[]then(if okD y mo d/\okC h m s then(3,(F3 y mo d:Nat),(De h m s f:Nat),0,0)else ER)
 else match H9 r with
  | none=>ES
  | some (ls,oh,om)=>if okD y mo d/\okC h m s/\oh<=23/\om<=59 then(4,(F3 y mo d:Nat),(De h m s f:Nat),if ls then-((oh*60+om:Nat):Int)else((oh*60+om:Nat):Int),0)else ER
def tmD (y mo d:Nat) (r:B8):TmR:=
 if r=[]then(if okD y mo d then(1,(F3 y mo d:Nat),0,0,0)else ER)
 else if b0 r 0=84∨b0 r 0=116∨b0 r 0=32 then
  match D4 (r.drop 1)with
  | none=>ES
  | some (h,m,s,f,r')=>tmO y mo d h m s f r'
 else ES
def tmP (s:B8):TmR:=
 if Ct s then tmD (d2 s 0*100+d2 s 2) (d2 s 5) (d2 s 8) (s.drop 10)
 else match D4 s with
  | none=>ES
  | some (h,m,sc,f,r)=>if r=[]then(if okC h m sc then(2,0,(De h m sc f:Nat),0,0)else ER)else ES
theorem GL:∀(l:B8) (a:Nat),DK a l=a*10^l.length+DK 0 l
 | [],a=>by simp[DK]
 | c::l,a=>by
  have h1:=GL l (10*a+(c.toNat-48))
  have h2:=GL l (10*0+(c.toNat-48))
  show DK (10*a+(c.toNat-48)) l=_+DK (10*0+(c.toNat-48)) l
  rw[h1,h2,List.length_cons,Nat.pow_succ,Nat.add_mul,Nat.add_mul]
  have:10*a*10^l.length=a*(10^l.length*10):=by rw[Nat.mul_comm 10 a,Nat.mul_assoc,Nat.mul_comm 10]
  omega
theorem G2 (y m:Nat):HC y m<=31:=by
 have ite:∀{p:Prop} [Decidable p] {a b:Nat},a<=31->b<=31->(if p then a else b)<=31:=fun h1 h2=>by split<;>assumption
 unfold HC
 exact ite (ite (by omega) (by omega)) (ite (by omega) (by omega))
theorem FK:∀(l:B8),(∀c,c∈l->AH c)->A3 l<10^l.length
 | [],_=>by decide
 | c::l,h=>by
  have ih:=FK l fun x hx=>h x (.tail _ hx)
  have hc:=(h c (.head _)).2
  unfold A3 at ih⊢
  rw[show DK 0 (c::l)=DK (c.toNat-48) l by simp[DK],GL,List.length_cons,Nat.pow_succ]
  have:(c.toNat-48)*10^l.length<=9*10^l.length:=Nat.mul_le_mul_right _ (by omega)
  omega
theorem valN_ge {c:UInt8} {l:B8} (hc:AH c) (h0:c≠48):10^l.length<=A3 (c::l):=by
 unfold A3
 rw[show DK 0 (c::l)=DK (c.toNat-48) l by simp[DK],GL]
 have h1:=hc.1
 have h2:c.toNat≠48:=fun e=>h0 (UInt8.toNat_inj.1 (by simpa using e))
 have:1*10^l.length<=(c.toNat-48)*10^l.length:=Nat.mul_le_mul_right _ (by omega)
 omega
theorem Dv:∀l:B8,A3 (AI l)=A3 l
 | []=>rfl
 | c::l=>by
  by_cases h:c=48
  ·subst h
   have:=Gt 1 l
   rw[show List.replicate 1 (48:UInt8)++l=48::l from rfl]at this
   rw[this,Dv l]
   unfold A3
   rw[show DK 0 (48::l)=DK 0 l by simp[DK]]
  ·rw[Fo h]
theorem EB (l:B8):∀c,c∈AI l->c∈l:=fun c h=>(List.dropWhile_sublist (l:=l) (fun x:UInt8=>x==48)).subset h
theorem CJ (l:B8):(AI l).length<=l.length:=(List.dropWhile_sublist (l:=l) (fun x:UInt8=>x==48)).length_le
theorem Fn (l:B8):(AI l).getD 0 0≠48:=by
 induction l with
 | nil=>decide
 | cons c l ih=>
  by_cases h:c=48
  ·subst h
   have:=Gt 1 l
   rw[show List.replicate 1 (48:UInt8)++l=48::l from rfl]at this
   rw[this];exact ih
  ·rw[Fo h];exact h
theorem Kz {l:B8} {k:Nat} (h:∀c,c∈l->AH c) (hk:k<(AI l).length):10^k<=A3 l:=by
 rw[<-Dv l]
 have h0:=Fn l
 have hs:=EB l
 generalize AI l=m at*
 cases m with
 | nil=>exact absurd hk (Nat.not_lt_zero _)
 | cons c m=>
  have:=valN_ge (l:=m) (h c (hs c (.head _))) h0
  rw[List.length_cons]at hk
  exact Nat.le_trans (Nat.pow_le_pow_right (by decide) (by omega)) this
theorem Js {l:B8} {k:Nat} (h:∀c,c∈l->AH c) (hk:(AI l).length<=k):A3 l<10^k:=by
 rw[<-Dv l]
 exact Nat.lt_of_lt_of_le (FK _ fun c hc=>h c (EB l c hc)) (Nat.pow_le_pow_right (by decide) hk)
theorem M6 {neg:Bool} {s:B8} {ex n m:Int} (hl:s.length<=100000000) (h1: -100000000<=ex) (h2:ex<=100000000) (hn:1000000000<=n) (hm:1000000000<=m) (less:Bool):
  dcN neg s (if less then ex-n else ex+n)=dcN neg s (if less then ex-m else ex+m):=by
 unfold dcN
 have hz:=Ii s
 by_cases h:s=[]
 ·rw[if_pos h,if_pos h]
 ·rw[if_neg h,if_neg h]
  cases less with
  | true=>
   simp only[if_true]
   rw[if_pos (by omega),if_pos (by omega)]
  | false=>
   simp only[Bool.false_eq_true,if_false]
   rw[if_pos (by omega),if_pos (by omega)]
theorem M5 (neg:Bool) (s:B8) (ex:Int):(dcN neg s ex).2.1.length<=s.length:=by
 unfold dcN
 split
 ·simp
 split
 ·simp
 ·show(s.take _).length<=_
  rw[List.length_take];omega
theorem Kk (neg:Bool) (all:B8) (ex:Int) (less:Bool) (r:B8):(dcX neg all ex less r).2.1.length<=all.length:=by
 unfold dcX
 split
 ·simp[Gi]
 ·exact Nat.le_trans (M5 _ _ _) (CJ all)
theorem M8 (neg:Bool) (all:B8) (ex:Int) (r:B8):(dcE neg all ex r).2.1.length<=all.length:=by
 unfold dcE
 split
 ·exact Nat.le_trans (M5 _ _ _) (CJ all)
 split
 ·split
  ·exact Kk _ _ _ _ _
  split
  ·exact Kk _ _ _ _ _
  ·exact Kk _ _ _ _ _
 ·simp[Gi]
theorem dcF_len (neg:Bool) (a r:B8):(dcF neg a r).2.1.length<=a.length+r.length:=by
 unfold dcF
 split
 ·split
  ·simp[Gi]
  ·refine Nat.le_trans (M8 _ _ _ _) ?_
   rw[List.length_append]
   have:=Bs (r.drop 1)
   rw[List.length_drop]at this
   omega
 ·exact Nat.le_trans (M8 _ _ _ _) (Nat.le_add_right _ _)
theorem MY (neg:Bool) (s:B8):(dcQ neg s).2.1.length<=s.length:=by
 unfold dcQ
 split
 ·simp[Gi]
 ·refine Nat.le_trans (dcF_len _ _ _) ?_
  have:=Bs s
  rw[List.length_drop];omega
theorem dcP_len (s:B8):(dcP s).2.1.length<=s.length:=by
 unfold dcP
 split
 ·refine Nat.le_trans (MY _ _) ?_
  rw[List.length_drop];omega
 ·exact MY _ _
theorem HK {l:B8} {c:UInt8} (hc:c.toNat<128) {st:St} {K:B8->St->Prop} (hk:K (l.dropWhile (·==c)) st):CallT PR B9 [.str l,.str [c]] [.one .str] st K:=by
 refine Cv (fun _ _=>by kernel_rfl) fun g w vargs s hr=>?_
 obtain⟨v,u,rfl,hv,hu⟩:=IB hr
 rw[Cr hv,Cr hu]
 refine Calls.mono (Tryz.strings_TrimLeft_one ⟨l.toArray⟩ c hc w) ?_
 rintro e w' ⟨rfl,rfl⟩
 exact⟨_,rfl,.str _,st,g,hk,s,Rel.str _,Ext.refl _ _⟩
theorem G5 {s p:B8} {st:St} {K:Bool->St->Prop} (hk:K (decide (s.take p.length=p)) st):CallT PR AF [.str s,.str p] [.one (.bool)] st K:=by
 refine Fg s p st K (DV s p st _ (Aa (fun h=>⟨⟨by omega,h⟩,?_⟩) fun h=>?_))
 ·exact hk
 ·have:¬s.take p.length=p:=fun h0=>by
   have:=congrArg List.length h0
   rw[List.length_take]at this
   omega
  rw[decide_eq_false this]at hk
  exact hk
theorem u8i {c k:UInt8}:((c.toNat:Int)=(k.toNat:Int))↔c=k:=⟨fun h=>UInt8.toNat_inj.1 (by omega),fun h=>by rw[h]⟩
theorem take1 {s:B8} {c:UInt8} (hc:c≠0):s.take [c].length=[c]↔s.getD 0 0=c:=by
 cases s with
 | nil=>exact⟨fun h=>absurd h (by simp),fun h=>absurd (show(0:UInt8)=c from h).symm hc⟩
 | cons a s=>show [a]=[c]↔a=c;simp
theorem FP {s:B8} {c:UInt8} (hc:c≠0) {st:St} {K:Bool->St->Prop} (hk:K (decide (s.getD 0 0=c)) st):CallT PR AF [.str s,.str [c]] [.one (.bool)] st K:=
 G5 (by rw[decide_eq_decide.2 (take1 hc)];exact hk)
theorem El:∀(s:B8) (k:Nat),k<=s.length->(∀j,j<k->AH (s.getD j 0))->(k=s.length∨¬AH (s.getD k 0))->(Aj s).length=k
 | [],k,h,_,_=>by
  have:k=0:=by simpa using h
  subst this;rfl
 | a::s,0,_,_,h=>by
  have h2:¬AH a:=by
   rcases h with h | h
   ·simp at h
   ·exact h
  unfold Aj
  rw[List.takeWhile_cons_of_neg (by simpa using h2)];rfl
 | a::s,k+1,h1,h2,h3=>by
  have ha:AH a:=h2 0 (by omega)
  have ih:=El s k (by simpa using h1) (fun j hj=>h2 (j+1) (by omega)) (by
   rcases h3 with h3 | h3
   ·exact .inl (by simpa using h3)
   ·exact .inr h3)
  unfold Aj at ih⊢
  rw[List.takeWhile_cons_of_pos (by simpa using ha),List.length_cons,ih]
theorem LH {s:B8} (hl:s.length<=1000000000) {st:St} {K:Int->St->Prop} (hk:K ((Aj s).length:Nat) st):CallT PR BV [.str s] [.one (.int .i64)] st K:=by
 refine Il s st K ⟨fun n s' st'=>s=s'/\st=st'/\∃k:Nat,n=k/\k<=s.length/\∀j,j<k->AH (s.getD j 0),fun n _ _=>(s.length-n).toNat,⟨rfl,rfl,0,rfl,Nat.zero_le _,fun j h=>absurd h (Nat.not_lt_zero _)⟩,?_⟩
 rintro _ _ _ ⟨rfl,rfl,k,rfl,hk1,hd⟩
 rw[Int.toNat_natCast]
 have fin:(k=s.length∨¬AH (s.getD k 0))->K ((k:Nat):Int) st:=fun h=>by rw[El s k hk1 hd h]at hk;exact hk
 refine Aa (fun g=>⟨⟨by omega,g⟩,Aa (fun g1=>⟨⟨by omega,g⟩,Aa (fun g2=>?_) fun g2=>fin (.inr fun h=>g2 (by have:=h.2;omega))⟩) fun g1=>fin (.inr fun h=>g1 (by have:=h.1;omega))⟩) fun g=>fin (.inl (by omega))
 rw[Ab _ (by omega) (by omega)]
 refine⟨⟨rfl,rfl,k+1,by omega,by omega,fun j hj=>?_⟩,by dsimp only;omega⟩
 by_cases hjk:j=k
 ·subst hjk;exact⟨by omega,by omega⟩
 ·exact hd j (by omega)
theorem Ed {l:B8} {k:Nat} (h:k<l.length):A3 (l.take (k+1))=10*A3 (l.take k)+((List.getD l k 0).toNat-48):=by
 rw[List.take_succ_eq_append_getElem h]
 unfold A3
 rw[KA]
 have:l[k]=List.getD l k 0:=by simp[List.getD,h]
 rw[<-this];rfl
theorem EA {l:B8} (hd:∀c,c∈l->AH c) (h:l.length<=18) (k:Nat) (hk:k<l.length):A3 (l.take k)<100000000000000000:=by
 have h1:=FK (l.take k) fun c hc=>hd c (List.mem_of_mem_take hc)
 rw[List.length_take,Nat.min_eq_left (by omega)]at h1
 have:(10:Nat)^k<=10^17:=Nat.pow_le_pow_right (by decide) (by omega)
 omega
theorem NV {l:B8} (hl:l.length<=18) (hd:∀c,c∈l->AH c) (h0:l.getD 0 0≠48) {st:St} {K:Int->Int->St->Prop} (hk:K (A3 l:Nat) 0 st):CallT PR C9 [.str l] [.one (.int .i64),.one (.int .i64)] st K:=by
 refine H5 l st K (NK (by omega) ?_)
 have hno:decide (Hc l)=true:=decide_eq_true ⟨by omega,hd,fun _=>h0⟩
 rw[hno]
 refine Ay (fun h=>by cases h) fun _=>?_
 refine⟨fun n i l' m st'=>l=l'/\st=st'/\(l.length:Int)=m/\∃k:Nat,i=k/\k<=l.length/\n=(A3 (l.take k):Nat),fun _ i _ _ _=>(l.length-i).toNat,⟨rfl,rfl,rfl,0,rfl,Nat.zero_le _,rfl⟩,?_⟩
 rintro _ _ _ _ _ ⟨rfl,rfl,rfl,k,rfl,hkl,rfl⟩
 rw[Int.toNat_natCast]
 refine Aa (fun g=>⟨⟨by omega,g⟩,?_⟩) fun g=>?_
 ·have hk':k<l.length:=by omega
  have hv:=EA hd hl k hk'
  have hs:=Ed hk'
  have hc:=hd _ (Dz hk')
  obtain⟨c1,c2⟩:=hc
  rw[Gl _ (by omega) (by omega),Ab (((List.getD l k 0).toNat:Int)-48) (by omega) (by omega),Ab (9223372036854775807-_) (by omega) (by omega),Int.tdiv_eq_ediv_of_nonneg (by omega),Ab _ (by omega) (by omega)]
  refine Aa (fun g2=>by omega) fun g2=>?_
  rw[Ab (((A3 (l.take k):Nat):Int)*10) (by omega) (by omega),Ab _ (by omega) (by omega),Ab _ (by omega) (by omega)]
  exact⟨⟨rfl,rfl,rfl,k+1,by omega,by omega,by rw[hs];omega⟩,by dsimp only;omega⟩
 ·have:k=l.length:=by omega
  subst this
  rw[List.take_length];exact hk
theorem Os {ex:Int} {less:Bool} {l:B8} (h1: -100000000<=ex) (h2:ex<=100000000) (hd:∀c,c∈l->AH c) (h0:l.getD 0 0≠48) {st:St} {K:Int->St->Prop}
  (hk:K (if less then ex-((if l.length<=12 then A3 l else 1099511627776:Nat):Int)else ex+((if l.length<=12 then A3 l else 1099511627776:Nat):Int)) st):CallT PR CO [.int .i64 ex,.bool less,.str l] [.one (.int .i64)] st K:=by
 refine Hh ex less l st K (Aa (fun g=>?_) fun g=>?_)
 ·have g':l.length<=12:=by omega
  rw[if_pos g']at hk
  have hv:=FK l hd
  have:(10:Nat)^l.length<=10^12:=Nat.pow_le_pow_right (by decide) g'
  refine NV (by omega) hd h0 (Ay (fun e=>?_) fun e=>?_)
  ·rw[Ab _ (by omega) (by omega)];rw[if_pos e]at hk;exact hk
  ·rw[Ab _ (by omega) (by omega)];rw[e]at hk;exact hk
 ·rw[if_neg (show ¬l.length<=12 by omega)]at hk
  refine Ay (fun e=>?_) fun e=>?_
  ·rw[Ab _ (by omega) (by omega)];rw[if_pos e]at hk;exact hk
  ·rw[Ab _ (by omega) (by omega)];rw[e]at hk;exact hk
abbrev KD (K:Bool->B8->Int->Int->St->Prop) (r:Bool×B8×Int×Int) (st:St):Prop:=K r.1 r.2.1 r.2.2.1 r.2.2.2 st
theorem norm_ok {neg:Bool} {s:B8} {ex:Int} (hl:s.length<=2000000) (h1: -3000000000000<=ex) (h2:ex<=3000000000000) {st:St} {K:Bool->B8->Int->Int->St->Prop} (hk:KD K (dcN neg s ex) st):
  CallT PR Da [.bool neg,.str s,.int .i64 ex] [.agg [.bool,.str,.int .i64],.one (.int .i64)] st K:=by
 unfold KD dcN at hk
 refine H6 neg s ex st K (Aa (fun g=>by rw[if_pos g]at hk;exact hk) fun g=>JW (by decide) (by omega) ?_)
 rw[if_neg g]at hk
 have ht:=Iq s
 have e1:i64.wrap ((s.length:Int)-((Lib.trimRightB s 48).length:Int))=(Bi s:Nat):=by rw[Ab _ (by omega) (by omega)];omega
 rw[e1]
 have e2:i64.wrap ((s.length:Int)-(Bi s:Nat))=((s.length-Bi s:Nat):Int):=by rw[Ab _ (by omega) (by omega)];omega
 rw[e2,Int.toNat_natCast,Ab (400-_) (by omega) (by omega),Ab (-400-_) (by omega) (by omega),Ab (ex+_) (by omega) (by omega)]
 have hlen:(s.take (s.length-Bi s)).length=s.length-Bi s:=by rw[List.length_take];omega
 rw[hlen]
 refine⟨⟨by omega,by omega⟩,Aa (fun g1=>?_) fun g1=>Aa (fun g2=>?_) fun g2=>Aa (fun g3=>?_) fun g3=>?_⟩
 ·rw[if_pos (by omega)]at hk;exact hk
 ·rw[if_pos (by omega)]at hk;exact hk
 ·rw[if_pos (by omega)]at hk;exact hk
 ·rw[if_neg (by omega)]at hk;exact hk
theorem Ka {neg:Bool} {s:B8} {ex:Int} (hl:s.length<=2000000) (hd:∀c,c∈s->AH c) (h1: -3000000000000<=ex) (h2:ex<=3000000000000) {st:St} {K:Bool->B8->Int->Int->St->Prop} (hk:KD K (dcN neg (AI s) ex) st):
  CallT PR BG [.bool neg,.str s,.int .i64 ex] [.agg [.bool,.str,.int .i64],.one (.int .i64)] st K:=by
 refine H7 neg s ex st K ⟨fun i neg' s' ex' n _ _ _ st'=>neg=neg'/\s=s'/\ex=ex'/\(s.length:Int)=n/\st=st'/\0<=i,fun i _ _ _ _ _ _ _ _=>(s.length-i).toNat,⟨rfl,rfl,rfl,rfl,rfl,by omega⟩,?_⟩
 rintro i _ _ _ _ _ _ _ _ ⟨rfl,rfl,rfl,rfl,rfl,hi⟩
 refine Aa (fun g=>?_) fun g=>?_
 ·have hc:=hd _ (Dz (show i.toNat<s.length by omega))
  obtain⟨c1,c2⟩:=hc
  refine⟨⟨hi,g⟩,Aa (fun g1=>by omega) fun _=>⟨⟨hi,g⟩,Aa (fun g1=>by omega) fun _=>?_⟩⟩
  rw[Ab _ (by omega) (by omega)]
  exact⟨⟨rfl,rfl,rfl,rfl,rfl,by omega⟩,by dsimp only;omega⟩
 ·refine HK (by decide) (norm_ok (Nat.le_trans (CJ s) hl) h1 h2 hk)
theorem dP_ok {s:B8} (hl:s.length<=1000000) {st:St} {K:Bool->B8->Int->Int->St->Prop} (hk:KD K (dcP s) st):CallT PR B5 [.str s] [.agg [.bool,.str,.int .i64],.one (.int .i64)] st K:=by
 refine Hi s st K (FP (by decide) ?_)
 refine⟨fun s1 neg _ _ _ st'=>st=st'/\dcP s=dcQ neg s1/\s1.length<=s.length,Aa (fun g=>?_) fun g=>?_,?_⟩
 ·refine⟨⟨by omega,?_⟩,rfl,?_,?_⟩
  ·cases s with
   | nil=>exact absurd g (by decide)
   | cons a s=>rw[List.length_cons];omega
  ·unfold dcP;rw[if_pos g,decide_eq_true g];rfl
  ·rw[List.length_drop];omega
 ·refine⟨rfl,?_,Nat.le_refl _⟩
  unfold dcP;rw[if_neg g,decide_eq_false g]
 rintro s1 neg _ _ _ _ ⟨rfl,h1,hl1⟩
 rw[h1]at hk
 refine LH (by omega) ?_
 have hrl:=Bs s1
 refine⟨fun s2 neg2 n _ _ _ st'=>s1=s2/\neg=neg2/\n=((Aj s1).length:Nat)/\st=st'/\dcQ neg s1=dcF neg (Aj s1) (s1.drop (Aj s1).length),Aa (fun g=>?_) fun g=>Aa (fun g2=>?_) fun g2=>?_,?_⟩
 ·have:Aj s1=[]:=List.length_eq_zero_iff.1 (by omega)
  unfold KD dcQ at hk
  rw[if_pos (.inl this)]at hk;exact hk
 ·refine⟨⟨by omega,by omega⟩,Aa (fun g3=>?_) fun g3=>⟨rfl,rfl,rfl,rfl,?_⟩⟩
  ·have:s1.getD 0 0=48:=u8i.1 g3
   unfold KD dcQ at hk
   rw[if_pos (.inr ⟨by omega,this⟩)]at hk;exact hk
  ·unfold dcQ
   rw[if_neg]
   rintro(h | ⟨_,h⟩)
   ·exact g (by rw[h];rfl)
   ·exact g3 (by show((s1.getD 0 0).toNat:Int)=48;rw[h];rfl)
 ·refine⟨rfl,rfl,rfl,rfl,?_⟩
  unfold dcQ
  rw[if_neg]
  rintro(h | ⟨h,_⟩)
  ·exact g (by rw[h];rfl)
  ·omega
 rintro _ _ _ _ _ _ _ ⟨rfl,rfl,rfl,rfl,h2⟩
 rw[h2]at hk
 rw[Int.toNat_natCast,Ck]
 refine⟨⟨by omega,by omega⟩,⟨by omega,by omega⟩,?_⟩
 have hdg:=DB s1
 generalize hr:s1.drop (Aj s1).length=r at*
 generalize ha:Aj s1=a at*
 have hrl2:a.length+r.length<=1000000:=by
  have:r.length=s1.length-a.length:=by rw[<-hr,List.length_drop]
  omega
 clear hr ha h1 h2
 refine⟨fun s3 all ex neg3 _ _ _ st'=>neg=neg3/\st=st'/\dcF neg a r=dcE neg all ex s3/\ -1000000<=ex/\ex<=0/\all.length<=1000000/\s3.length<=1000000/\∀c,c∈all->AH c,FP (by decide) (Aa (fun g=>?_) fun g=>?_),?_⟩
 ·have hr1:1<=r.length:=by
   cases r with
   | nil=>exact absurd g (by decide)
   | cons c r=>rw[List.length_cons];omega
  refine⟨⟨by omega,by omega⟩,LH (by show(r.drop 1).length<=_;rw[List.length_drop];omega) ?_⟩
  rw[show Int.toNat (1:Int)=1 from rfl]
  have hd1:=Bs (r.drop 1)
  have hd2:=DB (r.drop 1)
  have hd3:=Ck (r.drop 1)
  rw[List.length_drop]at hd1
  generalize hf:Aj (r.drop 1)=f at*
  refine Aa (fun g2=>?_) fun g2=>?_
  ·have:f=[]:=List.length_eq_zero_iff.1 (by omega)
   unfold KD dcF at hk
   rw[if_pos g,hf,if_pos this]at hk;exact hk
  ·rw[Ab (((f.length:Nat):Int)+1) (by omega) (by omega),Ab (0-_) (by omega) (by omega),show((((f.length:Nat):Int)+1).toNat)=1+f.length by omega]
   have hdt:(r.take (1+f.length)).drop 1=f:=by rw[List.drop_take,Nat.add_sub_cancel_left];exact hd3
   refine⟨⟨by omega,by omega,by omega⟩,?_⟩
   show(a.length+((r.take (1+f.length)).drop 1).length<=_)/\_
   rw[hdt]
   refine⟨by omega,⟨by omega,by omega⟩,rfl,rfl,?_,by omega,by omega,by rw[List.length_append];omega,by rw[List.length_drop];omega,fun c hc=>?_⟩
   ·unfold dcF
    rw[if_pos g,hf,if_neg (fun e=>g2 (by rw[e];rfl))]
    rw[show(0:Int)-(f.length:Nat)= -(f.length:Nat) by omega]
   ·rcases List.mem_append.1 hc with hc | hc
    ·exact hdg c hc
    ·exact hd2 c hc
 ·refine⟨rfl,rfl,?_,by omega,by omega,by omega,by omega,hdg⟩
  unfold dcF;rw[if_neg g]
 rintro s3 all ex _ _ _ _ _ ⟨rfl,rfl,h3,x1,x2,x3,x4,x5⟩
 rw[h3]at hk
 clear h3 hdg hrl2
 refine Aa (fun g=>?_) fun g=>?_
 ·have hpos:1<=s3.length:=List.length_pos_iff.2 g
  refine⟨fun s4 neg4 all4 ex4 _ _ _ st'=>s3=s4/\neg=neg4/\all=all4/\ex=ex4/\st=st'/\(s3.getD 0 0=101∨s3.getD 0 0=69),?_,?_⟩
  ·have n101:((s3.getD 0 0).toNat:Int)≠101↔s3.getD 0 0≠101:=not_congr (u8i (k:=101))
   have n69:((s3.getD 0 0).toNat:Int)≠69↔s3.getD 0 0≠69:=not_congr (u8i (k:=69))
   refine⟨⟨by omega,by omega⟩,Aa (fun g1=>⟨⟨by omega,by omega⟩,Aa (fun g2=>?_) fun g2=>⟨rfl,rfl,rfl,rfl,rfl,.inr (Decidable.not_not.1 fun h=>g2 (n69.2 h))⟩⟩) fun g1=>⟨rfl,rfl,rfl,rfl,rfl,.inl (Decidable.not_not.1 fun h=>g1 (n101.2 h))⟩⟩
   unfold KD dcE at hk
   rw[if_neg g,if_neg (by rintro(h | h);exact n101.1 g1 h;exact n69.1 g2 h)]at hk
   exact hk
  rintro _ _ _ _ _ _ _ _ ⟨rfl,rfl,rfl,rfl,rfl,he⟩
  unfold KD dcE at hk
  rw[if_neg g,if_pos he]at hk
  refine⟨⟨by omega,by omega⟩,FP (by decide) ?_⟩
  show ∃_,_
  refine⟨fun s5 neg5 all5 ex5 less _ _ _ st'=>neg=neg5/\all=all5/\ex=ex5/\st=st'/\s5.length<=1000000/\KD K (dcX neg all ex less s5) st,Aa (fun g1=>?_) fun g1=>FP (by decide) (Aa (fun g2=>?_) fun g2=>?_),?_⟩
  ·have g1':(s3.drop 1).getD 0 0=45:=g1
   rw[if_pos g1']at hk
   refine⟨⟨by omega,?_⟩,rfl,rfl,rfl,rfl,?_,?_⟩
   ·have:1<=(s3.drop 1).length:=by
     cases hc:s3.drop 1 with
     | nil=>rw[hc]at g1';exact absurd g1' (by decide)
     | cons c r=>rw[List.length_cons];omega
    exact Int.ofNat_le.2 this
   ·show((s3.drop 1).drop 1).length<=_;rw[List.length_drop,List.length_drop];omega
   ·rw[decide_eq_true g1]
    show KD K (dcX neg all ex true ((s3.drop 1).drop 1)) st
    rw[List.drop_drop];exact hk
  ·have g1':¬(s3.drop 1).getD 0 0=45:=g1
   have g2':(s3.drop 1).getD 0 0=43:=g2
   rw[if_neg g1',if_pos g2']at hk
   refine⟨⟨by omega,?_⟩,rfl,rfl,rfl,rfl,?_,?_⟩
   ·have:1<=(s3.drop 1).length:=by
     cases hc:s3.drop 1 with
     | nil=>rw[hc]at g2';exact absurd g2' (by decide)
     | cons c r=>rw[List.length_cons];omega
    exact Int.ofNat_le.2 this
   ·show((s3.drop 1).drop 1).length<=_;rw[List.length_drop,List.length_drop];omega
   ·rw[decide_eq_false g1]
    show KD K (dcX neg all ex false ((s3.drop 1).drop 1)) st
    rw[List.drop_drop];exact hk
  ·have g1':¬(s3.drop 1).getD 0 0=45:=g1
   have g2':¬(s3.drop 1).getD 0 0=43:=g2
   rw[if_neg g1',if_neg g2']at hk
   refine⟨rfl,rfl,rfl,rfl,?_,?_⟩
   ·show(s3.drop 1).length<=_;rw[List.length_drop];omega
   ·rw[decide_eq_false g1];exact hk
  rintro s5 _ _ _ less _ _ _ _ ⟨rfl,rfl,rfl,rfl,hl5,hk5⟩
  unfold KD dcX at hk5
  refine Aa (fun g1=>by rw[if_pos (.inl g1)]at hk5;exact hk5) fun g1=>LH (by omega) (Aa (fun g2=>?_) fun g2=>?_)
  ·rw[if_pos (.inr (by omega))]at hk5;exact hk5
  ·have hall:Aj s5=s5:=by
    have:=HH s5
    have h0:s5.drop (Aj s5).length=[]:=List.drop_of_length_le (by omega)
    rw[h0,List.append_nil]at this
    exact this.symm
   have hd5:∀c,c∈s5->AH c:=by rw[<-hall];exact DB s5
   rw[if_neg (by rintro(h | h);exact g1 h;exact h (by rw[hall]))]at hk5
   refine HK (by decide) (Os (by omega) (by omega) (fun c hc=>hd5 c (EB s5 c hc)) (Fn s5) ?_)
   show CallT PR BG [.bool neg,.str all,.int .i64 (if less=true then ex-((if (AI s5).length<=12 then A3 (AI s5)else 1099511627776:Nat):Int)else ex+((if (AI s5).length<=12 then A3 (AI s5)else 1099511627776:Nat):Int))] _ _ _
   rw[Dv]
   have sm:=CJ all
   by_cases h12:(AI s5).length<=12
   ·have hn:=Js hd5 h12
    rw[if_pos h12]
    refine Ka (by omega) x5 ?_ ?_ hk5
    ·split<;>omega
    ·split<;>omega
   ·have hf:=Kz (k:=12) hd5 (by omega)
    rw[if_neg h12]
    refine Ka (by omega) x5 ?_ ?_ ?_
    ·split<;>omega
    ·split<;>omega
    ·have:=M6 (neg:=neg) (s:=AI all) (ex:=ex) (n:=((1099511627776:Nat):Int)) (m:=(A3 s5:Nat)) (by omega) (by omega) (by omega) (by omega) (by omega) less
     unfold KD
     rw[this];exact hk5
 ·have g0:s3=[]:=Decidable.not_not.1 g
  unfold KD dcE at hk
  rw[if_pos g0]at hk
  exact Ka (by omega) x5 (by omega) (by omega) hk
theorem GO {α:Type} {l m:List α} {k:Nat} {x y:α} (h:l.take k=m.take k) (hx:l[k]? =some x) (hy:m[k]? =some y) (e:x=y):l.take (k+1)=m.take (k+1):=by
 rw[Ju hx,Ju hy,h,e]
theorem sc_eq {s t:Sc} (h1:s.kind=t.kind) (h2:s.b=t.b) (h3:s.neg=t.neg) (h4:s.dg=t.dg) (h5:s.ex=t.ex) (h6:s.tk=t.tk) (h7:s.td=t.td) (h8:s.tn=t.tn) (h9:s.tz=t.tz) (h10:s.text=t.text) (h11:s.bytes=t.bytes):s=t:=by
 cases s;cases t;simp_all
theorem Same_ok:∀(N:Nat) (v w:Vl),v.sz<=N->w.sz<=2000000->N<=2000000->∀{st0 st:St} {cs ds:List TV} {K:Bool->St->Prop},VlR st0 v cs->VlR st0 w ds->Hd st0 st->(∀r,(r=true↔v=w)->K r st)->
  CallT PR AZ [.agg cs,.agg ds] [.one .bool] st K:=by
 intro N
 induction N with
 | zero=>intro v w h;have:=v.sz_pos;omega
 | succ N ih=>
 intro v w hN hW hN2 st0 st cs ds K h h' hke hk
 cases v with
 | mk s l f=>
 cases w with
 | mk t m g=>
 have hsz:=szs s l f
 have hll:=Ij l
 have hfl:=IO f
 have hsz':=szs t m g
 have hll':=Ij m
 have hfl':=IO g
 obtain⟨ub,ul,uf,xl,xf,rfl,h1,h2,h3,h4,h5⟩:=h.cells
 obtain⟨wb,wl,wf,yl,yf,rfl,k1,k2,k3,k4,k5⟩:=h'.cells
 have no:(Vl.mk s l f≠Vl.mk t m g)->K false st:=fun hne=>hk false ⟨fun h=>(by cases h),fun h=>absurd h hne⟩
 have inj:Vl.mk s l f=Vl.mk t m g↔s=t/\l=m/\f=g:=by simp
 refine Fk _ _ _ _ _ _ _ _ _ _ _ _ _ _ _ _ _ _ _ _ _ _ _ _ _ _ st K ?_
 refine Aa (fun e=>no fun h=>e (by rw[(inj.1 h).1])) fun e1=>Ay (fun e=>no fun h=>?_) fun e2=>Ay (fun e=>no fun h=>?_) fun e3=>Ay (fun e=>no fun h=>?_) fun e4=>Aa (fun e=>no fun h=>e (by rw[(inj.1 h).1])) fun e5=>?_
 ·rw[(inj.1 h).1]at e;simp at e
 ·rw[(inj.1 h).1]at e;simp at e
 ·rw[(inj.1 h).1]at e;simp at e
 refine Ac (x:= .str s.bytes) (by rw[(h1.keep hke).toBytes];rfl) (AD (Ac (x:=TV.str t.bytes) (by rw[(k1.keep hke).toBytes];rfl) (AD ?_)))
 refine Aa (fun e=>no fun h=>e (by rw[(inj.1 h).1])) fun e6=>?_
 have hst:s=t:=by
  simp only[Bool.not_eq_false',Bool.and_eq_true,beq_iff_eq,decide_eq_true_eq,and_true]at e2 e3 e4
  exact sc_eq (Decidable.not_not.1 e1) e2 e3.1 e3.2.1 e3.2.2 e4.1 e4.2.1 e4.2.2.1 e4.2.2.2 (Decidable.not_not.1 e5) (Decidable.not_not.1 e6)
 subst hst
 refine Ae h2.isSl (Ae k2.isSl ?_)
 rw[h2.lenS,k2.lenS]
 refine Aa (fun e=>no fun h=>e (by rw[(inj.1 h).2.1])) fun e7=>Ae h4.isSl (Ae k4.isSl ?_)
 rw[h4.lenS,k4.lenS]
 refine Aa (fun e=>no fun h=>e (by rw[(inj.1 h).2.2])) fun e8=>?_
 have ell:l.length=m.length:=by omega
 have efl:f.length=g.length:=by omega
 refine⟨fun i a1 a2 a3 a4 a5 a6 a7 a8 a9 a10 a11 a12 a13 b1 b2 b3 b4 b5 b6 b7 b8 b9 b10 b11 b12 b13 st'=>ul=a12/\uf=a13/\wl=b12/\wf=b13/\st=st'/\∃k:Nat,i=k/\k<=l.length/\l.take k=m.take k,fun i _ _ _ _ _ _ _ _ _ _ _ _ _ _ _ _ _ _ _ _ _ _ _ _ _ _ _=>(l.length-i).toNat,
  ⟨rfl,rfl,rfl,rfl,rfl,0,rfl,Nat.zero_le _,rfl⟩,?_⟩
 rintro _ a1 a2 a3 a4 a5 a6 a7 a8 a9 a10 a11 _ _ b1 b2 b3 b4 b5 b6 b7 b8 b9 b10 b11 _ _ _ ⟨rfl,rfl,rfl,rfl,rfl,k,rfl,hkl,hE⟩
 refine Ae h2.isSl (Aa (fun q=>?_) fun q=>?_)
 ·rw[h2.lenS]at q
  refine el13 hke h2 h3 rfl (by omega) fun s1 l1 f1 ub1 ul1 uf1 gw hw on=>el13 hke k2 k3 rfl (by omega) fun s2 l2 f2 ub2 ul2 uf2 gw2 hw2 on2=>?_
  have hwsz:=Ik gw
  have hwsz2:=Ik gw2
  refine ih _ (.mk s2 l2 f2) (by omega) (by omega) (by omega) hw hw2 hke fun r hr=>Ay (fun hb=>no fun h=>?_) fun hb=>?_
  ·rw[(inj.1 h).2.1,gw2]at gw
   rw[hr.2 (Option.some.inj gw).symm]at hb;cases hb
  ·rw[Ab _ (by omega) (by omega)]
   exact⟨⟨rfl,rfl,rfl,rfl,rfl,k+1,by omega,by omega,GO hE gw gw2 (hr.1 (by simpa using hb))⟩,by dsimp only;omega⟩
 ·rw[h2.lenS]at q
  have hlm:l=m:=by
   have:k=l.length:=by omega
   rw[this,List.take_length,ell,List.take_length]at hE;exact hE
  subst hlm
  refine⟨fun i a1 a2 a3 a4 a5 a6 a7 a8 a9 a10 a11 a12 a13 b1 b2 b3 b4 b5 b6 b7 b8 b9 b10 b11 b12 b13 st'=>uf=a13/\wf=b13/\st=st'/\∃k:Nat,i=k/\k<=f.length/\f.take k=g.take k,fun i _ _ _ _ _ _ _ _ _ _ _ _ _ _ _ _ _ _ _ _ _ _ _ _ _ _ _=>(f.length-i).toNat,
   ⟨rfl,rfl,rfl,0,rfl,Nat.zero_le _,rfl⟩,?_⟩
  rintro _ a1 a2 a3 a4 a5 a6 a7 a8 a9 a10 a11 a12 _ b1 b2 b3 b4 b5 b6 b7 b8 b9 b10 b11 b12 _ _ ⟨rfl,rfl,rfl,k,rfl,hkl,hF⟩
  refine Ae h4.isSl (Aa (fun q=>?_) fun q=>?_)
  ·rw[h4.lenS]at q
   have gd:f[k]? =some f[k]:=List.getElem?_eq_getElem (by omega)
   have gd2:g[k]? =some g[k]:=List.getElem?_eq_getElem (by omega)
   generalize f[k]=d at gd
   generalize g[k]=d2 at gd2
   refine key14 hke h4 h5 rfl gd (key14 hke k4 k5 rfl gd2 (Aa (fun e=>?_) fun e=>?_))
   ·refine⟨MQ hke k4 k5 gd2,MQ hke h4 h5 gd,no fun h=>e ?_⟩
    rw[(inj.1 h).2.2,gd2]at gd
    rw[Option.some.inj gd]
   ·refine val14 hke h4 h5 rfl (by omega) fun key1 s1 l1 f1 ub1 ul1 uf1 gw hw on=>val14 hke k4 k5 rfl (by omega) fun key2 s2 l2 f2 ub2 ul2 uf2 gw2 hw2 on2=>?_
    have hwsz:=IQ gw
    have hwsz2:=IQ gw2
    have hwk:=szd key1 (.mk s1 l1 f1)
    have hwk2:=szd key2 (.mk s2 l2 f2)
    refine ih (.mk s1 l1 f1) (.mk s2 l2 f2) (by omega) (by omega) (by omega) hw hw2 hke fun r hr=>⟨MQ hke k4 k5 gd2,MQ hke h4 h5 gd,Ay (fun hb=>no fun h=>?_) fun hb=>?_⟩
    ·rw[(inj.1 h).2.2,gw2]at gw
     have:=Option.some.inj gw
     simp only[Fd.mk.injEq]at this
     rw[hr.2 this.2.symm]at hb;cases hb
    ·rw[Ab _ (by omega) (by omega)]
     refine⟨⟨rfl,rfl,rfl,k+1,by omega,by omega,GO hF gw gw2 ?_⟩,by dsimp only;omega⟩
     rw[gd]at gw
     rw[gd2]at gw2
     have q1:=Option.some.inj gw
     have q2:=Option.some.inj gw2
     subst q1 q2
     have:=hr.1 (by simpa using hb)
     simp only[Fd.key,Decidable.not_not]at e
     rw[e,this]
  ·rw[h4.lenS]at q
   have hfg:f=g:=by
    have:k=f.length:=by omega
    rw[this,List.take_length,efl,List.take_length]at hF;exact hF
   exact hk true ⟨fun _=>by rw[hfg],fun _=>rfl⟩
def zs (n:Nat):B8:=List.replicate n 48
theorem Ih (st:St) (b:Nat) (o:GE):(st.put b o).box b=o:=by simp[St.put]
theorem OY (st:St) (o:GE) (t:Option Nat):(st.push o t).box st.nb=o:=by simp[St.push]
def L0 (y m:Nat):Nat:=if 1<=y/\y<=9999/\1<=m/\m<=12 then HC y m else 0
theorem EH {y m:Nat} (h1:1<=y) (h2:y<=9999) (h3:1<=m) (h4:m<=12):L0 y m=HC y m:=if_pos ⟨h1,h2,h3,h4⟩
theorem HV {y:Nat} {st:St} {K:Bool->St->Prop} (hk:K (decide (1<=y/\y<=9999)) st):CallT PR BP [.int .i64 (y:Int)] [.one .bool] st K:=by
 refine GI _ st K (Aa (fun g=>?_) fun g=>?_)
 ·exact DM (decide_eq_decide.2 ⟨fun h=>by omega,fun h=>by omega⟩) hk
 ·rw[decide_eq_false (by omega)]at hk;exact hk
theorem Ms {y:Nat} (h1:1<=y) (h2:y<=9999) {st:St} {K:Bool->St->Prop} (hk:K (decide (HR y)) st):CallT PR CP [.int .i64 (y:Int)] [.one .bool] st K:=by
 refine Hj _ st K (HV ?_)
 rw[decide_eq_true ⟨h1,h2⟩,Int.tmod_eq_emod_of_nonneg (by omega),Int.tmod_eq_emod_of_nonneg (by omega),Int.tmod_eq_emod_of_nonneg (by omega)]
 unfold HR at hk
 refine Aa (p:=True) (fun _=>Aa (fun g=>Aa (fun g2=>?_) fun g2=>?_) fun g=>?_) (fun h=>absurd trivial h)
 ·exact DM (decide_eq_true (show y%4=0/\(y%100≠0∨y%400=0)from⟨by omega,.inl (by omega)⟩) |>.symm) hk
 ·exact DM (decide_eq_decide.2 ⟨fun h=>⟨by omega,.inr (by omega)⟩,fun h=>by omega⟩) hk
 ·exact DM (decide_eq_false (show ¬(y%4=0/\(y%100≠0∨y%400=0))from fun h=>by omega) |>.symm) hk
theorem days_ix:∀k:Nat,k<12->k≠1->(([.int .i64 31,.int .i64 28,.int .i64 31,.int .i64 30,.int .i64 31,.int .i64 30,.int .i64 31,.int .i64 31,.int .i64 30,.int .i64 31,.int .i64 30,.int .i64 31]:List TV)[(0+k*1)+0]?)=some (.int .i64 (if k+1=4∨k+1=6∨k+1=9∨k+1=11 then 30 else 31))
 | 0,_,_=>rfl
 | 1,_,h=>absurd rfl h
 | 2,_,_=>rfl
 | 3,_,_=>rfl
 | 4,_,_=>rfl
 | 5,_,_=>rfl
 | 6,_,_=>rfl
 | 7,_,_=>rfl
 | 8,_,_=>rfl
 | 9,_,_=>rfl
 | 10,_,_=>rfl
 | 11,_,_=>rfl
 | k+12,h,_=>by omega
theorem HW {y m:Nat} (hm:m<=1000000) {st:St} {K:Int->St->Prop} (hk:K (L0 y m:Nat) st):CallT PR BQ [.int .i64 (y:Int),.int .i64 (m:Int)] [.one (.int .i64)] st K:=by
 unfold L0 at hk
 refine GK _ _ st K (HV ?_)
 by_cases hy:1<=y/\y<=9999
 ·rw[decide_eq_true hy]
  refine Aa (p:=False) (fun h=>h.elim) fun _=>Aa (fun g=>?_) fun g=>Aa (fun g2=>?_) fun g2=>?_
  ·rw[if_neg (by omega)]at hk;exact hk
  ·rw[if_neg (by omega)]at hk;exact hk
  ·rw[if_pos (by omega)]at hk
   unfold HC at hk
   rw[Ab _ (by omega) (by omega)]
   refine Aa (fun g3=>Ms hy.1 hy.2 (Aa (fun g4=>?_) fun g4=>?_)) fun g3=>⟨⟨by omega,by omega⟩,?_⟩
   ·rw[if_pos (by omega),if_pos g4]at hk;exact hk
   ·rw[if_pos (by omega),if_neg g4]at hk
    refine⟨⟨by omega,by omega⟩,?_⟩
    have:m=2:=by omega
    subst this
    exact Ac (x:= .int .i64 28) rfl (As hk)
   ·rw[if_neg (by omega)]at hk
    obtain⟨k,rfl⟩:∃k,m=k+1:=⟨m-1,by omega⟩
    rw[show(((k+1:Nat):Int)-1)=(k:Int) by omega,Int.toNat_natCast]
    refine Ac (days_ix k (by omega) (by omega)) (As ?_)
    split
    ·rename_i h;rw[if_pos h]at hk;exact hk
    ·rename_i h;rw[if_neg h]at hk;exact hk
 ·rw[decide_eq_false hy]
  refine Aa (p:=True) (fun _=>?_) fun h=>absurd trivial h
  rw[if_neg (fun h=>hy ⟨h.1,h.2.1⟩)]at hk;exact hk
theorem Lr {y:Nat} (h1:1<=y) (h2:y<=1000000) {st:St} {K:Int->St->Prop} (hk:K (yrS y:Nat) st):CallT PR Cz [.int .i64 (y:Int)] [.one (.int .i64)] st K:=by
 refine GJ _ st K ?_
 obtain⟨k,rfl⟩:∃k,y=k+1:=⟨y-1,by omega⟩
 unfold yrS at hk
 rw[Nat.add_sub_cancel]at hk
 rw[show(((k+1:Nat):Int)-1)=(k:Int) by omega,Ab (k:Int) (by omega) (by omega),Int.tdiv_eq_ediv_of_nonneg (by omega),Int.tdiv_eq_ediv_of_nonneg (by omega),Int.tdiv_eq_ediv_of_nonneg (by omega)]
 rw[Ab (365*(k:Int)) (by omega) (by omega),Ab ((k:Int)/4) (by omega) (by omega),Ab ((k:Int)/100) (by omega) (by omega),Ab ((k:Int)/400) (by omega) (by omega),Ab (365*(k:Int)+(k:Int)/4) (by omega) (by omega),Ab (365*(k:Int)+(k:Int)/4-(k:Int)/100) (by omega) (by omega),Ab _ (by omega) (by omega)]
 have e:(((365*k+k/4-k/100+k/400:Nat):Nat):Int)=365*(k:Int)+(k:Int)/4-(k:Int)/100+(k:Int)/400:=by omega
 rw[e]at hk;exact hk
theorem Oe {y:Nat} (h1:1<=y) (h2:y<=9999) {st:St} {K:Bool->St->Prop} (hk:K (decide (HR y)) st):CallT PR AN [.int .i64 (y:Int)] [.one .bool] st K:=by
 refine Fm _ st K (Aa (fun _=>Aa (fun _=>?_) fun g=>by omega) fun g=>by omega)
 rw[Int.tmod_eq_emod_of_nonneg (by omega),Int.tmod_eq_emod_of_nonneg (by omega),Int.tmod_eq_emod_of_nonneg (by omega)]
 unfold HR at hk
 refine Aa (fun g=>Aa (fun g2=>?_) fun g2=>?_) fun g=>?_
 ·exact DM (decide_eq_true (show y%4=0/\(y%100≠0∨y%400=0)from⟨by omega,.inl (by omega)⟩) |>.symm) hk
 ·exact DM (decide_eq_decide.2 ⟨fun h=>⟨by omega,.inr (by omega)⟩,fun h=>by omega⟩) hk
 ·exact DM (decide_eq_decide.2 ⟨fun h=>by omega,fun h=>by omega⟩) hk
theorem Hv {y m:Nat} (hm:m<=1000000) {st:St} {K:Int->St->Prop} (hk:K (L0 y m:Nat) st):CallT PR AT [.int .i64 (y:Int),.int .i64 (m:Int)] [.one (.int .i64)] st K:=by
 unfold L0 at hk
 refine E5 _ _ st K (Aa (fun g=>?_) fun g=>Aa (fun g2=>?_) fun g2=>?_)
 ·rw[if_neg (by omega)]at hk;exact hk
 ·rw[if_neg (by omega)]at hk;exact hk
 refine⟨fun b y' m' st'=>b=decide (m=1∨m=3∨m=5∨m=7∨m=8∨m=10∨m=12)/\(y:Int)=y'/\(m:Int)=m'/\st=st',?_,?_⟩
 ·refine Aa (fun g=>⟨decide_eq_decide.2 (by omega),rfl,rfl,rfl⟩) fun g=>Aa (fun g=>⟨decide_eq_decide.2 (by omega),rfl,rfl,rfl⟩) fun g=>Aa (fun g=>⟨decide_eq_decide.2 (by omega),rfl,rfl,rfl⟩) fun g=>
   Aa (fun g=>⟨decide_eq_decide.2 (by omega),rfl,rfl,rfl⟩) fun g=>Aa (fun g=>⟨decide_eq_decide.2 (by omega),rfl,rfl,rfl⟩) fun g=>Aa (fun g=>⟨decide_eq_decide.2 (by omega),rfl,rfl,rfl⟩) fun g=>⟨decide_eq_decide.2 (by omega),rfl,rfl,rfl⟩
 rintro _ _ _ _ ⟨rfl,rfl,rfl,rfl⟩
 unfold HC at hk
 have two:∀{x y:Int->St->Prop},True:=fun {_ _}=>trivial
 have t30:(m=4∨m=6∨m=9∨m=11)->K 30 st:=fun h=>by
  rw[if_pos (by omega),if_neg (by omega),if_pos h]at hk;exact hk
 have tz:¬(1<=m/\m<=12)->K 0 st:=fun h=>by
  rw[if_neg (by omega)]at hk;exact hk
 refine Aa (fun g3=>?_) fun g3=>?_
 ·rw[if_pos (by omega),if_neg (by omega),if_neg (by omega)]at hk;exact hk
 ·refine Aa (fun g4=>Aa (fun _=>t30 (by omega)) fun h=>absurd g4 h) fun g4=>Aa (fun g5=>Aa (fun _=>t30 (by omega)) fun h=>absurd g5 h) fun g5=>Aa (fun g6=>Aa (fun _=>t30 (by omega)) fun h=>absurd g6 h) fun g6=>Aa (fun g7=>t30 (by omega)) fun g7=>Aa (fun g8=>?_) fun g8=>tz (by omega)
  rw[if_pos (by omega),if_pos (by omega)]at hk
  refine Oe (by omega) (by omega) (Aa (fun g9=>?_) fun g9=>?_)
  ·rw[if_pos g9]at hk;exact hk
  ·rw[if_neg g9]at hk;exact hk
theorem G1 (y:Nat):∀m,FA y m<=31*m
 | 0=>Nat.le_refl _
 | 1=>Nat.zero_le _
 | m+2=>by
  have:=G1 y (m+1)
  have:=G2 y (m+1)
  simp only[FA];omega
theorem LP {y:Nat} (h1:1<=y) (h2:y<=9999) {st:St} {K:Int->St->Prop} (hk:K (FA y 12+HC y 12:Nat) st):CallT PR BB [.int .i64 (y:Int)] [.one (.int .i64)] st K:=by
 refine Eu _ st K ⟨fun n mo ye st'=>(y:Int)=ye/\st=st'/\∃m:Nat,mo=m/\1<=m/\m<=13/\n=(FA y m:Nat),fun _ mo _ _=>(13-mo).toNat,⟨rfl,rfl,1,rfl,by omega,by omega,rfl⟩,?_⟩
 rintro _ _ _ _ ⟨rfl,rfl,m,rfl,hm1,hm2,rfl⟩
 have hle:=G1 y m
 refine Aa (fun g=>Hv (by omega) ?_) fun g=>?_
 ·have:=G2 y m
  rw[EH h1 h2 hm1 (by omega),Ab _ (by omega) (by omega),Ab _ (by omega) (by omega)]
  exact⟨⟨rfl,rfl,m+1,by omega,by omega,by omega,by rw[FO y hm1];omega⟩,by dsimp only;omega⟩
 ·have:m=13:=by omega
  subst this
  rw[FO y (by omega)];exact hk
def TR (r:Nat) (st:St):Option B8->Prop
 | some s=>r<st.nb/\st.box r= .cells [.str s,.bool false]/\s.length<=1000000
 | none=>r<st.nb/\∃s,st.box r= .cells [.str s,.bool true]/\s.length<=1000000
theorem TR.get {r:Nat} {st:St} {S:Option B8} (h:TR r st S):r<st.nb/\∃s,st.box r= .cells [.str s,.bool S.isNone]/\s.length<=1000000/\(∀x,S=some x->s=x):=by
 cases S with
 | none=>obtain⟨h1,s,h2,h3⟩:=h;exact⟨h1,s,h2,h3,fun x hx=>by cases hx⟩
 | some s=>obtain⟨h1,h2,h3⟩:=h;exact⟨h1,s,h2,h3,fun x hx=>by cases hx;rfl⟩
def TM (r f:Nat) (st:St) (S:Option B8) (l:List TV):Prop:=TR r st S/\f<st.nb/\st.box f= .cells l/\r≠f
theorem Gs {r:Nat} {st:St} {s:B8} {b:Bool} (h:st.box r= .cells [.str s,.bool b]) (hr:r<st.nb) (hl:s.length<=1000000) {K:St->Prop} (hk:∀st',StX (·=r) st st'->TR r st' none->K st'):
  stB st (.box r 1) [.bool true] K:=
 ⟨_,h,by simp,hk _ (StX.put (S:=(·=r)) rfl _) ⟨hr,s,by simp[St.put,setAll],hl⟩⟩
theorem Hk {r:Nat} {st:St} {s t:B8} {S:Option B8} (h:TR r st S) (ht:t.length<=1000000) {K:St->Prop} (hk:∀st',StX (·=r) st st'->TR r st' (S.map fun _=>t)->K st'):
  stB st (.box r 0) [.str t] K:=by
 obtain⟨hr,s,hb,hl,_⟩:=h.get
 refine⟨_,hb,by simp,hk _ (StX.put (S:=(·=r)) rfl _) ?_⟩
 cases S with
 | none=>exact⟨hr,t,by simp[St.put,setAll],ht⟩
 | some x=>exact⟨hr,by simp[St.put,setAll],ht⟩
def F2 (w:Nat) (s:B8):Prop:=w<=s.length/\∀i,i<w->AH (s.getD i 0)
instance (w:Nat) (s:B8):Decidable (F2 w s):=inferInstanceAs (Decidable (_/\_))
def F4 (w:Nat) (S:Option B8) (n:Nat) (T:Option B8):Prop:=match S with
 | none=>T=none
 | some s=>if F2 w s then T=some (s.drop w)/\n=A3 (s.take w)else T=none
theorem Jt {l:B8} {w:Nat} (hw:w<=l.length) (h:∀i,i<w->AH (l.getD i 0)):A3 (l.take w)<10^w:=by
 have h1:=FK (l.take w) fun c hc=>by
  obtain⟨i,hi⟩:=List.getElem?_of_mem hc
  have hl:=(List.getElem?_eq_some_iff.1 hi).1
  rw[List.length_take]at hl
  rw[List.getElem?_take,if_pos (by omega)]at hi
  have:=h i (by omega)
  rwa [List.getD,hi]at this
 rwa [List.length_take,Nat.min_eq_left hw]at h1
theorem DO {r:Nat} {w:Nat} (hw:w<=9) {st:St} {S:Option B8} (h:TR r st S) {K:Int->St->Prop} (hk:∀(n:Nat) st' T,n<10^w->StX (·=r) st st'->TR r st' T->F4 w S n T->K (n:Nat) st'):
  CallT PR Al [.box r 0,.int .i64 (w:Nat)] [.one (.int .i64)] st K:=by
 obtain⟨hr,s,hb,hl,hx⟩:=h.get
 have hs:Ag st [] (.t (.box r 0)) 0=some (.str s):=by simp[Ag,hb]
 have p10:0<10^w:=Nat.pow_pos (by decide)
 have p18:10^w<=10^9:=Nat.pow_le_pow_right (by decide) hw
 have bad:¬F2 w s->∀st',StX (·=r) st st'->TR r st' none->K ((0:Nat):Int) st':=fun hn st' e h'=>hk 0 st' none p10 e h' (by
  cases S with
  | none=>rfl
  | some x=>rw[<-hx x rfl];show(if F2 w s then _ else _);rw[if_neg hn])
 refine Ea r _ st K (Ac hs (AD (Aa (fun g=>Gs hb hr hl (bad fun h=>by have:=h.1;omega)) fun g=>?_)))
 refine⟨fun n i p w' m st'=> .box r 0=p/\((w:Nat):Int)=w'/\((w:Nat):Int)=m/\st=st'/\∃k:Nat,i=k/\k<=w/\n=(A3 (s.take k):Nat)/\∀j,j<k->AH (s.getD j 0),fun _ i _ _ _ _=>(w-i).toNat,⟨rfl,rfl,rfl,rfl,0,rfl,Nat.zero_le _,rfl,fun j h=>absurd h (Nat.not_lt_zero _)⟩,?_⟩
 rintro _ _ _ _ _ _ ⟨rfl,rfl,rfl,rfl,k,rfl,hkw,rfl,hd⟩
 rw[Int.toNat_natCast]
 have hv:=Jt (l:=s) (w:=k) (by omega) hd
 have p1:10^k<=10^9:=Nat.pow_le_pow_right (by decide) (by omega)
 refine Aa (fun g1=>Ae rfl (Ae rfl (Ac hs (AD ⟨⟨by omega,by omega⟩,Aa (fun g2=>?_) fun g2=>Ae rfl (Ae rfl (Ac hs (AD ⟨⟨by omega,by omega⟩,Aa (fun g3=>?_) fun g3=>?_⟩)))⟩)))) fun g1=>?_
 ·exact Ae rfl (Ae rfl (Gs hb hr hl (bad fun h=>by have:=(h.2 k (by omega)).1;omega)))
 ·exact Ae rfl (Ae rfl (Gs hb hr hl (bad fun h=>by have:=(h.2 k (by omega)).2;omega)))
 ·refine Ae rfl (Ae rfl (Ac hs (AD ⟨⟨by omega,by omega⟩,?_⟩)))
  have hsn:=Ed (l:=s) (k:=k) (by omega)
  rw[Gl _ (by omega) (by omega),Ab (10*_) (by omega) (by omega),Ab (((s.getD k 0).toNat:Int)-48) (by omega) (by omega),Ab (_+_) (by omega) (by omega),Ab _ (by omega) (by omega)]
  refine⟨⟨rfl,rfl,rfl,rfl,k+1,by omega,by omega,by rw[hsn];omega,fun j hj=>?_⟩,by dsimp only;omega⟩
  by_cases hjk:j=k
  ·subst hjk;exact⟨by omega,by omega⟩
  ·exact hd j (by omega)
 ·have hkk:k=w:=by omega
  subst hkk
  refine Ae rfl (Ae rfl (Ac hs (AD ⟨⟨by omega,by omega⟩,Ae rfl (Ae rfl (Hk (s:=s) h (by rw[List.length_drop];omega) fun st' e h'=>hk _ st' _ hv e h' ?_))⟩)))
  cases S with
  | none=>rfl
  | some x=>
   obtain rfl:=hx x rfl
   show(if F2 k s then _ else _)
   rw[if_pos ⟨by omega,hd⟩]
   exact⟨rfl,rfl⟩
def Ib (of:B8) (S:Option B8) (c:Nat) (T:Option B8):Prop:=match S with
 | none=>T=none
 | some s=>if s.getD 0 0∈of then T=some (s.drop 1)/\c=(s.getD 0 0).toNat else T=none
theorem DN {r:Nat} {of:B8} (hof:(0:UInt8)∉of) (hlo:of.length<=100) {st:St} {S:Option B8} (h:TR r st S) {K:Int->St->Prop} (hk:∀(n:Nat) st' T,n<256->StX (·=r) st st'->TR r st' T->Ib of S n T->K (n:Nat) st'):
  CallT PR Ap [.box r 0,.str of] [.one (.int .u8)] st K:=by
 obtain⟨hr,s,hb,hl,hx⟩:=h.get
 have hs:Ag st [] (.t (.box r 0)) 0=some (.str s):=by simp[Ag,hb]
 have bad:s.getD 0 0∉of->∀st',StX (·=r) st st'->TR r st' none->K ((0:Nat):Int) st':=fun hn st' e h'=>hk 0 st' none (by decide) e h' (by
  cases S with
  | none=>rfl
  | some x=>rw[<-hx x rfl];show(if s.getD 0 0∈of then _ else _);rw[if_neg hn])
 refine Fh r of st K (Ac hs (AD (Aa (fun g=>?_) fun g=>?_)))
 ·have hpos:0<s.length:=List.length_pos_iff.2 g
  refine⟨fun i p of' m st'=> .box r 0=p/\of=of'/\(of.length:Int)=m/\st=st'/\∃k:Nat,i=k/\k<=of.length/\∀j,j<k->of.getD j 0≠s.getD 0 0,fun i _ _ _ _=>(of.length-i).toNat,⟨rfl,rfl,rfl,rfl,0,rfl,Nat.zero_le _,fun j h=>absurd h (Nat.not_lt_zero _)⟩,?_⟩
  rintro _ _ _ _ _ ⟨rfl,rfl,rfl,rfl,k,rfl,hkw,hd⟩
  rw[Int.toNat_natCast]
  refine Aa (fun g1=>Ae rfl (Ae rfl (Ac hs (AD ⟨⟨by omega,by omega⟩,⟨by omega,g1⟩,Aa (fun g2=>?_) fun g2=>?_⟩)))) fun g1=>?_
  ·have g2':s.getD 0 0=of.getD k 0:=UInt8.toNat_inj.1 (Int.ofNat.inj g2)
   have hmem:s.getD 0 0∈of:=by rw[g2'];exact Dz (by omega)
   refine Ae rfl (Ae rfl (Ac hs (AD ⟨⟨by omega,by omega⟩,Ae rfl (Ae rfl (Hk (s:=s) h (by rw[List.length_drop];omega) fun st' e h'=>⟨⟨by omega,g1⟩,hk _ st' _ (UInt8.toNat_lt _) e h' ?_⟩))⟩)))
   cases S with
   | none=>rfl
   | some x=>
    obtain rfl:=hx x rfl
    show(if s.getD 0 0∈of then _ else _)
    rw[if_pos hmem]
    exact⟨rfl,by rw[g2']⟩
  ·rw[Ab _ (by omega) (by omega)]
   refine⟨⟨rfl,rfl,rfl,rfl,k+1,by omega,by omega,fun j hj=>?_⟩,by dsimp only;omega⟩
   by_cases hjk:j=k
   ·subst hjk;exact fun e=>g2 (by rw[e];rfl)
   ·exact hd j (by omega)
  ·refine Ae rfl (Ae rfl (Gs hb hr hl (bad fun hm=>?_)))
   obtain⟨i,hi,he⟩:=List.getElem_of_mem hm
   exact hd i (by omega) (by rw[<-he];simp[List.getD,hi])
 ·have g0:s=[]:=Decidable.not_not.1 g
  exact Gs hb hr hl (bad (by rw[g0];exact hof))
def FracS (S:Option B8) (n:Nat) (T:Option B8):Prop:=match S with
 | none=>T=none
 | some s=>if Aj s=[]∨9<(Aj s).length then T=none else T=some (s.drop (Aj s).length)/\n=IR (Aj s)
theorem Ky (l:B8):∀k,A3 (l++List.replicate k 48)=A3 l*10^k
 | 0=>by simp
 | k+1=>by
  rw[List.replicate_succ',<-List.append_assoc]
  have:=Ky l k
  unfold A3 at this⊢
  rw[KA,this,Nat.pow_succ]
  show 10*(DK 0 l*10^k)+(48-48)=_
  have e:10*(DK 0 l*10^k)=DK 0 l*(10^k*10):=by rw[Nat.mul_left_comm,Nat.mul_comm 10]
  rw[e];rfl
theorem IF {n k:Nat} (hk:k<=9) (hn:n<10^k) {st:St} {K:Int->St->Prop} (h:K (n*10^(9-k):Nat) st):
  ∃(I:Int->Int->St->Prop) (M:Int->Int->St->Nat),I (n:Nat) (k:Nat) st/\∀(n2 k2:Int) (st5:St),I n2 k2 st5->BIf (decide (k2<9)) (I (i64.wrap (n2*10)) (i64.wrap (k2+1)) st5/\M (i64.wrap (n2*10)) (i64.wrap (k2+1)) st5<M n2 k2 st5) (K n2 st5):=by
 refine⟨fun n2 k2 st5=>st=st5/\∃j:Nat,k2=j/\j<=9/\∃m:Nat,n2=m/\m<10^j/\m*10^(9-j)=n*10^(9-k),fun _ k2 _=>(9-k2).toNat,⟨rfl,k,rfl,hk,n,rfl,hn,rfl⟩,?_⟩
 rintro _ _ _ ⟨rfl,j,rfl,hj,m,rfl,hm,he⟩
 have p9:10^j<=10^9:=Nat.pow_le_pow_right (by decide) hj
 refine Aa (fun g=>?_) fun g=>?_
 ·rw[Ab _ (by omega) (by omega),Ab _ (by omega) (by omega)]
  refine⟨⟨rfl,j+1,by omega,by omega,m*10,by omega,by rw[Nat.pow_succ];omega,?_⟩,by dsimp only;omega⟩
  rw[<-he,Nat.mul_assoc,show 9-j=(9-(j+1))+1 by omega,Nat.pow_succ,Nat.mul_comm 10]
 ·have:j=9:=by omega
  subst this
  rw[Nat.sub_self,Nat.pow_zero,Nat.mul_one]at he
  rw[<-he]at h;exact h
theorem NW {r:Nat} {st:St} {S:Option B8} (h:TR r st S) {K:Int->St->Prop} (hk:∀(n:Nat) st' T,n<1000000000->StX (·=r) st st'->TR r st' T->FracS S n T->K (n:Nat) st'):
  CallT PR Bj [.box r 0] [.one (.int .i64)] st K:=by
 obtain⟨hr,s,hb,hl,hx⟩:=h.get
 have hs:Ag st [] (.t (.box r 0)) 0=some (.str s):=by simp[Ag,hb]
 have bad:(Aj s=[]∨9<(Aj s).length)->∀st',StX (·=r) st st'->TR r st' none->K ((0:Nat):Int) st':=fun hn st' e h'=>hk 0 st' none (by decide) e h' (by
  cases S with
  | none=>rfl
  | some x=>rw[<-hx x rfl];show(if Aj s=[]∨9<(Aj s).length then _ else _);rw[if_pos hn])
 refine DH r st K ⟨fun n i p st'=> .box r 0=p/\st=st'/\∃k:Nat,i=k/\k<=s.length/\n=(A3 (s.take (min k 9)):Nat)/\∀j,j<k->AH (s.getD j 0),fun _ i _ _=>(s.length-i).toNat,⟨rfl,rfl,0,rfl,Nat.zero_le _,rfl,fun j h=>absurd h (Nat.not_lt_zero _)⟩,?_⟩
 rintro _ _ _ _ ⟨rfl,rfl,k,rfl,hkl,rfl,hd⟩
 rw[Int.toNat_natCast]
 have p18:10^(min k 9)<=10^9:=Nat.pow_le_pow_right (by decide) (by omega)
 have hv:=Jt (l:=s) (w:=min k 9) (by omega) fun i hi=>hd i (by omega)
 have run:(k=s.length∨¬AH (s.getD k 0))->(Aj s).length=k:=fun hs=>El s k hkl hd hs
 have bad0:(k=s.length∨¬AH (s.getD k 0))->((k:Nat):Int)<1->stB st (.box r 1) [.bool true] fun st'=>K ((0:Nat):Int) st':=fun hs g=>Gs hb hr hl (bad (.inl (List.length_eq_zero_iff.1 (by rw[run hs];omega))))
 have bad9:(k=s.length∨¬AH (s.getD k 0))->(9:Int)<((k:Nat):Int)->stB st (.box r 1) [.bool true] fun st'=>K ((0:Nat):Int) st':=fun hs g=>Gs hb hr hl (bad (.inr (by rw[run hs];omega)))
 have good:(k=s.length∨¬AH (s.getD k 0))->¬((k:Nat):Int)<1->¬(9:Int)<((k:Nat):Int)->∀st',StX (·=r) st st'->TR r st' (S.map fun _=>s.drop k)->K ((A3 (s.take (min k 9))*10^(9-k):Nat):Int) st':=fun hs g1 g2 st' e h'=>by
  have hrun:=run hs
  have htk:=Ck s
  rw[hrun]at htk
  have hm:min k 9=k:=by omega
  rw[hm]at hv⊢
  have hp:10^9=10^k*10^(9-k):=by rw[<-Nat.pow_add];congr 1;omega
  have hlt:A3 (s.take k)*10^(9-k)<1000000000:=by
   have:=Nat.mul_lt_mul_of_pos_right hv (Nat.pow_pos (n:=9-k) (show 0<10 by decide))
   rw[<-hp]at this;exact this
  refine hk _ st' _ hlt e h' ?_
  cases S with
  | none=>rfl
  | some x=>
   obtain rfl:=hx x rfl
   show(if Aj s=[]∨9<(Aj s).length then _ else _)
   rw[if_neg (by rintro(h0 | h0);rw[h0]at hrun;simp at hrun;omega;omega),hrun]
   refine⟨rfl,?_⟩
   unfold IR
   rw[hrun,Ky,htk]
 refine Ae rfl (Ae rfl (Ac hs (AD (Aa (fun g=>Ae rfl (Ae rfl (Ac hs (AD ⟨⟨by omega,g⟩,Aa (fun g1=>Ae rfl (Ae rfl (Ac hs (AD ⟨⟨by omega,g⟩,Aa (fun g2=>?_) fun g2=>?_⟩)))) fun g1=>?_⟩)))) fun g=>?_))))
 ·have hdk:∀j,j<k+1->AH (s.getD j 0):=fun j hj=>by
   by_cases hjk:j=k
   ·subst hjk;exact⟨by omega,by omega⟩
   ·exact hd j (by omega)
  refine Aa (fun g3=>Ae rfl (Ae rfl (Ac hs (AD ⟨⟨by omega,g⟩,?_⟩)))) fun g3=>?_
  ·have hsn:=Ed (l:=s) (k:=k) (by omega)
   have hm:min k 9=k:=by omega
   have hm1:min (k+1) 9=k+1:=by omega
   rw[hm]at hv⊢
   rw[hm]at p18
   rw[Gl _ (by omega) (by omega),Ab (10*_) (by omega) (by omega),Ab (((s.getD k 0).toNat:Int)-48) (by omega) (by omega),Ab (_+_) (by omega) (by omega),Ab _ (by omega) (by omega)]
   exact⟨⟨rfl,rfl,k+1,by omega,by omega,by rw[hm1,hsn];omega,hdk⟩,by dsimp only;omega⟩
  ·rw[Ab _ (by omega) (by omega)]
   exact⟨⟨rfl,rfl,k+1,by omega,by omega,by rw[show min (k+1) 9=min k 9 by omega],hdk⟩,by dsimp only;omega⟩
 ·have hs':k=s.length∨¬AH (s.getD k 0):= .inr fun h=>g2 (by have:=h.2;omega)
  exact Aa (fun g3=>Ae rfl (Ae rfl (bad0 hs' g3))) fun g3=>Aa (fun g4=>Ae rfl (Ae rfl (bad9 hs' g4))) fun g4=>Ae rfl (Ae rfl (Ac hs (AD ⟨⟨by omega,by omega⟩,Ae rfl (Ae rfl (Hk (s:=s) h (by rw[List.length_drop];omega) fun st' e h'=>IF (by omega) (by rw[show min k 9=k by omega]at*;exact hv) (good hs' g3 g4 st' e h')))⟩)))
 ·have hs':k=s.length∨¬AH (s.getD k 0):= .inr fun h=>g1 (by have:=h.1;omega)
  exact Aa (fun g3=>Ae rfl (Ae rfl (bad0 hs' g3))) fun g3=>Aa (fun g4=>Ae rfl (Ae rfl (bad9 hs' g4))) fun g4=>Ae rfl (Ae rfl (Ac hs (AD ⟨⟨by omega,by omega⟩,Ae rfl (Ae rfl (Hk (s:=s) h (by rw[List.length_drop];omega) fun st' e h'=>IF (by omega) (by rw[show min k 9=k by omega]at*;exact hv) (good hs' g3 g4 st' e h')))⟩)))
 ·have hs':k=s.length∨¬AH (s.getD k 0):= .inl (by omega)
  exact Aa (fun g3=>Ae rfl (Ae rfl (bad0 hs' g3))) fun g3=>Aa (fun g4=>Ae rfl (Ae rfl (bad9 hs' g4))) fun g4=>Ae rfl (Ae rfl (Ac hs (AD ⟨⟨by omega,by omega⟩,Ae rfl (Ae rfl (Hk (s:=s) h (by rw[List.length_drop];omega) fun st' e h'=>IF (by omega) (by rw[show min k 9=k by omega]at*;exact hv) (good hs' g3 g4 st' e h')))⟩)))
abbrev rfS (r f:Nat):Nat->Prop:=fun b=>b=r∨b=f
theorem TM.step {r f:Nat} {st st':St} {S T:Option B8} {l:List TV} (h:TM r f st S l) (e:StX (·=r) st st') (h':TR r st' T):TM r f st' T l:=
 ⟨h',Nat.lt_of_lt_of_le h.2.1 e.nb,(e.box f h.2.1 fun g=>h.2.2.2 g.symm).trans h.2.2.1,h.2.2.2⟩
theorem TM.put {r f i:Nat} {st:St} {S:Option B8} {l:List TV} {v:TV} (h:TM r f st S l) (hi:i<l.length) {K:St->Prop} (hk:∀st',StX (rfS r f) st st'->TM r f st' S (l.set i v)->K st'):stB st (.box f i) [v] K:=by
 obtain⟨h1,h2,h3,h4⟩:=h
 refine⟨_,h3,by simp;omega,hk _ (StX.put (S:=rfS r f) (.inr rfl) _) ⟨?_,h2,by simp[St.put,setAll],h4⟩⟩
 have hne:((st.put f (.cells (setAll l i [v]))).box r)=st.box r:=by simp only[St.put];rw[if_neg h4]
 cases S with
 | none=>obtain⟨a1,s,a2,a3⟩:=h1;exact⟨a1,s,hne.trans a2,a3⟩
 | some s=>obtain⟨a1,a2,a3⟩:=h1;exact⟨a1,hne.trans a2,a3⟩
theorem Fe {r f:Nat} {a b:St} (e:StX (·=r) a b):StX (rfS r f) a b:=e.mono fun _ h=> .inl h
def fcT (y mo d h mi sc nn sg oh om:Nat):List TV:=[.int .i64 (y:Nat),.int .i64 (mo:Nat),.int .i64 (d:Nat),.int .i64 (h:Nat),.int .i64 (mi:Nat),.int .i64 (sc:Nat),.int .i64 (nn:Nat),.int .u8 (sg:Nat),.int .i64 (oh:Nat),.int .i64 (om:Nat)]
theorem F4.pos {w n:Nat} {s:B8} {T:Option B8} (h:F4 w (some s) n T) (f:F2 w s):T=some (s.drop w)/\n=A3 (s.take w):=by
 change (if F2 w s then _ else _)at h
 rwa [if_pos f]at h
theorem F4.neg {w n:Nat} {s:B8} {T:Option B8} (h:F4 w (some s) n T) (f:¬F2 w s):T=none:=by
 change (if F2 w s then _ else _)at h
 rwa [if_neg f]at h
theorem Ib.pos {of:B8} {n:Nat} {s:B8} {T:Option B8} (h:Ib of (some s) n T) (f:s.getD 0 0∈of):T=some (s.drop 1)/\n=(s.getD 0 0).toNat:=by
 change (if s.getD 0 0∈of then _ else _)at h
 rwa [if_pos f]at h
theorem Ib.neg {of:B8} {n:Nat} {s:B8} {T:Option B8} (h:Ib of (some s) n T) (f:s.getD 0 0∉of):T=none:=by
 change (if s.getD 0 0∈of then _ else _)at h
 rwa [if_neg f]at h
theorem Do (s:B8) (k i:Nat):b0 (s.drop k) i=b0 s (k+i):=by simp[b0,List.getD]
theorem MX (s:B8) (k i:Nat):dd (s.drop k) i↔dd s (k+i):=by
 unfold dd
 rw[Do,Do,Nat.add_assoc]
theorem Na (s:B8) (k i:Nat):d2 (s.drop k) i=d2 s (k+i):=by
 unfold d2 dv
 rw[Do,Do,Nat.add_assoc]
theorem Jb {s:B8} {k:Nat} (h:AH (b0 s k)):k<s.length:=by
 by_cases hk:k<s.length
 ·exact hk
 ·rw[show b0 s k=0 by simp[b0,List.getD,Nat.le_of_not_lt hk]]at h
  exact absurd h (by decide)
theorem numF2 (s:B8):F2 2 s↔dd s 0:=by
 constructor
 ·intro h;exact⟨h.2 0 (by omega),h.2 1 (by omega)⟩
 ·intro h
  have:=Jb h.2
  exact⟨by omega,fun i hi=>by
   rcases (by omega:i=0∨i=1)with rfl | rfl
   ·exact h.1
   ·exact h.2⟩
theorem K5 (s:B8):F2 4 s↔dd s 0/\dd s 2:=by
 constructor
 ·intro h;exact⟨⟨h.2 0 (by omega),h.2 1 (by omega)⟩,⟨h.2 2 (by omega),h.2 3 (by omega)⟩⟩
 ·intro h
  have:=Jb h.2.2
  exact⟨by omega,fun i hi=>by
   rcases (by omega:i=0∨i=1∨i=2∨i=3)with rfl | rfl | rfl | rfl
   ·exact h.1.1
   ·exact h.1.2
   ·exact h.2.1
   ·exact h.2.2⟩
theorem val2 {s:B8} (h:F2 2 s):A3 (s.take 2)=d2 s 0:=by
 rcases s with _ | ⟨a,_ | ⟨b,r⟩⟩
 ·exact absurd h.1 (by simp)
 ·exact absurd h.1 (by simp)
 ·show 10*(10*0+(a.toNat-48))+(b.toNat-48)=(a.toNat-48)*10+(b.toNat-48)
  omega
theorem val4 {s:B8} (h:F2 4 s):A3 (s.take 4)=d2 s 0*100+d2 s 2:=by
 rcases s with _ | ⟨a,_ | ⟨b,_ | ⟨c,_ | ⟨d,r⟩⟩⟩⟩
 ·exact absurd h.1 (by simp)
 ·exact absurd h.1 (by simp)
 ·exact absurd h.1 (by simp)
 ·exact absurd h.1 (by simp)
 ·show 10*(10*(10*(10*0+(a.toNat-48))+(b.toNat-48))+(c.toNat-48))+(d.toNat-48)=((a.toNat-48)*10+(b.toNat-48))*100+((c.toNat-48)*10+(d.toNat-48))
  omega
theorem one1 {s:B8} {c:UInt8}:s.getD 0 0∈ [c]↔b0 s 0=c:=by rw[List.mem_singleton];rfl
theorem DP {s:B8} {k m n:Nat} {T:Option B8} (hm:k+2=m) (h:F4 2 (some (s.drop k)) n T):(dd s k->T=some (s.drop m)/\n=d2 s k)/\(¬dd s k->T=none):=by
 have e:F2 2 (s.drop k)↔dd s k:=by rw[numF2,MX];rfl
 constructor
 ·intro f
  have f':=e.2 f
  obtain⟨h1,h2⟩:=h.pos f'
  exact⟨by rw[h1,List.drop_drop,hm],by rw[h2,val2 f',Na];rfl⟩
 ·intro f;exact h.neg fun g=>f (e.1 g)
theorem F5 {s:B8} {k m n:Nat} {c:UInt8} {T:Option B8} (hm:k+1=m) (h:Ib [c] (some (s.drop k)) n T):(b0 s k=c->T=some (s.drop m))/\(b0 s k≠c->T=none):=by
 have e:(s.drop k).getD 0 0∈ [c]↔b0 s k=c:=by rw[one1,Do];rfl
 exact⟨fun f=>by rw[(h.pos (e.2 f)).1,List.drop_drop,hm],fun f=>h.neg fun g=>f (e.1 g)⟩
theorem step4 {s:B8} {n:Nat} {T:Option B8} (h:F4 4 (some s) n T):(dd s 0/\dd s 2->T=some (s.drop 4)/\n=d2 s 0*100+d2 s 2)/\(¬(dd s 0/\dd s 2)->T=none):=
 ⟨fun f=>⟨(h.pos ((K5 s).2 f)).1,by rw[(h.pos ((K5 s).2 f)).2,val4 ((K5 s).2 f)]⟩,fun f=>h.neg fun g=>f ((K5 s).1 g)⟩
theorem NJ {s:B8} {y c m c' d:Nat} {T1 T2 T3 T4 T5:Option B8} (s1:F4 4 (some s) y T1) (s2:Ib [45] T1 c T2) (s3:F4 2 T2 m T3) (s4:Ib [45] T3 c' T4) (s5:F4 2 T4 d T5):
  (Ct s->T5=some (s.drop 10)/\y=d2 s 0*100+d2 s 2/\m=d2 s 5/\d=d2 s 8)/\(¬Ct s->T5=none):=by
 by_cases f1:dd s 0/\dd s 2
 ·obtain⟨rfl,v1⟩:=(step4 s1).1 f1
  by_cases f2:b0 s 4=45
  ·obtain rfl:=(F5 (m:=5) rfl s2).1 f2
   by_cases f3:dd s 5
   ·obtain⟨rfl,v3⟩:=(DP (m:=7) rfl s3).1 f3
    by_cases f4:b0 s 7=45
    ·obtain rfl:=(F5 (m:=8) rfl s4).1 f4
     by_cases f5:dd s 8
     ·obtain⟨rfl,v5⟩:=(DP (m:=10) rfl s5).1 f5
      exact⟨fun _=>⟨rfl,v1,v3,v5⟩,fun h=>absurd ⟨f1.1,f1.2,f2,f3,f4,f5⟩ h⟩
     ·exact⟨fun h=>absurd h.2.2.2.2.2 f5,fun _=>(DP (m:=10) rfl s5).2 f5⟩
    ·obtain rfl:=(F5 (m:=8) rfl s4).2 f4
     exact⟨fun h=>absurd h.2.2.2.2.1 f4,fun _=>s5⟩
   ·obtain rfl:=(DP (m:=7) rfl s3).2 f3
    obtain rfl:T4=none:=s4
    exact⟨fun h=>absurd h.2.2.2.1 f3,fun _=>s5⟩
  ·obtain rfl:=(F5 (m:=5) rfl s2).2 f2
   obtain rfl:T3=none:=s3
   obtain rfl:T4=none:=s4
   exact⟨fun h=>absurd h.2.2.1 f2,fun _=>s5⟩
 ·obtain rfl:=(step4 s1).2 f1
  obtain rfl:T2=none:=s2
  obtain rfl:T3=none:=s3
  obtain rfl:T4=none:=s4
  exact⟨fun h=>absurd ⟨h.1,h.2.1⟩ f1,fun _=>s5⟩
def DateS (S:Option B8) (y m d:Nat) (T:Option B8):Prop:=match S with
 | none=>T=none
 | some s=>(Ct s->T=some (s.drop 10)/\y=d2 s 0*100+d2 s 2/\m=d2 s 5/\d=d2 s 8)/\(¬Ct s->T=none)
theorem KF {r f:Nat} {st:St} {S:Option B8} {h mi sc nn sg oh om:Nat} (hm:TM r f st S (fcT 0 0 0 h mi sc nn sg oh om)) {K:St->Prop}
  (hk:∀y mo d st' T,y<10000->mo<100->d<100->StX (rfS r f) st st'->TM r f st' T (fcT y mo d h mi sc nn sg oh om)->DateS S y mo d T->K st'):CallT PR Bc [.box r 0,.box f 0] [] st K:=by
 refine EZ r f st K (DO (w:=4) (by decide) hm.1 fun y st1 T1 b1 e1 h1 s1=>(hm.step e1 h1).put (by simp[fcT]) fun st2 e2 m2=>?_)
 refine DN (of:=[45]) (by decide) (by decide) m2.1 fun c st3 T3 b3 e3 h3 s3=>DO (w:=2) (by decide) h3 fun mo st4 T4 b4 e4 h4 s4=>((m2.step e3 h3).step e4 h4).put (by simp[fcT]) fun st5 e5 m5=>?_
 refine DN (of:=[45]) (by decide) (by decide) m5.1 fun c' st6 T6 b6 e6 h6 s6=>DO (w:=2) (by decide) h6 fun d st7 T7 b7 e7 h7 s7=>((m5.step e6 h6).step e7 h7).put (by simp[fcT]) fun st8 e8 m8=>?_
 refine hk y mo d st8 T7 b1 b4 b7 ((((((((Fe e1).trans e2).trans (Fe e3)).trans (Fe e4)).trans e5).trans (Fe e6)).trans (Fe e7)).trans e8) m8 ?_
 cases S with
 | some s=>exact NJ s1 s3 s4 s6 s7
 | none=>
  have:=(show T1=none from s1)
  subst this
  have:=(show T3=none from s3)
  subst this
  have:=(show T4=none from s4)
  subst this
  have:=(show T6=none from s6)
  subst this
  exact s7
theorem Mm {s:B8} {h c m c' d:Nat} {T1 T2 T3 T4 T5:Option B8} (s1:F4 2 (some s) h T1) (s2:Ib [58] T1 c T2) (s3:F4 2 T2 m T3) (s4:Ib [58] T3 c' T4) (s5:F4 2 T4 d T5):
  (Gd s->T5=some (s.drop 8)/\h=d2 s 0/\m=d2 s 3/\d=d2 s 6)/\(¬Gd s->T5=none):=by
 have s1':F4 2 (some (s.drop 0)) h T1:=by rw[List.drop_zero];exact s1
 by_cases f1:dd s 0
 ·obtain⟨rfl,v1⟩:=(DP (m:=2) rfl s1').1 f1
  by_cases f2:b0 s 2=58
  ·obtain rfl:=(F5 (m:=3) rfl s2).1 f2
   by_cases f3:dd s 3
   ·obtain⟨rfl,v3⟩:=(DP (m:=5) rfl s3).1 f3
    by_cases f4:b0 s 5=58
    ·obtain rfl:=(F5 (m:=6) rfl s4).1 f4
     by_cases f5:dd s 6
     ·obtain⟨rfl,v5⟩:=(DP (m:=8) rfl s5).1 f5
      exact⟨fun _=>⟨rfl,v1,v3,v5⟩,fun h=>absurd ⟨f1,f2,f3,f4,f5⟩ h⟩
     ·exact⟨fun h=>absurd h.2.2.2.2 f5,fun _=>(DP (m:=8) rfl s5).2 f5⟩
    ·obtain rfl:=(F5 (m:=6) rfl s4).2 f4
     exact⟨fun h=>absurd h.2.2.2.1 f4,fun _=>s5⟩
   ·obtain rfl:=(DP (m:=5) rfl s3).2 f3
    obtain rfl:T4=none:=s4
    exact⟨fun h=>absurd h.2.2.1 f3,fun _=>s5⟩
  ·obtain rfl:=(F5 (m:=3) rfl s2).2 f2
   obtain rfl:T3=none:=s3
   obtain rfl:T4=none:=s4
   exact⟨fun h=>absurd h.2.1 f2,fun _=>s5⟩
 ·obtain rfl:=(DP (m:=2) rfl s1').2 f1
  obtain rfl:T2=none:=s2
  obtain rfl:T3=none:=s3
  obtain rfl:T4=none:=s4
  exact⟨fun h=>absurd h.1 f1,fun _=>s5⟩
def Lx (S:Option B8) (h mi sc nn:Nat) (T:Option B8):Prop:=match S with
 | none=>T=none
 | some s=>match D4 s with
  | none=>T=none
  | some (h',mi',sc',f',r')=>T=some r'/\h=h'/\mi=mi'/\sc=sc'/\nn=f'
theorem TR.src {r:Nat} {st:St} {S:Option B8} (h:TR r st S):∃s,Ag st [] (.t (.box r 0)) 0=some (.str s)/\s.length<=1000000/\∀x,S=some x->s=x:=by
 obtain⟨_,s,hb,hl,hx⟩:=h.get
 exact⟨s,by simp[Ag,hb],hl,hx⟩
theorem Hm {r f:Nat} {st:St} {S:Option B8} {y mo d sg oh om:Nat} (hm:TM r f st S (fcT y mo d 0 0 0 0 sg oh om)) {K:St->Prop}
  (hk:∀h mi sc nn st' T,h<100->mi<100->sc<100->nn<1000000000->StX (rfS r f) st st'->TM r f st' T (fcT y mo d h mi sc nn sg oh om)->Lx S h mi sc nn T->K st'):CallT PR AQ [.box r 0,.box f 0] [] st K:=by
 refine Eo r f st K (DO (w:=2) (by decide) hm.1 fun y st1 T1 b1 e1 h1 s1=>(hm.step e1 h1).put (by simp[fcT]) fun st2 e2 m2=>?_)
 refine DN (of:=[58]) (by decide) (by decide) m2.1 fun c st3 T3 b3 e3 h3 s3=>DO (w:=2) (by decide) h3 fun mo st4 T4 b4 e4 h4 s4=>((m2.step e3 h3).step e4 h4).put (by simp[fcT]) fun st5 e5 m5=>?_
 refine DN (of:=[58]) (by decide) (by decide) m5.1 fun c' st6 T6 b6 e6 h6 s6=>DO (w:=2) (by decide) h6 fun d st7 T7 b7 e7 h7 s7=>((m5.step e6 h6).step e7 h7).put (by simp[fcT]) fun st8 e8 m8=>?_
 have E:=(((((((Fe e1).trans e2).trans (Fe e3)).trans (Fe e4)).trans e5).trans (Fe e6)).trans (Fe e7)).trans e8
 have comb:∀s,S=some s->(Gd s->T7=some (s.drop 8)/\y=d2 s 0/\mo=d2 s 3/\d=d2 s 6)/\(¬Gd s->T7=none):=fun s hs=>by
  subst hs;exact Mm s1 s3 s4 s6 s7
 have nn:S=none->T7=none:=fun hs=>by
  subst hs
  obtain rfl:T1=none:=s1
  obtain rfl:T3=none:=s3
  obtain rfl:T4=none:=s4
  obtain rfl:T6=none:=s6
  exact s7
 clear s1 s3 s4 s6 s7 m2 m5
 obtain⟨t,ht,hl,hx⟩:=m8.1.src
 have plain:(∀x,T7=some x->b0 x 0≠46)->K st8:=fun hp=>hk y mo d 0 st8 T7 b1 b4 b7 (by decide) E m8 (by
  cases S with
  | none=>exact nn rfl
  | some s=>
   unfold Lx;dsimp only
   obtain⟨c1,c2⟩:=comb s rfl
   unfold D4
   by_cases fc:Gd s
   ·obtain⟨rfl,v1,v2,v3⟩:=c1 fc
    rw[if_pos fc,if_neg (by have:=hp _ rfl;rw[Do]at this;exact this)]
    exact⟨rfl,v1,v2,v3,rfl⟩
   ·rw[if_neg fc];exact c2 fc)
 refine Ac ht (AD (Aa (fun g=>Ac ht (AD ⟨⟨by omega,by have:=List.length_pos_iff.2 g;omega⟩,Aa (fun g1=>?_) fun g1=>?_⟩)) fun g=>?_))
 ·have hpos:=List.length_pos_iff.2 g
  refine Ac ht (AD ⟨⟨by omega,by omega⟩,Hk (s:=t) m8.1 (by rw[List.length_drop];omega) fun st9 e9 h9=>?_⟩)
  refine NW h9 fun n st10 T10 b10 e10 h10 s10=>((m8.step e9 h9).step e10 h10).put (by simp[fcT]) fun st11 e11 m11=>?_
  refine hk y mo d n st11 T10 b1 b4 b7 b10 (((E.trans (Fe e9)).trans (Fe e10)).trans e11) m11 ?_
  have g46:b0 t 0=46:=(u8i (k:=46)).1 g1
  cases S with
  | none=>
   obtain rfl:=nn rfl
   exact s10
  | some s=>
   unfold Lx;dsimp only
   obtain⟨c1,c2⟩:=comb s rfl
   unfold D4
   by_cases fc:Gd s
   ·obtain⟨rfl,v1,v2,v3⟩:=c1 fc
    obtain rfl:=hx _ rfl
    rw[Do]at g46
    rw[if_pos fc,if_pos g46]
    have hd9:(s.drop 8).drop (Int.toNat 1)=s.drop 9:=by rw[List.drop_drop];rfl
    have s11:FracS (some (s.drop 9)) n T10:=by rw[<-hd9];exact s10
    change (if _ then _ else _)at s11
    by_cases hf:Aj (s.drop 9)=[]∨9<(Aj (s.drop 9)).length
    ·rw[if_pos hf]at s11
     rw[if_pos hf];exact s11
    ·rw[if_neg hf]at s11
     rw[if_neg hf]
     refine⟨?_,v1,v2,v3,s11.2⟩
     rw[s11.1,List.drop_drop]
   ·obtain rfl:=c2 fc
    rw[if_neg fc];exact s10
 ·exact plain fun x hx'=>by
   obtain rfl:=hx x hx'
   exact fun h=>g1 ((u8i (k:=46)).2 h)
 ·have g0:t=[]:=Decidable.not_not.1 g
  exact plain fun x hx'=>by
   obtain rfl:=hx x hx'
   rw[g0];decide
def MB (S:Option B8) (sg oh om:Nat) (T:Option B8):Prop:=match S with
 | none=>T=none
 | some s=>(T=some []->∃ls,H9 s=some (ls,oh,om)/\(ls=true↔sg=45))/\(T≠some []->H9 s=none)
theorem LW {s:B8} {sg oh om:Nat} {c:Nat} {T1 T2 T3 T:Option B8} (hsg:sg=(b0 s 0).toNat) (h0:b0 s 0=43∨b0 s 0=45) (hT:T1=some (s.drop 1)) (s1:F4 2 T1 oh T2) (s2:Ib [58] T2 c T3) (s3:F4 2 T3 om T):MB (some s) sg oh om T:=by
 subst hT
 have nz:¬(s=[90]∨s=[122]):=by
  rintro(h | h)<;>rw[h]at h0<;>revert h0<;>decide
 have no:T=none->(dd s 1->b0 s 3=58->dd s 4->False)->MB (some s) sg oh om T:=fun ht hf=>by
  subst ht
  refine⟨fun h=>(by cases h),fun _=>?_⟩
  unfold H9
  rw[if_neg nz,if_neg fun h=>hf h.2.2.1 h.2.2.2.1 h.2.2.2.2]
 by_cases f1:dd s 1
 ·obtain⟨rfl,rfl⟩:=(DP (m:=3) rfl s1).1 f1
  by_cases f2:b0 s 3=58
  ·obtain rfl:=(F5 (m:=4) rfl s2).1 f2
   by_cases f3:dd s 4
   ·obtain⟨rfl,rfl⟩:=(DP (m:=6) rfl s3).1 f3
    have hl:=Jb f3.2
    refine⟨fun h=>⟨decide (b0 s 0=45),?_,?_⟩,fun h=>?_⟩
    ·have h6:s.drop 6=[]:=Option.some.inj h
     have:=congrArg List.length h6
     rw[List.length_drop]at this
     simp at this
     unfold H9
     rw[if_neg nz,if_pos ⟨by omega,h0,f1,f2,f3⟩]
    ·rw[decide_eq_true_eq,hsg]
     exact⟨fun h=>by rw[h];rfl,fun h=>UInt8.toNat_inj.1 h⟩
    ·unfold H9
     rw[if_neg nz,if_neg]
     intro h'
     exact h (by rw[List.drop_of_length_le (by omega)])
   ·exact no ((DP (m:=6) rfl s3).2 f3) fun _ _ h=>f3 h
  ·obtain rfl:=(F5 (m:=4) rfl s2).2 f2
   exact no s3 fun _ h _=>f2 h
 ·obtain rfl:=(DP (m:=3) rfl s1).2 f1
  obtain rfl:T3=none:=s2
  exact no s3 fun h _ _=>f1 h
theorem MB.none {S T1 T:Option B8} {sg oh om:Nat} (h:Ib [90,122,43,45] S sg T1) (h1:T1=none) (ht:T=none):MB S sg oh om T:=by
 subst h1 ht
 cases S with
 | none=>rfl
 | some s=>
  refine⟨fun h=>(by cases h),fun _=>?_⟩
  have hn:s.getD 0 0∉ [90,122,43,45]:=fun hm=>by have:=(h.pos hm).1;cases this
  unfold H9
  rw[if_neg,if_neg]
  ·rintro⟨_,h | h,_⟩
   ·exact hn (by rw[show s.getD 0 0=43 from h];decide)
   ·exact hn (by rw[show s.getD 0 0=45 from h];decide)
  ·rintro(h | h)<;>rw[h]at hn<;>revert hn<;>decide
theorem Ir {r f:Nat} {st:St} {S:Option B8} {y mo d h mi sc nn:Nat} (hm:TM r f st S (fcT y mo d h mi sc nn 0 0 0)) {K:St->Prop}
  (hk:∀sg oh om st' T,sg<256->oh<100->om<100->StX (rfS r f) st st'->TM r f st' T (fcT y mo d h mi sc nn sg oh om)->MB S sg oh om T->K st'):CallT PR A0 [.box r 0,.box f 0] [] st K:=by
 refine D9 r f st K (DN (of:=[90,122,43,45]) (by decide) (by decide) hm.1 fun sg st1 T1 b1 e1 h1 s1=>(hm.step e1 h1).put (by simp[fcT]) fun st2 e2 m2=>?_)
 have hld:Ag st2 [] (.t (.box f 7)) 0=some (.int .u8 (sg:Nat)):=by simp[Ag,m2.2.2.1,fcT]
 have E2:=(Fe e1).trans e2
 refine Ac hld (As (Aa (fun g=>?_) fun g=>Ac hld (As (Aa (fun g2=>?_) fun g2=>?_))))
 iterate 2
  ·refine DO (w:=2) (by decide) m2.1 fun oh st3 T3 b3 e3 h3 s3=>(m2.step e3 h3).put (by simp[fcT]) fun st4 e4 m4=>?_
   refine DN (of:=[58]) (by decide) (by decide) m4.1 fun c st5 T5 b5 e5 h5 s5=>DO (w:=2) (by decide) h5 fun om st6 T6 b6 e6 h6 s6=>((m4.step e5 h5).step e6 h6).put (by simp[fcT]) fun st7 e7 m7=>?_
   refine hk sg oh om st7 T6 b1 b3 b6 (((((E2.trans (Fe e3)).trans e4).trans (Fe e5)).trans (Fe e6)).trans e7) m7 ?_
   cases T1 with
   | none=>
    obtain rfl:T3=none:=s3
    obtain rfl:T5=none:=s5
    exact MB.none s1 rfl s6
   | some x=>
    cases S with
    | none=>cases (show some x=none from s1)
    | some s=>
     by_cases hmem:s.getD 0 0∈ [90,122,43,45]
     ·obtain⟨hT,hs⟩:=s1.pos hmem
      refine LW hs ?_ hT s3 s5 s6
      have hc:((b0 s 0).toNat:Int)=sg:=by rw[hs];rfl
      first
       | exact .inl (UInt8.toNat_inj.1 (by rw[show((43:UInt8).toNat)=43 from rfl];omega))
       | exact .inr (UInt8.toNat_inj.1 (by rw[show((45:UInt8).toNat)=45 from rfl];omega))
     ·cases s1.neg hmem
 ·refine hk sg 0 0 st2 T1 b1 (by decide) (by decide) E2 m2 ?_
  cases T1 with
  | none=>exact MB.none s1 rfl rfl
  | some x=>
   cases S with
   | none=>cases (show some x=none from s1)
   | some s=>
    by_cases hmem:s.getD 0 0∈ [90,122,43,45]
    ·obtain⟨hT,hs⟩:=s1.pos hmem
     rw[hT]
     have h43:b0 s 0≠43:=fun h=>g (by rw[hs,show s.getD 0 0=43 from h];rfl)
     have h45:b0 s 0≠45:=fun h=>g2 (by rw[hs,show s.getD 0 0=45 from h];rfl)
     refine⟨fun h=>⟨false,?_,⟨fun h=>(by cases h),fun h=>absurd (by omega) g2⟩⟩,fun h=>?_⟩
     ·have h1:s.drop 1=[]:=Option.some.inj h
      unfold H9
      rw[if_pos]
      rcases s with _ | ⟨a,_ | ⟨b,s⟩⟩
      ·exact absurd hmem (by decide)
      ·have ha:a∈ [90,122,43,45]:=hmem
       simp only[List.mem_cons,List.not_mem_nil,or_false]at ha
       rcases ha with rfl | rfl | rfl | rfl
       ·exact .inl rfl
       ·exact .inr rfl
       ·exact absurd rfl h43
       ·exact absurd rfl h45
      ·cases h1
     ·unfold H9
      rw[if_neg,if_neg]
      ·rintro⟨_,h | h,_⟩
       ·exact h43 h
       ·exact h45 h
      ·rintro(h' | h')<;>exact h (by rw[h'];rfl)
    ·cases s1.neg hmem
theorem cday_ok {y m d:Nat} (hy:y<=100000) (hm:m<=1000) (hd:d<=1000) {st:St} {K:Int->Int->St->Prop} (hk:K (if okD y m d then(F3 y m d:Nat)else 0) (if okD y m d then 0 else 2) st):
  CallT PR Db [.int .i64 (y:Nat),.int .i64 (m:Nat),.int .i64 (d:Nat)] [.one (.int .i64),.one (.int .i64)] st K:=by
 refine H8 _ _ _ st K (Aa (fun g=>?_) fun g=>HW (by omega) (Aa (fun g2=>?_) fun g2=>?_))
 ·have hn:¬okD y m d:=fun h=>by have:=h.2.2.2.2.1;omega
  rw[if_neg hn,if_neg hn]at hk;exact hk
 ·have hn:¬okD y m d:=fun h=>by
   obtain⟨a1,a2,a3,a4,a5,a6⟩:=h
   rw[EH a1 a2 a3 a4]at g2
   omega
  rw[if_neg hn,if_neg hn]at hk;exact hk
 ·have hr:1<=y/\y<=9999/\1<=m/\m<=12:=by
   by_cases h:1<=y/\y<=9999/\1<=m/\m<=12
   ·exact h
   ·rw[show L0 y m=0 from if_neg h]at g2
    omega
  obtain⟨a1,a2,a3,a4⟩:=hr
  rw[EH a1 a2 a3 a4]at g2
  have ok:okD y m d:=⟨a1,a2,a3,a4,by omega,by omega⟩
  rw[if_pos ok,if_pos ok]at hk
  have hyr:yrS y<=4000000:=by unfold yrS;omega
  refine Lr a1 (by omega) ⟨fun n i y' m' st'=>((y:Nat):Int)=y'/\((m:Nat):Int)=m'/\st=st'/\∃j:Nat,i=j/\1<=j/\j<=m/\n=((yrS y+FA y j+(d-1):Nat):Int),fun _ i _ _ _=>(m-i).toNat,⟨rfl,rfl,rfl,1,rfl,by omega,by omega,?_⟩,?_⟩
  ·rw[Ab (((yrS y:Nat):Int)+((d:Nat):Int)) (by omega) (by omega),Ab _ (by omega) (by omega),show FA y 1=0 from rfl];omega
  ·rintro _ _ _ _ _ ⟨rfl,rfl,rfl,j,rfl,hj1,hj2,rfl⟩
   have hms:=G1 y j
   refine Aa (fun g3=>HW (by omega) ?_) fun g3=>?_
   ·have hmd:=G2 y j
    rw[EH a1 a2 hj1 (by omega),Ab _ (by omega) (by omega),Ab _ (by omega) (by omega)]
    exact⟨⟨rfl,rfl,rfl,j+1,by omega,by omega,by omega,by rw[FO y hj1];omega⟩,by dsimp only;omega⟩
   ·have:j=m:=by omega
    subst this
    exact hk
def IW (n1 y mo d h mi sc nn sg oh om:Nat):TmR:=
 if (n1≠2->okD y mo d)/\okC h mi sc/\oh<=23/\om<=59 then((n1:Nat),(if n1=2 then 0 else(F3 y mo d:Nat)),(De h mi sc nn:Nat),(if sg=45 then-((oh*60+om:Nat):Int)else((oh*60+om:Nat):Int)),0)else ER
def FinS (s:B8) (n1:Nat) (T:Option B8) (y mo d h mi sc nn sg oh om:Nat):Prop:=(T=some []->tmP s=IW n1 y mo d h mi sc nn sg oh om)/\(T≠some []->tmP s=ES)
theorem Ba {s:B8} {n1 y mo d h mi sc nn sg oh om:Nat} (e:tmP s=ES):FinS s n1 none y mo d h mi sc nn sg oh om:=⟨fun h=>(by cases h),fun _=>e⟩
theorem IV {s:B8} (n1:Nat) {y mo d h mi sc nn sg oh om:Nat} {r:B8} (hn:n1<=4) (e:tmP s=IW n1 y mo d h mi sc nn sg oh om) (hr:r=[]):FinS s n1 (some r) y mo d h mi sc nn sg oh om:=⟨fun _=>e,fun h=>absurd (by rw[hr]) h⟩
theorem okC0:okC 0 0 0:=by decide
theorem fin1 (y mo d:Nat):(if okD y mo d then((1:Int),((F3 y mo d:Nat):Int),(0:Int),(0:Int),(0:Int))else ER)=IW 1 y mo d 0 0 0 0 0 0 0:=by
 unfold IW
 by_cases h:okD y mo d
 ·rw[if_pos h,if_pos ⟨fun _=>h,okC0,by decide,by decide⟩];rfl
 ·rw[if_neg h,if_neg fun g=>h (g.1 (by decide))]
theorem fin2 (h mi sc nn:Nat):(if okC h mi sc then((2:Int),(0:Int),((De h mi sc nn:Nat):Int),(0:Int),(0:Int))else ER)=IW 2 0 0 0 h mi sc nn 0 0 0:=by
 unfold IW
 by_cases g:okC h mi sc
 ·rw[if_pos g,if_pos ⟨fun h=>absurd rfl h,g,by decide,by decide⟩];rfl
 ·rw[if_neg g,if_neg fun k=>g k.2.1]
theorem fin3 (y mo d h mi sc nn:Nat):(if okD y mo d/\okC h mi sc then((3:Int),((F3 y mo d:Nat):Int),((De h mi sc nn:Nat):Int),(0:Int),(0:Int))else ER)=IW 3 y mo d h mi sc nn 0 0 0:=by
 unfold IW
 by_cases g:okD y mo d/\okC h mi sc
 ·rw[if_pos g,if_pos ⟨fun _=>g.1,g.2,by decide,by decide⟩];rfl
 ·rw[if_neg g,if_neg fun k=>g ⟨k.1 (by decide),k.2.1⟩]
theorem fin4 (y mo d h mi sc nn sg oh om:Nat) (ls:Bool) (hl:ls=true↔sg=45):(if okD y mo d/\okC h mi sc/\oh<=23/\om<=59 then((4:Int),((F3 y mo d:Nat):Int),((De h mi sc nn:Nat):Int),(if ls=true then-((oh*60+om:Nat):Int)else((oh*60+om:Nat):Int)),(0:Int))else ER)=IW 4 y mo d h mi sc nn sg oh om:=by
 unfold IW
 by_cases g:okD y mo d/\okC h mi sc/\oh<=23/\om<=59
 ·have hp:(4≠2->okD y mo d)/\okC h mi sc/\oh<=23/\om<=59:=⟨fun _=>g.1,g.2⟩
  rw[if_pos g,if_pos hp]
  by_cases k:sg=45
  ·rw[if_pos k,if_pos (hl.2 k)];rfl
  ·rw[if_neg k,if_neg fun h=>k (hl.1 h)];rfl
 ·rw[if_neg g,if_neg fun k=>g ⟨k.1 (by decide),k.2⟩]
theorem Hl {s:B8} (hc:b0 s 2≠58) (h:¬Ct s):tmP s=ES:=by
 unfold tmP
 rw[if_neg h]
 have:D4 s=none:=by unfold D4;rw[if_neg fun g=>hc g.2.1]
 rw[this]
theorem ON {s:B8}:s.getD 0 0∈ [84,116,32]↔(b0 s 0=84∨b0 s 0=116∨b0 s 0=32):=by
 simp only[List.mem_cons,List.not_mem_nil,or_false];rfl
theorem JY {s:B8} (fd:Ct s) (hne:s.drop 10≠ []) (fo:(s.drop 10).getD 0 0∈ [84,116,32]):tmP s=match D4 (s.drop (10+1))with
  | none=>ES
  | some (h,m,sc,f,r')=>tmO (d2 s 0*100+d2 s 2) (d2 s 5) (d2 s 8) h m sc f r':=by
 unfold tmP tmD
 rw[if_pos fd,if_neg hne,if_pos (ON.1 fo),List.drop_drop]<;>rfl
theorem JX {s:B8} (fd:Ct s) (hne:s.drop 10≠ []) (fo:(s.drop 10).getD 0 0∉ [84,116,32]):tmP s=ES:=by
 unfold tmP tmD
 rw[if_pos fd,if_neg hne,if_neg fun h=>fo (ON.2 h)]
theorem Nf {s:B8} {k:Nat} {c:UInt8} (hc:c≠0) (h:b0 s k=c):k<s.length:=by
 by_cases hk:k<s.length
 ·exact hk
 ·rw[show b0 s k=0 by simp[b0,List.getD,Nat.le_of_not_lt hk]]at h
  exact absurd h.symm hc
theorem NX {r f:Nat} {st:St} {s:B8} (hm:TM r f st (some s) (fcT 0 0 0 0 0 0 0 0 0 0)) {K:Int->St->Prop}
  (hk:∀(n1 y mo d h mi sc nn sg oh om:Nat) st' T,n1<=4->y<10000->mo<100->d<100->h<100->mi<100->sc<100->nn<1000000000->sg<256->oh<100->om<100->StX (rfS r f) st st'->TM r f st' T (fcT y mo d h mi sc nn sg oh om)->FinS s n1 T y mo d h mi sc nn sg oh om->K (n1:Nat) st'):
  CallT PR BJ [.box r 0,.box f 0] [.one (.int .i64)] st K:=by
 obtain⟨x,hx,hl,hsx⟩:=hm.1.src
 have hxs:x=s:=hsx s rfl
 rw[hxs]at hx hl
 clear hsx hxs
 refine EY r f st K (Ac hx (AD (Aa (fun g=>Ac hx (AD ⟨⟨by omega,g⟩,Aa (fun g1=>?_) fun g1=>?_⟩)) fun g=>?_)))
 ·have h58:b0 s 2=58:=(u8i (k:=58)).1 g1
  have nfd:¬Ct s:=fun h=>absurd h.2.1.1 (by rw[h58];decide)
  refine Hm hm fun h mi sc nn st1 T c1 c2 c3 c4 e1 m1 s1=>hk 2 0 0 0 h mi sc nn 0 0 0 st1 T (by omega) (by decide) (by decide) (by decide) c1 c2 c3 c4 (by decide) (by decide) (by decide) e1 m1 ?_
  unfold Lx at s1
  dsimp only at s1
  have e:tmP s=match D4 s with
   | none=>ES
   | some (h,m,sc,f,r)=>if r=[]then(if okC h m sc then(2,0,(De h m sc f:Nat),0,0)else ER)else ES:=by unfold tmP;rw[if_neg nfd]<;>rfl
  cases hc:D4 s with
  | none=>rw[hc]at s1 e;exact s1▸Ba e
  | some p=>
   obtain⟨h',mi',sc',f',r'⟩:=p
   rw[hc]at s1 e
   dsimp only at s1 e
   obtain⟨rfl,rfl,rfl,rfl,rfl⟩:=s1
   by_cases hr:r'=[]
   ·rw[if_pos hr]at e
    exact IV _ (by decide) (by rw[e];exact fin2 _ _ _ _) hr
   ·rw[if_neg hr]at e
    exact⟨fun h=>absurd (Option.some.inj h) hr,fun _=>e⟩
 ·have hnc:b0 s 2≠58:=fun h=>g1 ((u8i (k:=58)).2 h)
  refine KF hm fun y mo d st2 T2 b1 b2 b3 e2 m2 s2=>?_
  obtain⟨x3,hx3,_,hs3⟩:=m2.1.src
  refine Ac hx3 (AD (Aa (fun g=>?_) fun g=>DN (of:=[84,116,32]) (by decide) (by decide) m2.1 fun c st3 T3 bc e3 h3 s3=>Hm (m2.step e3 h3) fun h mi sc nn st4 T4 c1 c2 c3 c4 e4 m4 s4=>?_))
  ·refine hk 1 y mo d 0 0 0 0 0 0 0 st2 T2 (by omega) b1 b2 b3 (by decide) (by decide) (by decide) (by decide) (by decide) (by decide) (by decide) e2 m2 ?_
   by_cases fd:Ct s
   ·obtain⟨rfl,rfl,rfl,rfl⟩:=s2.1 fd
    have h10:s.drop 10=[]:=by rw[<-hs3 _ rfl];exact g
    have e:tmP s=if okD (d2 s 0*100+d2 s 2) (d2 s 5) (d2 s 8)then((1:Int),((F3 (d2 s 0*100+d2 s 2) (d2 s 5) (d2 s 8):Nat):Int),(0:Int),(0:Int),(0:Int))else ER:=by unfold tmP tmD;rw[if_pos fd,if_pos h10]
    exact IV _ (by decide) (by rw[e];exact fin1 _ _ _) h10
   ·obtain rfl:=s2.2 fd
    exact Ba (by rw[Hl hnc fd])
  ·obtain⟨x4,hx4,_,hs4⟩:=m4.1.src
   have nofd:¬Ct s->T4=none:=fun fd=>by
    obtain rfl:=s2.2 fd
    obtain rfl:T3=none:=s3
    exact s4
   have E4:=(e2.trans (Fe e3)).trans e4
   refine Ac hx4 (AD (Aa (fun g4=>?_) fun g4=>Ir m4 fun sg oh om st5 T5 d1 d2 d3 e5 m5 s5=>?_))
   ·refine hk 3 y mo d h mi sc nn 0 0 0 st4 T4 (by omega) b1 b2 b3 c1 c2 c3 c4 (by decide) (by decide) (by decide) E4 m4 ?_
    by_cases fd:Ct s
    ·obtain⟨rfl,rfl,rfl,rfl⟩:=s2.1 fd
     have hne:s.drop 10≠ []:=fun e=>g (by rw[hs3 _ rfl];exact e)
     by_cases fo:(s.drop 10).getD 0 0∈ [84,116,32]
     ·obtain⟨rfl,_⟩:=s3.pos fo
      have e:=JY fd hne fo
      unfold Lx at s4
      dsimp only at s4
      rw[List.drop_drop]at s4
      cases hc:D4 (s.drop (10+1))with
      | none=>rw[hc]at s4 e;exact s4▸Ba e
      | some p=>
       obtain⟨h',mi',sc',f',r'⟩:=p
       rw[hc]at s4 e
       dsimp only at s4 e
       obtain⟨rfl,rfl,rfl,rfl,rfl⟩:=s4
       have hr:r'=[]:=by rw[<-hs4 _ rfl];exact g4
       unfold tmO at e
       rw[if_pos hr]at e
       exact IV _ (by decide) (by rw[e];exact fin3 _ _ _ _ _ _ _) hr
     ·obtain rfl:=s3.neg fo
      obtain rfl:T4=none:=s4
      exact Ba (JX fd hne fo)
    ·obtain rfl:=nofd fd
     exact Ba (by rw[Hl hnc fd])
   ·refine hk 4 y mo d h mi sc nn sg oh om st5 T5 (by omega) b1 b2 b3 c1 c2 c3 c4 d1 d2 d3 (E4.trans e5) m5 ?_
    by_cases fd:Ct s
    ·obtain⟨rfl,rfl,rfl,rfl⟩:=s2.1 fd
     have hne:s.drop 10≠ []:=fun e=>g (by rw[hs3 _ rfl];exact e)
     by_cases fo:(s.drop 10).getD 0 0∈ [84,116,32]
     ·obtain⟨rfl,_⟩:=s3.pos fo
      have e:=JY fd hne fo
      unfold Lx at s4
      dsimp only at s4
      rw[List.drop_drop]at s4
      cases hc:D4 (s.drop (10+1))with
      | none=>
       rw[hc]at s4 e
       dsimp only at s4
       subst s4
       obtain rfl:T5=none:=s5
       exact Ba e
      | some p=>
       obtain⟨h',mi',sc',f',r'⟩:=p
       rw[hc]at s4 e
       dsimp only at s4 e
       obtain⟨rfl,rfl,rfl,rfl,rfl⟩:=s4
       have hr:r'≠ []:=fun e=>g4 (by rw[hs4 _ rfl];exact e)
       unfold tmO at e
       rw[if_neg hr]at e
       by_cases h5:T5=some []
       ·obtain⟨ls,ho,hl⟩:=s5.1 h5
        rw[ho]at e
        exact⟨fun _=>by rw[e];exact fin4 _ _ _ _ _ _ _ _ _ _ _ hl,fun h=>absurd h5 h⟩
       ·have ho:=s5.2 h5
        rw[ho]at e
        exact⟨fun h=>absurd h h5,fun _=>e⟩
     ·obtain rfl:=s3.neg fo
      obtain rfl:T4=none:=s4
      obtain rfl:T5=none:=s5
      exact Ba (JX fd hne fo)
    ·obtain rfl:=nofd fd
     obtain rfl:T5=none:=s5
     exact Ba (by rw[Hl hnc fd])
 ·have hnc:b0 s 2≠58:=fun h=>by have:=Nf (by decide) h;omega
  refine KF hm fun y mo d st2 T2 b1 b2 b3 e2 m2 s2=>?_
  obtain⟨x3,hx3,_,hs3⟩:=m2.1.src
  refine Ac hx3 (AD (Aa (fun g=>?_) fun g=>DN (of:=[84,116,32]) (by decide) (by decide) m2.1 fun c st3 T3 bc e3 h3 s3=>Hm (m2.step e3 h3) fun h mi sc nn st4 T4 c1 c2 c3 c4 e4 m4 s4=>?_))
  ·refine hk 1 y mo d 0 0 0 0 0 0 0 st2 T2 (by omega) b1 b2 b3 (by decide) (by decide) (by decide) (by decide) (by decide) (by decide) (by decide) e2 m2 ?_
   by_cases fd:Ct s
   ·obtain⟨rfl,rfl,rfl,rfl⟩:=s2.1 fd
    have h10:s.drop 10=[]:=by rw[<-hs3 _ rfl];exact g
    have e:tmP s=if okD (d2 s 0*100+d2 s 2) (d2 s 5) (d2 s 8)then((1:Int),((F3 (d2 s 0*100+d2 s 2) (d2 s 5) (d2 s 8):Nat):Int),(0:Int),(0:Int),(0:Int))else ER:=by unfold tmP tmD;rw[if_pos fd,if_pos h10]
    exact IV _ (by decide) (by rw[e];exact fin1 _ _ _) h10
   ·obtain rfl:=s2.2 fd
    exact Ba (by rw[Hl hnc fd])
  ·obtain⟨x4,hx4,_,hs4⟩:=m4.1.src
   have nofd:¬Ct s->T4=none:=fun fd=>by
    obtain rfl:=s2.2 fd
    obtain rfl:T3=none:=s3
    exact s4
   have E4:=(e2.trans (Fe e3)).trans e4
   refine Ac hx4 (AD (Aa (fun g4=>?_) fun g4=>Ir m4 fun sg oh om st5 T5 d1 d2 d3 e5 m5 s5=>?_))
   ·refine hk 3 y mo d h mi sc nn 0 0 0 st4 T4 (by omega) b1 b2 b3 c1 c2 c3 c4 (by decide) (by decide) (by decide) E4 m4 ?_
    by_cases fd:Ct s
    ·obtain⟨rfl,rfl,rfl,rfl⟩:=s2.1 fd
     have hne:s.drop 10≠ []:=fun e=>g (by rw[hs3 _ rfl];exact e)
     by_cases fo:(s.drop 10).getD 0 0∈ [84,116,32]
     ·obtain⟨rfl,_⟩:=s3.pos fo
      have e:=JY fd hne fo
      unfold Lx at s4
      dsimp only at s4
      rw[List.drop_drop]at s4
      cases hc:D4 (s.drop (10+1))with
      | none=>rw[hc]at s4 e;exact s4▸Ba e
      | some p=>
       obtain⟨h',mi',sc',f',r'⟩:=p
       rw[hc]at s4 e
       dsimp only at s4 e
       obtain⟨rfl,rfl,rfl,rfl,rfl⟩:=s4
       have hr:r'=[]:=by rw[<-hs4 _ rfl];exact g4
       unfold tmO at e
       rw[if_pos hr]at e
       exact IV _ (by decide) (by rw[e];exact fin3 _ _ _ _ _ _ _) hr
     ·obtain rfl:=s3.neg fo
      obtain rfl:T4=none:=s4
      exact Ba (JX fd hne fo)
    ·obtain rfl:=nofd fd
     exact Ba (by rw[Hl hnc fd])
   ·refine hk 4 y mo d h mi sc nn sg oh om st5 T5 (by omega) b1 b2 b3 c1 c2 c3 c4 d1 d2 d3 (E4.trans e5) m5 ?_
    by_cases fd:Ct s
    ·obtain⟨rfl,rfl,rfl,rfl⟩:=s2.1 fd
     have hne:s.drop 10≠ []:=fun e=>g (by rw[hs3 _ rfl];exact e)
     by_cases fo:(s.drop 10).getD 0 0∈ [84,116,32]
     ·obtain⟨rfl,_⟩:=s3.pos fo
      have e:=JY fd hne fo
      unfold Lx at s4
      dsimp only at s4
      rw[List.drop_drop]at s4
      cases hc:D4 (s.drop (10+1))with
      | none=>
       rw[hc]at s4 e
       dsimp only at s4
       subst s4
       obtain rfl:T5=none:=s5
       exact Ba e
      | some p=>
       obtain⟨h',mi',sc',f',r'⟩:=p
       rw[hc]at s4 e
       dsimp only at s4 e
       obtain⟨rfl,rfl,rfl,rfl,rfl⟩:=s4
       have hr:r'≠ []:=fun e=>g4 (by rw[hs4 _ rfl];exact e)
       unfold tmO at e
       rw[if_neg hr]at e
       by_cases h5:T5=some []
       ·obtain⟨ls,ho,hl⟩:=s5.1 h5
        rw[ho]at e
        exact⟨fun _=>by rw[e];exact fin4 _ _ _ _ _ _ _ _ _ _ _ hl,fun h=>absurd h5 h⟩
       ·have ho:=s5.2 h5
        rw[ho]at e
        exact⟨fun h=>absurd h h5,fun _=>e⟩
     ·obtain rfl:=s3.neg fo
      obtain rfl:T4=none:=s4
      obtain rfl:T5=none:=s5
      exact Ba (JX fd hne fo)
    ·obtain rfl:=nofd fd
     obtain rfl:T5=none:=s5
     exact Ba (by rw[Hl hnc fd])
abbrev KT (K:Int->Int->Int->Int->Int->St->Prop) (r:TmR) (st:St):Prop:=K r.1 r.2.1 r.2.2.1 r.2.2.2.1 r.2.2.2.2 st
theorem LZ {h mi sc nn:Nat} (h1:h<100) (h2:mi<100) (h3:sc<100) (h4:nn<1000000000):
  i64.wrap ((i64.wrap ((i64.wrap ((i64.wrap ((i64.wrap ((i64.wrap (((h:Nat):Int)*60))+((mi:Nat):Int)))*60))+((sc:Nat):Int)))*1000000000))+((nn:Nat):Int))=((De h mi sc nn:Nat):Int):=by
 rw[Ab (((h:Nat):Int)*60) (by omega) (by omega),Ab (((h:Nat):Int)*60+((mi:Nat):Int)) (by omega) (by omega),Ab ((((h:Nat):Int)*60+((mi:Nat):Int))*60) (by omega) (by omega),Ab ((((h:Nat):Int)*60+((mi:Nat):Int))*60+((sc:Nat):Int)) (by omega) (by omega),Ab (((((h:Nat):Int)*60+((mi:Nat):Int))*60+((sc:Nat):Int))*1000000000) (by omega) (by omega),Ab _ (by omega) (by omega)]
 unfold De;omega
theorem Om {oh om:Nat} (h1:oh<100) (h2:om<100):i64.wrap ((i64.wrap (((oh:Nat):Int)*60))+((om:Nat):Int))=((oh*60+om:Nat):Int):=by
 rw[Ab (((oh:Nat):Int)*60) (by omega) (by omega),Ab _ (by omega) (by omega)];omega
theorem tP_ok {s:B8} (hl:s.length<=1000000) {st:St} {K:Int->Int->Int->Int->Int->St->Prop} (hk:∀st',Ax st st'->KT K (tmP s) st'):CallT PR Ch [.str s] [.agg [.int .i64,.int .i64,.int .i64,.int .i64],.one (.int .i64)] st K:=by
 refine H3 s st K (NX (r:=st.nb) (f:=st.nb+1) (s:=s) ?_ fun n1 y mo d h mi sc nn sg oh om st1 T a1 a2 a3 a4 a5 a6 a7 a8 a9 a10 a11 e1 m1 hF=>?_)
 ·refine⟨⟨?_,?_,hl⟩,?_,?_,?_⟩
  ·simp[St.push];omega
  ·simp[St.push]
  ·simp[St.push]
  ·simp[St.push,fcT]
  ·omega
 ·have E:Ax st st1:=StX.ext (((Ax.refl st).push _ _).push _ _) e1 (by
   rintro i (rfl | rfl)
   ·exact Nat.le_refl _
   ·exact Nat.le_succ _)
  obtain⟨hF1,hF2⟩:=hF
  have cell:∀i v,(fcT y mo d h mi sc nn sg oh om)[i]? =some v->Ag st1 [] (.t (.box (st.nb+1) i)) 0=some v:=fun i v hv=>by
   simp only[Ag,m1.2.2.1,Nat.add_zero];exact hv
  have c0:=cell 0 _ rfl
  have c1:=cell 1 _ rfl
  have c2:=cell 2 _ rfl
  have c3:=cell 3 _ rfl
  have c4:=cell 4 _ rfl
  have c5:=cell 5 _ rfl
  have c6:=cell 6 _ rfl
  have c7:=cell 7 _ rfl
  have c8:=cell 8 _ rfl
  have c9:=cell 9 _ rfl
  clear cell
  obtain⟨hr,t,hb,_,ht⟩:=m1.1.get
  have k0:Ag st1 [] (.t (.box st.nb 0)) 0=some (.str t):=by simp[Ag,hb]
  have k1:Ag st1 [] (.t (.box st.nb 1)) 0=some (.bool T.isNone):=by simp[Ag,hb]
  have bad:T≠some []->K 0 0 0 0 3 st1:=fun hT=>by
   have:=hk st1 E
   rw[hF2 hT]at this;exact this
  refine Ac k1 (NI (Ay (fun g=>bad fun e=>by rw[e]at g;cases g) fun g=>Ac k0 (AD (Aa (fun g1=>bad fun e=>g1 (ht [] e)) fun g1=>?_))))
  have hT:T=some []:=by
   cases T with
   | none=>cases g
   | some x=>rw[<-ht x rfl,Decidable.not_not.1 g1]
  have hV:=hF1 hT
  have hk1:=hk st1 E
  rw[hV]at hk1
  clear hF1 hF2 hV hk bad
  unfold KT IW at hk1
  have tail:(n1≠2->okD y mo d)->∀D:Int,D=(if n1=2 then 0 else((F3 y mo d:Nat):Int))->okC h mi sc/\oh<=23/\om<=59->K (n1:Nat) D (De h mi sc nn:Nat) (if sg=45 then-((oh*60+om:Nat):Int)else((oh*60+om:Nat):Int)) 0 st1:=fun h0 D hD h1=>by
   subst hD
   rw[if_pos ⟨h0,h1⟩]at hk1;exact hk1
  have out:(¬(okC h mi sc/\oh<=23/\om<=59)∨¬(n1≠2->okD y mo d))->K 0 0 0 0 2 st1:=fun hn=>by
   rw[if_neg (fun g=>by
    rcases hn with hn | hn
    ·exact hn g.2
    ·exact hn g.1)]at hk1
   exact hk1
  have end_:(n1≠2->okD y mo d)->∀D:Int,D=(if n1=2 then 0 else((F3 y mo d:Nat):Int))->okC h mi sc/\oh<=23/\om<=59->BIf (decide (((sg:Nat):Int)=45)) (K (n1:Nat) D (De h mi sc nn:Nat) (i64.wrap (0-((oh*60+om:Nat):Int))) 0 st1) (K (n1:Nat) D (De h mi sc nn:Nat) ((oh*60+om:Nat):Int) 0 st1):=fun h0 D hD h1=>by
   have:=tail h0 D hD h1
   refine Aa (fun g=>?_) fun g=>?_
   ·rw[if_pos (by omega)]at this
    rw[Ab _ (by omega) (by omega),show(0:Int)-((oh*60+om:Nat):Int)= -((oh*60+om:Nat):Int) by omega];exact this
   ·rw[if_neg (by omega)]at this;exact this
  have okc:∀{a b c:Nat},¬(23:Int)<(a:Nat)->¬(59:Int)<(b:Nat)->¬(59:Int)<(c:Nat)->okC a b c:=fun x y z=>⟨by omega,by omega,by omega⟩
  refine Aa (fun g2=>?_) fun g2=>?_
  ·refine Ac c0 (As (Ac c1 (As (Ac c2 (As (cday_ok (by omega) (by omega) (by omega) ?_))))))
   by_cases hD:okD y mo d
   ·rw[if_pos hD,if_pos hD]
    refine Aa (fun g=>absurd rfl g) fun _=>Ac c3 (As (Aa (fun g=>out (.inl fun k=>by have:=k.1.1;omega)) fun k1=>Ac c4 (As (Aa (fun g=>out (.inl fun k=>by have:=k.1.2.1;omega)) fun k2=>Ac c5 (As (Aa (fun g=>out (.inl fun k=>by have:=k.1.2.2;omega)) fun k3=>Ac c8 (As (Aa (fun g=>out (.inl fun k=>by have:=k.2.1;omega)) fun k4=>Ac c9 (As (Aa (fun g=>out (.inl fun k=>by have:=k.2.2;omega)) fun k5=>?_))))))))))
    refine Ac c3 (As (Ac c4 (As (Ac c5 (As (Ac c6 (As (Ac c8 (As (Ac c9 (As (Ac c7 (As ?_)))))))))))))
    rw[LZ a5 a6 a7 a8,Om a10 a11]
    exact end_ (fun _=>hD) _ (by rw[if_neg (by omega)]) ⟨okc k1 k2 k3,by omega,by omega⟩
   ·rw[if_neg hD,if_neg hD]
    exact Aa (fun _=>out (.inr fun k=>hD (k (by omega)))) fun g=>absurd (by decide) g
  ·refine Ac c3 (As (Aa (fun g=>out (.inl fun k=>by have:=k.1.1;omega)) fun k1=>Ac c4 (As (Aa (fun g=>out (.inl fun k=>by have:=k.1.2.1;omega)) fun k2=>Ac c5 (As (Aa (fun g=>out (.inl fun k=>by have:=k.1.2.2;omega)) fun k3=>Ac c8 (As (Aa (fun g=>out (.inl fun k=>by have:=k.2.1;omega)) fun k4=>Ac c9 (As (Aa (fun g=>out (.inl fun k=>by have:=k.2.2;omega)) fun k5=>?_))))))))))
   refine Ac c3 (As (Ac c4 (As (Ac c5 (As (Ac c6 (As (Ac c8 (As (Ac c9 (As (Ac c7 (As ?_)))))))))))))
   rw[LZ a5 a6 a7 a8,Om a10 a11]
   exact end_ (fun h=>absurd (by omega) h) _ (by rw[if_pos (by omega)]) ⟨okc k1 k2 k3,by omega,by omega⟩
def Eh (form s:B8):Prop:=form.length<=s.length/\∀i,i<form.length->if form.getD i 0=100 then AH (s.getD i 0)else s.getD i 0=form.getD i 0
instance (form s:B8):Decidable (Eh form s):=inferInstanceAs (Decidable (_/\_))
theorem GU {s form:B8} (hl:s.length<=100000000) {st:St} {K:Bool->St->Prop} (hk:K (decide (Eh form s)) st):CallT PR AM [.str s,.str form] [.one .bool] st K:=by
 have no:¬Eh form s->K false st:=fun h=>by rw[decide_eq_false h]at hk;exact hk
 refine Fl s form st K (Aa (fun g=>no fun h=>by have:=h.1;omega) fun g=>?_)
 refine⟨fun i s' f' st'=>s=s'/\form=f'/\st=st'/\∃k:Nat,i=k/\k<=form.length/\∀j,j<k->if form.getD j 0=100 then AH (s.getD j 0)else s.getD j 0=form.getD j 0,fun i _ _ _=>(form.length-i).toNat,⟨rfl,rfl,rfl,0,rfl,Nat.zero_le _,fun j h=>absurd h (Nat.not_lt_zero _)⟩,?_⟩
 rintro _ _ _ _ ⟨rfl,rfl,rfl,k,rfl,hk1,hd⟩
 rw[Int.toNat_natCast,Ab _ (by omega) (by omega)]
 have next:(if form.getD k 0=100 then AH (s.getD k 0)else s.getD k 0=form.getD k 0)->∀j,j<k+1->if form.getD j 0=100 then AH (s.getD j 0)else s.getD j 0=form.getD j 0:=fun h j hj=>by
  by_cases hjk:j=k
  ·subst hjk;exact h
  ·exact hd j (by omega)
 have nxt:= @next
 refine Aa (fun g1=>⟨⟨by omega,g1⟩,Aa (fun g2=>⟨⟨by omega,by omega⟩,Aa (fun g3=>no fun h=>?_) fun g3=>⟨⟨by omega,by omega⟩,Aa (fun g4=>no fun h=>?_) fun g4=>⟨⟨by omega,g1⟩,Aa (fun g5=>absurd g2 g5) fun _=>⟨⟨rfl,rfl,rfl,k+1,by omega,by omega,nxt ?_⟩,by dsimp only;omega⟩⟩⟩⟩) fun g2=>⟨⟨by omega,g1⟩,Aa (fun g5=>⟨⟨by omega,by omega⟩,⟨by omega,g1⟩,Aa (fun g6=>no fun h=>?_) fun g6=>⟨⟨rfl,rfl,rfl,k+1,by omega,by omega,nxt ?_⟩,by dsimp only;omega⟩⟩) fun g5=>absurd g2 g5⟩⟩) fun g1=>?_
 ·have:=h.2 k (by omega)
  rw[if_pos ((u8i (k:=100)).1 g2)]at this
  have:=this.1;omega
 ·have:=h.2 k (by omega)
  rw[if_pos ((u8i (k:=100)).1 g2)]at this
  have:=this.2;omega
 ·rw[if_pos ((u8i (k:=100)).1 g2)]
  exact⟨by omega,by omega⟩
 ·have:=h.2 k (by omega)
  rw[if_neg fun e=>g2 ((u8i (k:=100)).2 e)]at this
  exact g6 (by rw[this])
 ·rw[if_neg fun e=>g2 ((u8i (k:=100)).2 e)]
  exact UInt8.toNat_inj.1 (Int.ofNat.inj (Decidable.not_not.1 g6))
 ·have:Eh form s:=⟨by omega,fun i hi=>hd i (by omega)⟩
  rw[decide_eq_true this]at hk;exact hk
theorem like_C (s:B8):Eh [100,100,58,100,100,58,100,100] s↔Gd s:=by
 constructor
 ·intro h
  exact⟨⟨h.2 0 (by decide),h.2 1 (by decide)⟩,h.2 2 (by decide),⟨h.2 3 (by decide),h.2 4 (by decide)⟩,h.2 5 (by decide),⟨h.2 6 (by decide),h.2 7 (by decide)⟩⟩
 ·rintro⟨⟨h0,h1⟩,h2,⟨h3,h4⟩,h5,⟨h6,h7⟩⟩
  have hl:=Jb h7
  refine⟨hl,fun i hi=>?_⟩
  rcases (by simp at hi;omega:i=0∨i=1∨i=2∨i=3∨i=4∨i=5∨i=6∨i=7)with rfl | rfl | rfl | rfl | rfl | rfl | rfl | rfl
  ·exact h0
  ·exact h1
  ·exact h2
  ·exact h3
  ·exact h4
  ·exact h5
  ·exact h6
  ·exact h7
theorem like_D (s:B8):Eh [100,100,100,100,45,100,100,45,100,100] s↔Ct s:=by
 constructor
 ·intro h
  exact⟨⟨h.2 0 (by decide),h.2 1 (by decide)⟩,⟨h.2 2 (by decide),h.2 3 (by decide)⟩,h.2 4 (by decide),⟨h.2 5 (by decide),h.2 6 (by decide)⟩,h.2 7 (by decide),⟨h.2 8 (by decide),h.2 9 (by decide)⟩⟩
 ·rintro⟨⟨h0,h1⟩,⟨h2,h3⟩,h4,⟨h5,h6⟩,h7,⟨h8,h9⟩⟩
  have hl:=Jb h9
  refine⟨hl,fun i hi=>?_⟩
  rcases (by simp at hi;omega:i=0∨i=1∨i=2∨i=3∨i=4∨i=5∨i=6∨i=7∨i=8∨i=9)with rfl | rfl | rfl | rfl | rfl | rfl | rfl | rfl | rfl | rfl
  ·exact h0
  ·exact h1
  ·exact h2
  ·exact h3
  ·exact h4
  ·exact h5
  ·exact h6
  ·exact h7
  ·exact h8
  ·exact h9
theorem Ox (s:B8) (c:UInt8) (hc:c≠100) (hl:s.length=6):Eh [c,100,100,58,100,100] s↔(b0 s 0=c/\dd s 1/\b0 s 3=58/\dd s 4):=by
 constructor
 ·intro h
  have h0:=h.2 0 (by simp)
  rw[show([c,100,100,58,100,100]:B8).getD 0 0=c from rfl,if_neg hc]at h0
  exact⟨h0,⟨h.2 1 (by simp),h.2 2 (by simp)⟩,h.2 3 (by simp),⟨h.2 4 (by simp),h.2 5 (by simp)⟩⟩
 ·rintro⟨h0,⟨h1,h2⟩,h3,⟨h4,h5⟩⟩
  refine⟨by rw[hl];simp,fun i hi=>?_⟩
  rcases (by simp at hi;omega:i=0∨i=1∨i=2∨i=3∨i=4∨i=5)with rfl | rfl | rfl | rfl | rfl | rfl
  ·rw[show([c,100,100,58,100,100]:B8).getD 0 0=c from rfl,if_neg hc];exact h0
  ·exact h1
  ·exact h2
  ·exact h3
  ·exact h4
  ·exact h5
theorem Cw {l:B8} (hl:l.length<=18) (hd:∀c,c∈l->AH c) {N:Nat} (hN:N=A3 l) {st:St} {K:Int->St->Prop} (hk:K (N:Nat) st):CallT PR Ai [.str l] [.one (.int .i64)] st K:=by
 subst hN
 refine Et l st K ⟨fun n i l' st'=>l=l'/\st=st'/\∃k:Nat,i=k/\k<=l.length/\n=(A3 (l.take k):Nat),fun _ i _ _=>(l.length-i).toNat,⟨rfl,rfl,0,rfl,Nat.zero_le _,rfl⟩,?_⟩
 rintro _ _ _ _ ⟨rfl,rfl,k,rfl,hkl,rfl⟩
 rw[Int.toNat_natCast]
 refine Aa (fun g=>⟨⟨by omega,g⟩,?_⟩) fun g=>?_
 ·have hk':k<l.length:=by omega
  have hv:=EA hd hl k hk'
  have hs:=Ed hk'
  obtain⟨c1,c2⟩:=hd _ (Dz hk')
  rw[Gl _ (by omega) (by omega),Ab (_*10) (by omega) (by omega),Ab (((l.getD k 0).toNat:Int)-48) (by omega) (by omega),Ab (_+_) (by omega) (by omega),Ab _ (by omega) (by omega)]
  exact⟨⟨rfl,rfl,k+1,by omega,by omega,by rw[hs];omega⟩,by dsimp only;omega⟩
 ·have:k=l.length:=by omega
  subst this
  rw[List.take_length];exact hk
theorem Gr {s:B8} {k m:Nat} (hm:k+2=m) (h:dd s k):((s.take m).drop k).length<=18/\(∀c,c∈(s.take m).drop k->AH c)/\d2 s k=A3 ((s.take m).drop k):=by
 have e:(s.take m).drop k=(s.drop k).take 2:=by rw[List.drop_take];congr 1;omega
 have f:F2 2 (s.drop k):=(numF2 _).2 ((MX s k 0).2 h)
 rw[e]
 refine⟨by rw[List.length_take];omega,fun c hc=>?_,by rw[val2 f,Na];rfl⟩
 obtain⟨i,hi⟩:=List.getElem?_of_mem hc
 have hl:=(List.getElem?_eq_some_iff.1 hi).1
 rw[List.length_take]at hl
 rw[List.getElem?_take,if_pos (by omega)]at hi
 have:=f.2 i (by omega)
 rwa [List.getD,hi]at this
theorem G9 {s:B8} {k:Nat} (h:dd s k):d2 s k<100:=by
 obtain⟨⟨h1,h2⟩,h3,h4⟩:=h
 unfold d2 dv
 omega
def KCl (K:Int->B8->Bool->Bool->St->Prop) (r:Option (Nat×Nat×Nat×Nat×B8)) (st:St):Prop:=match r with
 | none=>K 0 [] false false st
 | some (h,m,sc,f,r)=>K (De h m sc f:Nat) r true (decide (okC h m sc)) st
theorem OM {f:B8} (hd:∀c,c∈f->AH c) (hl:f.length<=9):IR f<1000000000:=by
 unfold IR
 have:=FK (f++List.replicate (9-f.length) 48) fun c hc=>by
  rcases List.mem_append.1 hc with hc | hc
  ·exact hd c hc
  ·rw[List.eq_of_mem_replicate hc];decide
 rw[List.length_append,List.length_replicate,show f.length+(9-f.length)=9 by omega]at this
 exact this
theorem N9 {s:B8} (hl:s.length<=1000000) {st:St} {K:Int->B8->Bool->Bool->St->Prop} (hk:KCl K (D4 s) st):CallT PR Aw [.str s] [.one (.int .i64),.one .str,.one .bool,.one .bool] st K:=by
 refine DI s st K (GU (by omega) ?_)
 show BIf (!decide (Eh [100,100,58,100,100,58,100,100] s)) _ _
 rw[decide_eq_decide.2 (like_C s)]
 unfold D4 at hk
 by_cases fc:Gd s
 ·rw[if_pos fc]at hk
  rw[decide_eq_true fc]
  refine Ay (fun h=>by cases h) fun _=>?_
  have hlen:=Jb fc.2.2.2.2.2
  obtain⟨n1,n2,n3⟩:=Gr (k:=0) (m:=2) rfl fc.1
  obtain⟨m1,m2,m3⟩:=Gr (k:=3) (m:=5) rfl fc.2.2.1
  obtain⟨p1,p2,p3⟩:=Gr (k:=6) (m:=8) rfl fc.2.2.2.2
  rw[List.drop_zero]at n1 n2 n3
  have a1:=G9 fc.1
  have a2:=G9 fc.2.2.1
  have a3:=G9 fc.2.2.2.2
  refine⟨⟨by omega,by omega⟩,⟨by omega,by omega,by omega⟩,⟨by omega,by omega,by omega⟩,Cw n1 n2 n3 (Cw m1 m2 m3 (Cw p1 p2 p3 ⟨⟨by omega,by omega⟩,?_⟩))⟩
  rw[show Int.toNat (8:Int)=8 from rfl,show Int.toNat (0:Int)=0 from rfl]
  generalize d2 s 0=h at*
  generalize d2 s 3=m at*
  generalize d2 s 6=sc at*
  clear n1 n2 n3 m1 m2 m3 p1 p2 p3
  --what is returned
  have ret:∀(f:Nat) (r:B8),f<1000000000->K (De h m sc f:Nat) r true (decide (okC h m sc)) st->BIf (decide (((h:Nat):Int)<=23)) (BIf (decide (((m:Nat):Int)<=59)) (K (i64.wrap ((i64.wrap ((i64.wrap ((i64.wrap ((i64.wrap ((i64.wrap (((h:Nat):Int)*60))+((m:Nat):Int)))*60))+((sc:Nat):Int)))*1000000000))+((f:Nat):Int))) r true (decide (((sc:Nat):Int)<=59)) st) (K (i64.wrap ((i64.wrap ((i64.wrap ((i64.wrap ((i64.wrap ((i64.wrap (((h:Nat):Int)*60))+((m:Nat):Int)))*60))+((sc:Nat):Int)))*1000000000))+((f:Nat):Int))) r true false st)) (K (i64.wrap ((i64.wrap ((i64.wrap ((i64.wrap ((i64.wrap ((i64.wrap (((h:Nat):Int)*60))+((m:Nat):Int)))*60))+((sc:Nat):Int)))*1000000000))+((f:Nat):Int))) r true false st):=fun f r hf hk'=>by
   rw[LZ a1 a2 a3 hf]
   refine Aa (fun g1=>Aa (fun g2=>?_) fun g2=>?_) fun g1=>?_
   ·have:decide (okC h m sc)=decide (((sc:Nat):Int)<=59):=decide_eq_decide.2 ⟨fun k=>by have:=k.2.2;omega,fun k=>⟨by omega,by omega,by omega⟩⟩
    rw[this]at hk';exact hk'
   ·rw[decide_eq_false fun k:okC h m sc=>by have:=k.2.1;omega]at hk';exact hk'
   ·rw[decide_eq_false fun k:okC h m sc=>by have:=k.1;omega]at hk';exact hk'
  have h8:(s.drop 8).getD 0 0=b0 s 8:=by rw[show(s.drop 8).getD 0 0=b0 (s.drop 8) 0 from rfl,Do]
  rw[h8]
  have plain:b0 s 8≠46->K (De h m sc 0:Nat) (s.drop 8) true (decide (okC h m sc)) st:=fun h=>by rw[if_neg h]at hk;exact hk
  refine Aa (fun g=>⟨⟨by omega,g⟩,Aa (fun g1=>?_) fun g1=>ret 0 _ (by decide) (plain fun e=>g1 ((u8i (k:=46)).2 e))⟩) fun g=>ret 0 _ (by decide) (plain fun e=>?_)
  ·have g46:=(u8i (k:=46)).1 g1
   rw[if_pos g46]at hk
   have hd9:s.drop 9=(s.drop 8).drop 1:=by rw[List.drop_drop]
   rw[hd9]at hk
   have hl8:(s.drop 8).length<=1000000:=by rw[List.length_drop];omega
   have hfin:∀n,s.drop (9+n)=(s.drop 8).drop (1+n):=fun n=>by rw[List.drop_drop];congr 1;omega
   rw[hfin]at hk
   have hpos:0<(s.drop 8).length:=by omega
   generalize s.drop 8=t at*
   clear hfin hd9
   have hrl:=Bs (t.drop 1)
   rw[List.length_drop]at hrl
   have hrd:=DB (t.drop 1)
   refine⟨fun n t' h' m' sc' st'=>t=t'/\((h:Nat):Int)=h'/\((m:Nat):Int)=m'/\((sc:Nat):Int)=sc'/\st=st'/\∃j:Nat,n=((1+j:Nat):Int)/\1+j<=t.length/\∀i,i<j->AH ((t.drop 1).getD i 0),fun n _ _ _ _ _=>(t.length-n).toNat,⟨rfl,rfl,rfl,rfl,rfl,0,rfl,by omega,fun j h=>absurd h (Nat.not_lt_zero _)⟩,?_⟩
   rintro _ _ _ _ _ _ ⟨rfl,rfl,rfl,rfl,rfl,j,rfl,hj,hd⟩
   rw[Int.toNat_natCast]
   have hget:(t.drop 1).getD j 0=t.getD (1+j) 0:=Do t 1 j
   have run:(1+j=t.length∨¬AH (t.getD (1+j) 0))->(Aj (t.drop 1)).length=j:=fun hs=>El (t.drop 1) j (by rw[List.length_drop];omega) hd (by
    rcases hs with hs | hs
    ·left;rw[List.length_drop];omega
    ·right;rw[hget];exact hs)
   have tail:(1+j=t.length∨¬AH (t.getD (1+j) 0))->BIf (decide (((1+j:Nat):Int)<2)) (K 0 [] false false st) (BIf (decide (10<((1+j:Nat):Int))) (K 0 [] false false st) ((0<=(1:Int)/\(1:Int)<=((1+j:Nat):Int)/\((1+j:Nat):Int)<=((t.length:Nat):Int))/\((List.drop (Int.toNat (1:Int)) (List.take (1+j) t)).length+CS.length<=9223372036854775807/\((0<=(9:Int)/\(9:Int)<=(((List.drop (Int.toNat (1:Int)) (List.take (1+j) t)++CS).length:Nat):Int))/\
     CallT PR Ai [.str (List.take (Int.toNat (9:Int)) (List.drop (Int.toNat (1:Int)) (List.take (1+j) t)++CS))] [.one (.int .i64)] st fun n4 st6=>((0<=((1+j:Nat):Int)/\((1+j:Nat):Int)<=((t.length:Nat):Int))/\BIf (decide (((h:Nat):Int)<=23)) (BIf (decide (((m:Nat):Int)<=59)) (K (i64.wrap ((i64.wrap ((i64.wrap ((i64.wrap ((i64.wrap ((i64.wrap (((h:Nat):Int)*60))+((m:Nat):Int)))*60))+((sc:Nat):Int)))*1000000000))+n4)) (List.drop (1+j) t) true (decide (((sc:Nat):Int)<=59)) st6) (K (i64.wrap ((i64.wrap ((i64.wrap ((i64.wrap ((i64.wrap ((i64.wrap (((h:Nat):Int)*60))+((m:Nat):Int)))*60))+((sc:Nat):Int)))*1000000000))+n4)) (List.drop (1+j) t) true false st6)) (K (i64.wrap ((i64.wrap ((i64.wrap ((i64.wrap ((i64.wrap ((i64.wrap (((h:Nat):Int)*60))+((m:Nat):Int)))*60))+((sc:Nat):Int)))*1000000000))+n4)) (List.drop (1+j) t) true false st6)))))):=fun hs=>by
    have hr:=run hs
    have htk:List.drop (Int.toNat (1:Int)) (List.take (1+j) t)=Aj (t.drop 1):=by
     show(t.take (1+j)).drop 1=_
     rw[List.drop_take,Nat.add_sub_cancel_left,<-hr,Ck]
    rw[htk]
    rw[hr]at hk
    generalize Aj (t.drop 1)=f at*
    refine Aa (fun g2=>?_) fun g2=>Aa (fun g3=>?_) fun g3=>⟨⟨by omega,by omega,by omega⟩,?_,⟨by omega,?_⟩,?_⟩
    ·rw[if_pos (.inl (List.length_eq_zero_iff.1 (by omega)))]at hk;exact hk
    ·rw[if_pos (.inr (by omega))]at hk;exact hk
    ·show f.length+9<=_;omega
    ·rw[List.length_append];show(9:Int)<=((f.length+9:Nat):Int);omega
    ·rw[if_neg (by rintro(e | e);rw[e]at hr;simp at hr;omega;omega)]at hk
     have hlt:=OM hrd (by omega)
     have he:(f++CS).take 9=f++List.replicate (9-f.length) 48:=by
      rw[List.take_append,List.take_of_length_le (by omega)]
      congr 1
      show(List.replicate 9 (48:UInt8)).take _=_
      rw[List.take_replicate];congr 1;omega
     have hN:IR f=A3 ((f++CS).take (Int.toNat (9:Int))):=by
      show _=A3 ((f++CS).take 9)
      rw[he];rfl
     refine Cw (N:=IR f) ?_ ?_ hN ⟨⟨by omega,by omega⟩,ret _ _ hlt hk⟩
     ·show((f++CS).take 9).length<=18;rw[List.length_take];omega
     ·show ∀c,c∈(f++CS).take 9->AH c
      rw[he]
      intro c hc
      rcases List.mem_append.1 hc with hc | hc
      ·exact hrd c hc
      ·rw[List.eq_of_mem_replicate hc];decide
   refine Aa (fun g2=>⟨⟨by omega,g2⟩,Aa (fun g3=>⟨⟨by omega,g2⟩,Aa (fun g4=>?_) fun g4=>?_⟩) fun g3=>?_⟩) fun g2=>?_
   ·rw[Ab _ (by omega) (by omega)]
    refine⟨⟨rfl,rfl,rfl,rfl,rfl,j+1,by omega,by omega,fun i hi=>?_⟩,by dsimp only;omega⟩
    by_cases hij:i=j
    ·subst hij;rw[hget];exact⟨by omega,by omega⟩
    ·exact hd i (by omega)
   ·exact tail (.inr fun h=>g4 (by have:=h.2;omega))
   ·exact tail (.inr fun h=>g3 (by have:=h.1;omega))
   ·exact tail (.inl (by omega))
  ·have:=Nf (by decide) e
   rw[List.length_drop]at g
   omega
 ·rw[if_neg fc]at hk
  rw[decide_eq_false fc]
  exact Ay (fun _=>hk) fun h=>by cases h
def KOf (K:Int->Bool->Bool->St->Prop) (r:Option (Bool×Nat×Nat)) (st:St):Prop:=match r with
 | none=>K 0 false false st
 | some (ls,oh,om)=>K (if ls then-((oh*60+om:Nat):Int)else((oh*60+om:Nat):Int)) true (decide (oh<=23/\om<=59)) st
theorem rto_ok {s:B8} (hl:s.length<=1000000) {st:St} {K:Int->Bool->Bool->St->Prop} (hk:KOf K (H9 s) st):CallT PR AC [.str s] [.one (.int .i64),.one .bool,.one .bool] st K:=by
 unfold H9 at hk
 refine Du s st K (Aa (fun g=>?_) fun g=>Aa (fun g2=>?_) fun g2=>Aa (fun g3=>?_) fun g3=>?_)
 ·rw[if_pos (.inl g)]at hk;exact hk
 ·rw[if_pos (.inr g2)]at hk;exact hk
 ·have nz:¬(s=[90]∨s=[122]):=by rintro(h | h);exact g h;exact g2 h
  rw[if_neg nz,if_neg fun h=>by have:=h.1;omega]at hk;exact hk
 ·have nz:¬(s=[90]∨s=[122]):=by rintro(h | h);exact g h;exact g2 h
  rw[if_neg nz]at hk
  have h6:s.length=6:=by omega
  have tail:∀c:UInt8,b0 s 0=c->(c=43∨c=45)->dd s 1->b0 s 3=58->dd s 4->((0<=(1:Int)/\(1:Int)<=3/\(3:Int)<=((s.length:Nat):Int))/\((0<=(4:Int)/\(4:Int)<=6/\(6:Int)<=((s.length:Nat):Int))/\
    CallT PR Ai [.str (List.drop (Int.toNat (1:Int)) (List.take (Int.toNat (3:Int)) s))] [.one (.int .i64)] st fun n1 st3=>CallT PR Ai [.str (List.drop (Int.toNat (4:Int)) (List.take (Int.toNat (6:Int)) s))] [.one (.int .i64)] st3 fun n2 st4=>((0<=(0:Int)/\(0:Int)<((s.length:Nat):Int))/\
     BIf (decide (((List.getD s (Int.toNat (0:Int)) 0).toNat:Int)=45)) (BIf (decide (n1<=23)) (K (i64.wrap (0-i64.wrap (i64.wrap (n1*60)+n2))) true (decide (n2<=59)) st4) (K (i64.wrap (0-i64.wrap (i64.wrap (n1*60)+n2))) true false st4)) (BIf (decide (n1<=23)) (K (i64.wrap (i64.wrap (n1*60)+n2)) true (decide (n2<=59)) st4) (K (i64.wrap (i64.wrap (n1*60)+n2)) true false st4))))):=fun c h0 hc f1 f3 f4=>by
   obtain⟨n1,n2,n3⟩:=Gr (k:=1) (m:=3) rfl f1
   obtain⟨m1,m2,m3⟩:=Gr (k:=4) (m:=6) rfl f4
   have a1:=G9 f1
   have a2:=G9 f4
   rw[if_pos ⟨h6,(by rcases hc with rfl | rfl;exact .inl h0;exact .inr h0),f1,f3,f4⟩]at hk
   refine⟨⟨by omega,by omega,by omega⟩,⟨by omega,by omega,by omega⟩,Cw n1 n2 n3 (Cw m1 m2 m3 ⟨⟨by omega,by omega⟩,?_⟩)⟩
   generalize d2 s 1=oh at*
   generalize d2 s 4=om at*
   have hw:i64.wrap (i64.wrap (((oh:Nat):Int)*60)+((om:Nat):Int))=((oh*60+om:Nat):Int):=Om a1 a2
   rw[hw]
   change K (if decide (b0 s 0=45)=true then-((oh*60+om:Nat):Int)else((oh*60+om:Nat):Int)) true (decide (oh<=23/\om<=59)) st at hk
   have hin:∀z:Int,K z true (decide (oh<=23/\om<=59)) st->BIf (decide (((oh:Nat):Int)<=23)) (K z true (decide (((om:Nat):Int)<=59)) st) (K z true false st):=fun z hz=>Aa (fun g=>by
    rw[decide_eq_decide.2 (show(oh<=23/\om<=59)↔((om:Nat):Int)<=59 from⟨fun h=>by omega,fun h=>⟨by omega,by omega⟩⟩)]at hz;exact hz) fun g=>by
    rw[decide_eq_false fun h:oh<=23/\om<=59=>by omega]at hz;exact hz
   refine Aa (fun g=>hin _ ?_) fun g=>hin _ ?_
   ·have e:b0 s 0=45:=(u8i (k:=45)).1 g
    rw[if_pos (by simpa using e)]at hk
    rw[Ab _ (by omega) (by omega),show(0:Int)-((oh*60+om:Nat):Int)= -((oh*60+om:Nat):Int) by omega];exact hk
   ·have e:¬b0 s 0=45:=fun e=>g ((u8i (k:=45)).2 e)
    rw[if_neg (by simpa using e)]at hk;exact hk
  have L1:=Ox s 43 (by decide) h6
  have L2:=Ox s 45 (by decide) h6
  refine GU (by omega) (Ay (fun b1=>GU (by omega) (Ay (fun b2=>?_) fun b2=>?_)) fun b1=>?_)
  ·have x1:¬Eh [43,100,100,58,100,100] s:=by have h:=b1;simp at h;exact h
   have x2:¬Eh [45,100,100,58,100,100] s:=by have h:=b2;simp at h;exact h
   rw[if_neg]at hk
   ·exact hk
   ·rintro⟨_,h | h,h2,h3,h4⟩
    ·exact x1 (L1.2 ⟨h,h2,h3,h4⟩)
    ·exact x2 (L2.2 ⟨h,h2,h3,h4⟩)
  ·have x2:Eh [45,100,100,58,100,100] s:=by have h:=b2;simp at h;exact h
   obtain⟨y1,y2,y3,y4⟩:=L2.1 x2
   exact tail 45 y1 (.inr rfl) y2 y3 y4
  ·have x1:Eh [43,100,100,58,100,100] s:=by have h:=b1;simp at h;exact h
   obtain⟨y1,y2,y3,y4⟩:=L1.1 x1
   exact tail 43 y1 (.inl rfl) y2 y3 y4
theorem LN {y:Nat} (h1:1<=y) (h2:y<=9999) {st:St} {K:Int->St->Prop} (hk:K (yrS y:Nat) st):CallT PR BC [.int .i64 (y:Nat)] [.one (.int .i64)] st K:=by
 refine Ev _ st K ⟨fun n i y' st'=>((y:Nat):Int)=y'/\st=st'/\∃j:Nat,i=j/\1<=j/\j<=y/\n=(yrS j:Nat),fun _ i _ _=>(y-i).toNat,⟨rfl,rfl,1,rfl,by omega,by omega,rfl⟩,?_⟩
 rintro _ _ _ _ ⟨rfl,rfl,j,rfl,hj1,hj2,rfl⟩
 have hy:yrS j<=4000000:=by unfold yrS;omega
 refine Aa (fun g=>LP hj1 (by omega) ?_) fun g=>?_
 ·have:=G1 j 12
  have:=G2 j 12
  rw[Ab _ (by omega) (by omega),Ab _ (by omega) (by omega)]
  exact⟨⟨rfl,rfl,j+1,by omega,by omega,by omega,by rw[NR hj1];omega⟩,by dsimp only;omega⟩
 ·have:j=y:=by omega
  subst this;exact hk
theorem rDay_ok {y m d:Nat} (hy:y<=100000) (hm:m<=1000) (hd:d<=1000) {st:St} {K:Int->Int->St->Prop} (hk:K (if okD y m d then(F3 y m d:Nat)else 0) (if okD y m d then 0 else 2) st):
  CallT PR Ca [.int .i64 (y:Nat),.int .i64 (m:Nat),.int .i64 (d:Nat)] [.one (.int .i64),.one (.int .i64)] st K:=by
 refine FZ _ _ _ st K (Aa (fun g=>?_) fun g=>Hv (by omega) (Aa (fun g2=>?_) fun g2=>?_))
 ·have hn:¬okD y m d:=fun h=>by have:=h.2.2.2.2.1;omega
  rw[if_neg hn,if_neg hn]at hk;exact hk
 ·have hn:¬okD y m d:=fun h=>by
   obtain⟨a1,a2,a3,a4,a5,a6⟩:=h
   rw[EH a1 a2 a3 a4]at g2
   omega
  rw[if_neg hn,if_neg hn]at hk;exact hk
 ·have hr:1<=y/\y<=9999/\1<=m/\m<=12:=by
   by_cases h:1<=y/\y<=9999/\1<=m/\m<=12
   ·exact h
   ·rw[show L0 y m=0 from if_neg h]at g2
    omega
  obtain⟨a1,a2,a3,a4⟩:=hr
  rw[EH a1 a2 a3 a4]at g2
  have ok:okD y m d:=⟨a1,a2,a3,a4,by omega,by omega⟩
  rw[if_pos ok,if_pos ok]at hk
  have hyr:yrS y<=4000000:=by unfold yrS;omega
  refine LN a1 a2 ⟨fun n i y' m' d' st'=>((y:Nat):Int)=y'/\((m:Nat):Int)=m'/\((d:Nat):Int)=d'/\st=st'/\∃j:Nat,i=j/\1<=j/\j<=m/\n=((yrS y+FA y j:Nat):Int),fun _ i _ _ _ _=>(m-i).toNat,⟨rfl,rfl,rfl,rfl,1,rfl,by omega,by omega,rfl⟩,?_⟩
  rintro _ _ _ _ _ _ ⟨rfl,rfl,rfl,rfl,j,rfl,hj1,hj2,rfl⟩
  have hms:=G1 y j
  refine Aa (fun g3=>Hv (by omega) ?_) fun g3=>?_
  ·have hmd:=G2 y j
   rw[EH a1 a2 hj1 (by omega),Ab _ (by omega) (by omega),Ab _ (by omega) (by omega)]
   exact⟨⟨rfl,rfl,rfl,rfl,j+1,by omega,by omega,by omega,by rw[FO y hj1];omega⟩,by dsimp only;omega⟩
  ·have:j=m:=by omega
   subst this
   rw[Ab (((yrS y+FA y j:Nat):Int)+((d:Nat):Int)) (by omega) (by omega),Ab _ (by omega) (by omega)]
   unfold F3 at hk
   rw[show((yrS y+FA y j:Nat):Int)+((d:Nat):Int)-1=((yrS y+FA y j+(d-1):Nat):Int) by omega]
   exact hk
theorem four_at {s:B8} (h1:dd s 0) (h2:dd s 2):(s.take 4).length<=18/\(∀c,c∈s.take 4->AH c)/\d2 s 0*100+d2 s 2=A3 (s.take 4):=by
 have f:F2 4 s:=(K5 _).2 ⟨h1,h2⟩
 refine⟨by rw[List.length_take];omega,fun c hc=>?_,(val4 f).symm⟩
 obtain⟨i,hi⟩:=List.getElem?_of_mem hc
 have hl:=(List.getElem?_eq_some_iff.1 hi).1
 rw[List.length_take]at hl
 rw[List.getElem?_take,if_pos (by omega)]at hi
 have:=f.2 i (by omega)
 rwa [List.getD,hi]at this
theorem rtP_ok {s:B8} (hl:s.length<=1000000) {st:St} {K:Int->Int->Int->Int->Int->St->Prop} (hk:KT K (tmP s) st):CallT PR Be [.str s] [.agg [.int .i64,.int .i64,.int .i64,.int .i64],.one (.int .i64)] st K:=by
 refine E3 s st K (GU (by omega) ?_)
 show BIf (!decide (Eh [100,100,100,100,45,100,100,45,100,100] s)) _ _
 rw[decide_eq_decide.2 (like_D s)]
 unfold KT tmP at hk
 by_cases fd:Ct s
 ·rw[if_pos fd]at hk
  rw[decide_eq_true fd]
  refine Ay (fun h=>by cases h) fun _=>?_
  have hlen:=Jb fd.2.2.2.2.2.2
  obtain⟨n1,n2,n3⟩:=four_at fd.1 fd.2.1
  obtain⟨m1,m2,m3⟩:=Gr (k:=5) (m:=7) rfl fd.2.2.2.1
  obtain⟨p1,p2,p3⟩:=Gr (k:=8) (m:=10) rfl fd.2.2.2.2.2
  have a0:=G9 fd.1
  have a1:=G9 fd.2.1
  have a2:=G9 fd.2.2.2.1
  have a3:=G9 fd.2.2.2.2.2
  refine⟨⟨by omega,by omega⟩,⟨by omega,by omega,by omega⟩,⟨by omega,by omega,by omega⟩,Cw n1 n2 n3 (Cw m1 m2 m3 (Cw p1 p2 p3 (rDay_ok (by omega) (by omega) (by omega) ⟨⟨by omega,by omega⟩,?_⟩)))⟩
  rw[show Int.toNat (10:Int)=10 from rfl,show Int.toNat (0:Int)=0 from rfl]
  generalize d2 s 0*100+d2 s 2=y at*
  generalize d2 s 5=mo at*
  generalize d2 s 8=d at*
  clear n1 n2 n3 m1 m2 m3 p1 p2 p3
  have ht:(s.drop 10).length<=1000000:=by rw[List.length_drop];omega
  generalize s.drop 10=t at*
  unfold tmD at hk
  generalize hn5:(if okD y mo d then((F3 y mo d:Nat):Int)else 0)=n5
  generalize hn6:(if okD y mo d then(0:Int)else 2)=n6
  have ok:okD y mo d->n5=(F3 y mo d:Nat)/\n6=0:=fun h=>by rw[if_pos h]at hn5 hn6;exact⟨hn5.symm,hn6.symm⟩
  have nok:¬okD y mo d->n6=2:=fun h=>by rw[if_neg h]at hn6;exact hn6.symm
  have way:t≠ []->(b0 t 0=84∨b0 t 0=116∨b0 t 0=32)->((0<=(1:Int)/\(1:Int)<=((t.length:Nat):Int))/\CallT PR Aw [.str (List.drop (Int.toNat (1:Int)) t)] [.one (.int .i64),.one .str,.one .bool,.one .bool] st fun n7 s2 b4 b5 st7=>BIf (!b4) (K 0 0 0 0 3 st7) (BIf (decide (s2≠([]:B8))) (CallT PR AC [.str s2] [.one (.int .i64),.one .bool,.one .bool] st7 fun n8 b6 b7 st8=>BIf (!b6) (K 0 0 0 0 3 st8) (BIf b5 (BIf (decide (n6≠0)) (K 0 0 0 0 2 st8) (BIf (!b7) (K 0 0 0 0 2 st8) (K 4 n5 n7 n8 0 st8))) (BIf (decide (n6≠0)) (K 0 0 0 0 2 st8) (K 0 0 0 0 2 st8)))) (BIf (decide (n6≠0)) (K 0 0 0 0 2 st7) (BIf (!b5) (K 0 0 0 0 2 st7) (K 3 n5 n7 0 0 st7))))):=fun hne fo=>by
   rw[if_neg hne,if_pos fo]at hk
   have hpos:=List.length_pos_iff.2 hne
   refine⟨⟨by omega,by omega⟩,N9 (by rw[List.length_drop];omega) ?_⟩
   show KCl _ (D4 (t.drop 1)) st
   have hcl:∀h m sc f r',D4 (t.drop 1)=some (h,m,sc,f,r')->r'.length<=1000000:=fun h m sc f r' he=>by
    unfold D4 at he
    split at he
    ·split at he
     ·split at he
      ·cases he
      ·simp only[Option.some.injEq,Prod.mk.injEq]at he
       rw[<-he.2.2.2.2];simp only[List.length_drop];omega
     ·simp only[Option.some.injEq,Prod.mk.injEq]at he
      rw[<-he.2.2.2.2];simp only[List.length_drop];omega
    ·cases he
   cases hc:D4 (t.drop 1)with
   | none=>
    rw[hc]at hk
    exact hk
   | some p=>
    obtain⟨h,m,sc,f,r'⟩:=p
    have hr':=hcl _ _ _ _ _ hc
    rw[hc]at hk
    dsimp only at hk
    unfold tmO at hk
    refine Aa (fun g=>rto_ok hr' ?_) fun g=>?_
    ·rw[if_neg g]at hk
     cases ho:H9 r' with
     | none=>
      rw[ho]at hk
      exact hk
     | some q=>
      obtain⟨ls,oh,om⟩:=q
      rw[ho]at hk
      dsimp only at hk
      refine Aa (fun gc=>Aa (fun g6=>?_) fun g6=>Ay (fun g7=>?_) fun g7=>?_) fun gc=>?_
      ·rw[if_neg fun k=>g6 (ok k.1).2]at hk;exact hk
      ·have:¬(oh<=23/\om<=59):=by have h:=g7;simp at h;omega
       rw[if_neg fun k=>this k.2.2]at hk;exact hk
      ·have hin:oh<=23/\om<=59:=by have h:=g7;simp at h;exact h
       have hD:okD y mo d:=Decidable.byContradiction fun h=>by have:=nok h;omega
       rw[if_pos ⟨hD,gc,hin⟩]at hk
       rw[(ok hD).1];exact hk
      ·rw[if_neg fun k=>gc k.2.1]at hk
       exact Aa (fun _=>hk) fun _=>hk
    ·have hr:r'=[]:=Decidable.not_not.1 g
     rw[if_pos hr]at hk
     subst hr
     refine Aa (fun g6=>?_) fun g6=>Ay (fun g7=>?_) fun g7=>?_
     ·rw[if_neg fun k=>g6 (ok k.1).2]at hk;exact hk
     ·have:¬okC h m sc:=by have h:=g7;simp at h;exact h
      rw[if_neg fun k=>this k.2]at hk;exact hk
     ·have hin:okC h m sc:=by have h:=g7;simp at h;exact h
      have hD:okD y mo d:=Decidable.byContradiction fun h=>by have:=nok h;omega
      rw[if_pos ⟨hD,hin⟩]at hk
      rw[(ok hD).1];exact hk
  refine Aa (fun g=>?_) fun g=>?_
  ·rw[if_pos g]at hk
   refine Aa (fun g6=>?_) fun g6=>?_
   ·have hn:¬okD y mo d:=fun h=>g6 (ok h).2
    rw[if_neg hn]at hk
    rw[nok hn];exact hk
   ·have hD:okD y mo d:=Decidable.byContradiction fun h=>by have:=nok h;omega
    rw[if_pos hD]at hk
    rw[(ok hD).1];exact hk
  ·have hpos:=List.length_pos_iff.2 g
   refine⟨⟨by omega,by omega⟩,Aa (fun g1=>⟨⟨by omega,by omega⟩,Aa (fun g2=>⟨⟨by omega,by omega⟩,Aa (fun g3=>?_) fun g3=>way g (.inr (.inr ((u8i (k:=32)).1 (Decidable.not_not.1 g3))))⟩) fun g2=>way g (.inr (.inl ((u8i (k:=116)).1 (Decidable.not_not.1 g2))))⟩) fun g1=>way g (.inl ((u8i (k:=84)).1 (Decidable.not_not.1 g1)))⟩
   rw[if_neg g,if_neg]at hk
   ·exact hk
   ·rintro(h | h | h)
    ·exact g1 ((u8i (k:=84)).2 h)
    ·exact g2 ((u8i (k:=116)).2 h)
    ·exact g3 ((u8i (k:=32)).2 h)
 ·rw[if_neg fd]at hk
  rw[decide_eq_false fd]
  refine Ay (fun _=>N9 hl ?_) fun h=>by cases h
  cases hc:D4 s with
  | none=>
   rw[hc]at hk
   exact hk
  | some p=>
   obtain⟨h,m,sc,f,r'⟩:=p
   rw[hc]at hk
   dsimp only at hk
   refine Aa (fun g=>?_) fun g=>Ay (fun g7=>?_) fun g7=>?_
   ·rw[if_neg g]at hk;exact hk
   ·have:¬okC h m sc:=by have h:=g7;simp at h;exact h
    rw[if_pos (Decidable.not_not.1 g),if_neg this]at hk;exact hk
   ·have hin:okC h m sc:=by have h:=g7;simp at h;exact h
    rw[if_pos (Decidable.not_not.1 g),if_pos hin]at hk;exact hk
end Go.TVF
section
namespace Go.Proofs
open Go.Shelf
def Tryz.lays137_ren:Go.Shelf.Ren:=⟨fun | 137=>138 | 217=>241 | 266=>300 | n=>n,fun | 9=>9 | 5=>5 | 3=>3 | n=>n,fun | n=>n⟩
theorem Tryz.lays137:Go.Proofs.Lays.n137 Tryz.prog Tryz.lays137_ren:={
 mixed:=by kernel_rfl
 f137:=Tryz.func138.trans (congrArg some (by kernel_rfl))
 f217:=Tryz.func241.trans (congrArg some (by kernel_rfl))
 f266:=Tryz.func300.trans (congrArg some (by kernel_rfl))
 t3:=Tryz.underlying3
 a3:=Tryz.isAgg3
 z3:=Tryz.sizeOf3
 v3:=Tryz.zeroValue3
 t5:=Tryz.underlying5
 a5:=Tryz.isAgg5
 z5:=Tryz.sizeOf5
 v5:=Tryz.zeroValue5
 t9:=Tryz.underlying9
 a9:=Tryz.isAgg9
 z9:=Tryz.sizeOf9
 v9:=Tryz.zeroValue9}
open Go.RowKit in
theorem Tryz.strings_IndexByte (s:ByteArray) (c:Int) (w:World):
  Calls Tryz.prog 138 #[.string s,.int .u8 c] w fun e w'=>e= .returned (.int .i64 (Lib.indexByte s.data.toList c.toNat.toUInt8))/\w'=w:=Any.strings_IndexByte Tryz.lays137 s c w
def Tryz.lays197_ren:Go.Shelf.Ren:=⟨fun | 197=>167 | 260=>260 | n=>n,fun | 9=>9 | 21=>21 | 3=>3 | 4=>4 | 5=>5 | 105=>213 | 119=>306 | 0=>0 | 46=>189 | 139=>309 | 138=>308 | n=>n,fun | 3=>0 | 4=>1 | n=>n⟩
theorem Tryz.lays197:Go.Proofs.Lays.n197 Tryz.prog Tryz.lays197_ren:={
 mixed:=by kernel_rfl
 f197:=Tryz.func167.trans (congrArg some (by kernel_rfl))
 f260:=Tryz.func260.trans (congrArg some (by kernel_rfl))
 t0:=Tryz.underlying0
 a0:=Tryz.isAgg0
 z0:=Tryz.sizeOf0
 v0:=Tryz.zeroValue0
 t3:=Tryz.underlying3
 a3:=Tryz.isAgg3
 z3:=Tryz.sizeOf3
 v3:=Tryz.zeroValue3
 t4:=Tryz.underlying4
 a4:=Tryz.isAgg4
 z4:=Tryz.sizeOf4
 v4:=Tryz.zeroValue4
 t5:=Tryz.underlying5
 a5:=Tryz.isAgg5
 z5:=Tryz.sizeOf5
 v5:=Tryz.zeroValue5
 t9:=Tryz.underlying9
 a9:=Tryz.isAgg9
 z9:=Tryz.sizeOf9
 v9:=Tryz.zeroValue9
 t21:=Tryz.underlying21
 a21:=Tryz.isAgg21
 z21:=Tryz.sizeOf21
 v21:=Tryz.zeroValue21
 t46:=Tryz.underlying189
 a46:=Tryz.isAgg189
 z46:=Tryz.sizeOf189
 v46:=Tryz.zeroValue189
 t105:=Tryz.underlying213
 a105:=Tryz.isAgg213
 z105:=Tryz.sizeOf213
 v105:=Tryz.zeroValue213
 t119:=Tryz.underlying306
 a119:=Tryz.isAgg306
 z119:=Tryz.sizeOf306
 t138:=Tryz.underlying308
 a138:=Tryz.isAgg308
 z138:=Tryz.sizeOf308
 v138:=Tryz.zeroValue308
 t139:=Tryz.underlying309
 a139:=Tryz.isAgg309
 z139:=Tryz.sizeOf309
 v139:=Tryz.zeroValue309
 g3:=by kernel_rfl
 g4:=by kernel_rfl}
open Go.RowKit Go.Lib in
theorem Tryz.utf8_DecodeRuneInString (s:ByteArray) (w:World) (hT:Lib.Utf8Tabs 0 1 w):
  Calls Tryz.prog 167 #[.string s] w fun e w'=>e= .returned (.tuple #[.int .i32 (Lib.decodeGo s).1,.int .i64 (Lib.decodeGo s).2])/\Below w.heap.size w w':=Any.utf8_DecodeRuneInString Tryz.lays197 s w hT
end Go.Proofs
end
section
namespace Go.TVF
open Go.IntKind(i64 u8)
open Go Go.Proofs
theorem Gm (p:TV) (r:Int) (st:St) (K:TV->St->Prop) (h:BId ((IntKind.u32.wrap r)<=(127:Int)) (B0 5 1 1 p 1 [(.int .u8 (u8.wrap r))] st (fun (v1:TV) b=>K v1 b)) (CallT PR BU [p,.int .i32 r] [.one .tv] st (fun (v2:TV) a=>K v2 a))):CallT PR Bv [p,.int .i32 r] [.one .tv] st K:=
 Ad (cfg:=⟨[],[],[]⟩) (h:= .none) mixed (fun _ _=>Tryz.call210 _ _) Tryz.func210 (by kernel_rfl) (by kernel_rfl) h
theorem Dt (p:TV) (r:Int) (st:St) (K:TV->St->Prop) (h:BId ((IntKind.u32.wrap r)<=(2047:Int)) (B0 5 1 1 p 2 [(.int .u8 (Ak .or .u8 (192:Int) (u8.wrap (Int.fdiv r (2^(min (Int.toNat (6:Int)) (IntKind.bits .i32))))))),(.int .u8 (Ak .or .u8 (128:Int) (Ak .and .u8 (u8.wrap r) (63:Int))))] st (fun (v1:TV) m=>K v1 m)) (BId ((IntKind.u32.wrap r)<(55296:Int)) (BId ((IntKind.u32.wrap r)<(55296:Int)) (B0 5 1 1 p 3 [(.int .u8 (Ak .or .u8 (224:Int) (u8.wrap (Int.fdiv r (2^(min (Int.toNat (12:Int)) (IntKind.bits .i32))))))),(.int .u8 (Ak .or .u8 (128:Int) (Ak .and .u8 (u8.wrap (Int.fdiv r (2^(min (Int.toNat (6:Int)) (IntKind.bits .i32))))) (63:Int)))),(.int .u8 (Ak .or .u8 (128:Int) (Ak .and .u8 (u8.wrap r) (63:Int))))] st (fun (v2:TV) e=>K v2 e)) (BId ((65535:Int)<(IntKind.u32.wrap r)) (BId ((IntKind.u32.wrap r)<=(1114111:Int)) (B0 5 1 1 p 4 [(.int .u8 (Ak .or .u8 (240:Int) (u8.wrap (Int.fdiv r (2^(min (Int.toNat (18:Int)) (IntKind.bits .i32))))))),(.int .u8 (Ak .or .u8 (128:Int) (Ak .and .u8 (u8.wrap (Int.fdiv r (2^(min (Int.toNat (12:Int)) (IntKind.bits .i32))))) (63:Int)))),(.int .u8 (Ak .or .u8 (128:Int) (Ak .and .u8 (u8.wrap (Int.fdiv r (2^(min (Int.toNat (6:Int)) (IntKind.bits .i32))))) (63:Int)))),(.int .u8 (Ak .or .u8 (128:Int) (Ak .and .u8 (u8.wrap r) (63:Int))))] st (fun (v3:TV) f=>K v3 f)) (B0 5 1 1 p 3 [.int .u8 239,.int .u8 191,.int .u8 189] st (fun (v4:TV) o=>K v4 o))) (B0 5 1 1 p 3 [.int .u8 239,.int .u8 191,.int .u8 189] st (fun (v5:TV) k=>K v5 k)))) (BId ((57343:Int)<(IntKind.u32.wrap r)) (BId ((IntKind.u32.wrap r)<=(65535:Int)) (B0 5 1 1 p 3 [(.int .u8 (Ak .or .u8 (224:Int) (u8.wrap (Int.fdiv r (2^(min (Int.toNat (12:Int)) (IntKind.bits .i32))))))),(.int .u8 (Ak .or .u8 (128:Int) (Ak .and .u8 (u8.wrap (Int.fdiv r (2^(min (Int.toNat (6:Int)) (IntKind.bits .i32))))) (63:Int)))),(.int .u8 (Ak .or .u8 (128:Int) (Ak .and .u8 (u8.wrap r) (63:Int))))] st (fun (v6:TV) n=>K v6 n)) (BId ((65535:Int)<(IntKind.u32.wrap r)) (BId ((IntKind.u32.wrap r)<=(1114111:Int)) (B0 5 1 1 p 4 [(.int .u8 (Ak .or .u8 (240:Int) (u8.wrap (Int.fdiv r (2^(min (Int.toNat (18:Int)) (IntKind.bits .i32))))))),(.int .u8 (Ak .or .u8 (128:Int) (Ak .and .u8 (u8.wrap (Int.fdiv r (2^(min (Int.toNat (12:Int)) (IntKind.bits .i32))))) (63:Int)))),(.int .u8 (Ak .or .u8 (128:Int) (Ak .and .u8 (u8.wrap (Int.fdiv r (2^(min (Int.toNat (6:Int)) (IntKind.bits .i32))))) (63:Int)))),(.int .u8 (Ak .or .u8 (128:Int) (Ak .and .u8 (u8.wrap r) (63:Int))))] st (fun (v7:TV) j=>K v7 j)) (B0 5 1 1 p 3 [.int .u8 239,.int .u8 191,.int .u8 189] st (fun (v8:TV) g=>K v8 g))) (B0 5 1 1 p 3 [.int .u8 239,.int .u8 191,.int .u8 189] st (fun (v9:TV) l=>K v9 l)))) (BId ((65535:Int)<(IntKind.u32.wrap r)) (BId ((IntKind.u32.wrap r)<=(1114111:Int)) (B0 5 1 1 p 4 [(.int .u8 (Ak .or .u8 (240:Int) (u8.wrap (Int.fdiv r (2^(min (Int.toNat (18:Int)) (IntKind.bits .i32))))))),(.int .u8 (Ak .or .u8 (128:Int) (Ak .and .u8 (u8.wrap (Int.fdiv r (2^(min (Int.toNat (12:Int)) (IntKind.bits .i32))))) (63:Int)))),(.int .u8 (Ak .or .u8 (128:Int) (Ak .and .u8 (u8.wrap (Int.fdiv r (2^(min (Int.toNat (6:Int)) (IntKind.bits .i32))))) (63:Int)))),(.int .u8 (Ak .or .u8 (128:Int) (Ak .and .u8 (u8.wrap r) (63:Int))))] st (fun (d:TV) a=>K d a)) (B0 5 1 1 p 3 [.int .u8 239,.int .u8 191,.int .u8 189] st (fun (q:TV) b=>K q b))) (B0 5 1 1 p 3 [.int .u8 239,.int .u8 191,.int .u8 189] st (fun (i:TV) c=>K i c)))))):CallT PR BU [p,.int .i32 r] [.one .tv] st K:=
 Ad (cfg:=⟨[],[],[]⟩) (h:= .none) mixed (fun _ _=>Tryz.call281 _ _) Tryz.func281 (by kernel_rfl) (by kernel_rfl) h
end Go.TVF
end
section
namespace Go.TVF
open Go.IntKind(i64 u8)
open Go Go.Proofs Go.RowKit
theorem Sim.grown {g:Af} {st:St} {loc:List (Option (List TV))} {w w':World} (s:Sim g st loc w) (h:Below w.heap.size w w'):Sim g st loc w'/\Ext g w g w':=
 s.world h.size (s.below.trans (h.mono s.fits)) h.block
def dG (l:B8):Nat×Nat:=if l=[]then(65533,0)else dN l
theorem dG_eq (l:B8):Lib.decodeGo ⟨l.toArray⟩=dG l:=by
 unfold Lib.decodeGo dG
 by_cases h:l=[]
 ·subst h;rfl
 ·rw[if_neg h,if_neg (by simpa [ByteArray.size]using h),Lib.decode_at]
  unfold dN bt
  have hg:∀i,(ByteArray.get! ⟨l.toArray⟩ i)=l.getD i 0:=fun i=>by
   simp[ByteArray.get!,List.getD]
   rfl
  simp only[hg,Nat.zero_add,Nat.sub_zero]
  rfl
theorem NG {l:B8} {st:St} {K:Int->Int->St->Prop} (hk:K ((dG l).1:Nat) ((dG l).2:Nat) st):CallT PR AP [.str l] [.one (.int .i32),.one (.int .i64)] st K:=by
 refine Cv (fun _ _=>by kernel_rfl) fun g w vargs s hr=>?_
 obtain⟨v,rfl,hv⟩:=Oc hr
 rw[Cr hv]
 refine Calls.mono (Tryz.utf8_DecodeRuneInString ⟨l.toArray⟩ w (s.glob w s.below)) ?_
 rintro e w' ⟨rfl,hb⟩
 obtain⟨s',e'⟩:=s.grown hb
 rw[dG_eq]
 exact⟨_,rfl,.tuple [.int .i32 ((dG l).1:Nat),.int .i64 ((dG l).2:Nat)],st,g,hk,s',Rel.tuple _ [_,_] rfl (AA.cons (Rel.int _ _) (AA.cons (Rel.int _ _) (AA.nil _ _))).2,e'⟩
theorem EJ {l:B8} {c:Int} {st:St} {K:Int->St->Prop} (hk:K (Lib.indexByte l c.toNat.toUInt8) st):CallT PR AL [.str l,.int .u8 c] [.one (.int .i64)] st K:=by
 refine Cv (fun _ _=>by kernel_rfl) fun g w vargs s hr=>?_
 obtain⟨v,u,rfl,hv,hu⟩:=IB hr
 rw[Cr hv,KY hu]
 refine Calls.mono (Tryz.strings_IndexByte ⟨l.toArray⟩ c w) ?_
 rintro e w' ⟨rfl,rfl⟩
 exact⟨_,rfl,.int .i64 _,st,g,hk,s,Rel.int _ _,Ext.refl _ _⟩
end Go.TVF
end
namespace Go.TVF
open Go.IntKind(i64 u8)
open Go Go.Proofs
def HX (c:Int):Bool:=decide (97<=c/\c<=122∨65<=c/\c<=90∨48<=c/\c<=57∨c=95∨c=45)
def CG (c:Int):Bool:=decide (97<=c/\c<=122∨65<=c/\c<=90∨48<=c/\c<=57∨c=95∨c=45∨c=43∨c=46∨c=58)
def Ho (c:Int):Bool:=decide (c=32∨c=9)
def Cls (st:St) (v:TV) (p:Int->Bool):Prop:=
 ∀st',Ax st st'->∀(c:Int) (K:Bool->St->Prop),K (p c) st'->Ja PR v [.int .u8 c] [.one (.bool)] st' K
theorem Lp {c:Int} {st:St} {K:Bool->St->Prop} (hk:K (HX c) st):CallT PR AB [.int .u8 c] [.one (.bool)] st K:=by
 refine EX c st K ?_
 unfold HX at hk
 repeat' (refine Aa (fun _=>?_) fun _=>?_)
 all_goals first | exact DM (decide_eq_true (by omega)).symm hk | exact DM (decide_eq_false (by omega)).symm hk | exact DM (decide_eq_decide.2 (by omega)) hk
theorem cls1 (st:St):Cls st (.func AB []) HX:=fun st' _ c K hk=>Lp hk
theorem cls2 {st:St} {b:Nat} (hb:st.box b= .cells [.func AB []]) (hlt:b<st.nb):Cls st (.func BI [.box b 0]) CG:=by
 intro st' e c K hk
 refine EW c _ st' K (Ac (x:= .func AB []) (by simp[Ag,e.box b hlt,hb]) ?_)
 refine cls1 st' st' (Ax.refl _) c _ ?_
 unfold HX
 unfold CG at hk
 refine Aa (fun _=>?_) fun _=>?_
 ·exact DM (decide_eq_true (by omega)).symm hk
 ·repeat' (refine Aa (fun _=>?_) fun _=>?_)
  all_goals first | exact DM (decide_eq_true (by omega)).symm hk | exact DM (decide_eq_false (by omega)).symm hk | exact DM (decide_eq_decide.2 (by omega)) hk
theorem Lo (st:St):Cls st (.func BO []) Ho:=fun st' _ c K hk=>by
 refine GH c st' K ?_
 unfold Ho at hk
 refine Aa (fun _=>?_) fun _=>?_
 ·exact DM (decide_eq_true (by omega)).symm hk
 ·exact DM (decide_eq_decide.2 (by omega)) hk
theorem MH {st:St} {b:Nat} {l xs:List TV} {k:St->Prop} (hb:st.box b= .cells l) (hl:0+xs.length<=l.length) (hk:k (st.put b (.cells (setAll l 0 xs)))):stB st (.box b 0) xs k:=⟨l,hb,hl,hk⟩
theorem GA {st:St} {K:TV->TV->St->Prop} (hk:∀v u st',Ax st st'->Cls st' v HX->Cls st' u CG->K v u st'):CallT PR A4 [] [.one (.tv),.one (.tv)] st K:=by
 refine FV st K (MH (OY _ _ _) (by simp) ?_)
 refine Ac (x:= .func AB []) (by simp[Ag,Ih,setAll]) (Ae rfl ?_)
 refine MH (Ih _ _ _) (by simp[setAll]) ?_
 refine Ac (x:= .func AB []) (by simp[Ag,Ih,setAll]) ?_
 refine hk _ _ _ (((Ax.refl st).push _ _).put (Nat.le_refl _) _ |>.put (Nat.le_refl _) _) (cls1 _) (cls2 (by simp[Ih,setAll]) (by simp[St.put,St.push]))
def twl (p:Int->Bool):B8->Nat
 | []=>0
 | c::r=>if p (c.toNat:Int)then twl p r+1 else 0
theorem Ip (p:Int->Bool):∀l,twl p l<=l.length
 | []=>by simp[twl]
 | c::r=>by
  have:=Ip p r
  simp only[twl,List.length_cons]
  split<;>omega
theorem GM (p:Int->Bool) (s:B8) (i:Nat) (h:i<s.length):twl p (s.drop i)=if p (((s.getD i 0).toNat:Nat):Int)then twl p (s.drop (i+1))+1 else 0:=by
 rw[Ek s i 0 h];rfl
theorem twl_end (p:Int->Bool) (s:B8) (i:Nat) (h:s.length<=i):twl p (s.drop i)=0:=by
 rw[List.drop_of_length_le h];rfl
theorem GN {s:B8} {I:Int} {i:Nat} {v:TV} {p:Int->Bool} {st:St} {K:Int->St->Prop} (hI:I=(i:Int)) (hl:s.length<=2000000) (hi:i<=s.length) (hc:Cls st v p) (hk:K ((i+twl p (s.drop i):Nat):Int) st):
  CallT PR A2 [.str s,.int .i64 I,v] [.one (.int .i64)] st K:=by
 refine HZ s I v st K ⟨fun j s' v' st'=>s=s'/\v=v'/\st=st'/\∃k:Nat,j=(k:Int)/\k<=s.length/\k+twl p (s.drop k)=i+twl p (s.drop i),fun j _ _ _=>(s.length-j).toNat,⟨rfl,rfl,rfl,i,hI,hi,rfl⟩,?_⟩
 rintro _ _ _ _ ⟨rfl,rfl,rfl,k,rfl,h1,h2⟩
 refine Aa (fun h3=>⟨⟨by omega,h3⟩,hc st (Ax.refl _) _ _ (Ay (fun h4=>?_) fun h4=>?_)⟩) fun h3=>?_
 ·have hd:=GM p s k (by omega)
  rw[show Int.toNat (k:Int)=k from rfl]at h4
  rw[if_pos h4]at hd
  rw[Ab _ (by omega) (by omega)]
  exact⟨⟨rfl,rfl,rfl,k+1,by omega,by omega,by omega⟩,by dsimp only;omega⟩
 ·have hd:=GM p s k (by omega)
  rw[show Int.toNat (k:Int)=k from rfl]at h4
  rw[if_neg (by rw[h4];simp)]at hd
  have:k=i+twl p (s.drop i):=by omega
  rw[<-this]at hk;exact hk
 ·rw[twl_end p s k (by omega)]at h2
  have:k=i+twl p (s.drop i):=by omega
  rw[<-this]at hk;exact hk
def D2 (c:Int):Bool:=decide (48<=c/\c<=57)
theorem Ll {c:Int} {st:St} {K:Bool->St->Prop} (hk:K (D2 c) st):CallT PR Bd [.int .u8 c] [.one (.bool)] st K:=by
 refine E0 c st K ?_
 unfold D2 at hk
 repeat' (refine Aa (fun _=>?_) fun _=>?_)
 all_goals first | exact DM (decide_eq_true (by omega)).symm hk | exact DM (decide_eq_false (by omega)).symm hk | exact DM (decide_eq_decide.2 (by omega)) hk
def CF:List (Option UInt8)->B8->Bool
 | [],_=>true
 | _::_,[]=>false
 | none::ps,c::cs=>D2 (c.toNat:Int)&&CF ps cs
 | some a::ps,c::cs=>decide (c=a)&&CF ps cs
def Df (d:UInt8) (p:B8):List (Option UInt8):=p.map fun c=>if c=d then none else some c
theorem Dy:∀(ps:List (Option UInt8)) (l:B8),l.length<ps.length->CF ps l=false
 | [],l,h=>by simp at h
 | _::_,[],_=>by cases ‹Option UInt8›<;>rfl
 | none::ps,c::cs,h=>by simp only[CF];rw[Dy ps cs (by simpa using h)];simp
 | some a::ps,c::cs,h=>by simp only[CF];rw[Dy ps cs (by simpa using h)];simp
theorem Nv (d:UInt8) (p s:B8) (k:Nat) (hp:k<p.length) (hs:k<s.length):CF (Df d (p.drop k)) (s.drop k)=
  ((if p.getD k 0=d then D2 ((s.getD k 0).toNat:Int)else decide (s.getD k 0=p.getD k 0))&&CF (Df d (p.drop (k+1))) (s.drop (k+1))):=by
 rw[Ek p k 0 hp,Ek s k 0 hs]
 simp only[Df,List.map_cons]
 by_cases h:p.getD k 0=d
 ·rw[if_pos h,if_pos h];rfl
 ·rw[if_neg h,if_neg h];rfl
theorem Oi (d:UInt8) (p s:B8) (k:Nat) (hp:p.length<=k):CF (Df d (p.drop k)) s=true:=by
 rw[List.drop_of_length_le hp];rfl
theorem Fz:∀(a b:List (Option UInt8)) (l:B8),CF (a++b) l=(CF a l&&CF b (l.drop a.length))
 | [],b,l=>by simp[CF]
 | _::_,b,[]=>by cases ‹Option UInt8›<;>simp[CF]
 | none::a,b,c::l=>by simp only[List.cons_append,CF,Fz a b l,List.length_cons,List.drop_succ_cons,Bool.and_assoc]
 | some x::a,b,c::l=>by simp only[List.cons_append,CF,Fz a b l,List.length_cons,List.drop_succ_cons,Bool.and_assoc]
theorem IE {s p:B8} {st:St} {K:Bool->St->Prop} (hp:p.length<=1000) (hk:K (CF (Df 48 p) s) st):CallT PR Bp [.str s,.str p] [.one (.bool)] st K:=by
 refine FT s p st K (Aa (fun h=>?_) fun h0=>⟨fun j s' p' st'=>s=s'/\p=p'/\st=st'/\∃k:Nat,j=(k:Int)/\k<=p.length/\CF (Df 48 (p.drop k)) (s.drop k)=CF (Df 48 p) s,fun j _ _ _=>(p.length-j).toNat,⟨rfl,rfl,rfl,0,rfl,by omega,rfl⟩,?_⟩)
 ·rw[Dy _ _ (by simp[Df];omega)]at hk;exact hk
 rintro _ _ _ _ ⟨rfl,rfl,rfl,k,rfl,h1,h2⟩
 have go:(I:Prop)->True:=fun _=>trivial
 refine Aa (fun h3=>?_) fun h3=>?_
 ·have hd:=Nv 48 p s k (by omega) (by omega)
  have e48:∀x:UInt8,((x.toNat:Int)=48)↔x=48:=fun x=>Nc x 48
  rw[h2]at hd
  rw[show Int.toNat (k:Int)=k from rfl]
  refine⟨⟨by omega,by omega⟩,Aa (fun h4=>?_) fun h4=>?_⟩
  ·rw[if_pos ((e48 _).1 h4)]at hd
   refine⟨⟨by omega,by omega⟩,Aa (fun h5=>?_) fun h5=>⟨⟨by omega,by omega⟩,Aa (fun h6=>?_) fun h6=>⟨⟨by omega,by omega⟩,Aa (fun h7=>absurd h4 h7) fun _=>?_⟩⟩⟩
   ·have:D2 ((s.getD k 0).toNat:Int)=false:=decide_eq_false (by omega)
    rw[this]at hd;rw[hd]at hk;exact hk
   ·have:D2 ((s.getD k 0).toNat:Int)=false:=decide_eq_false (by omega)
    rw[this]at hd;rw[hd]at hk;exact hk
   ·have:D2 ((s.getD k 0).toNat:Int)=true:=decide_eq_true (by omega)
    rw[this,Bool.true_and]at hd
    rw[Ab _ (by omega) (by omega)]
    exact⟨⟨rfl,rfl,rfl,k+1,by omega,by omega,hd.symm⟩,by dsimp only;omega⟩
  ·rw[if_neg (fun h=>h4 ((e48 _).2 h))]at hd
   refine⟨⟨by omega,by omega⟩,Aa (fun _=>⟨⟨by omega,by omega⟩,⟨⟨by omega,by omega⟩,Aa (fun h5=>?_) fun h5=>?_⟩⟩) fun h7=>absurd h4 h7⟩
   ·have:decide (s.getD k 0=p.getD k 0)=false:=decide_eq_false (fun h=>h5 (by rw[h]))
    rw[this]at hd;rw[hd]at hk;exact hk
   ·have:decide (s.getD k 0=p.getD k 0)=true:=decide_eq_true ((Nc _ _).1 (Decidable.not_not.1 h5))
    rw[this,Bool.true_and]at hd
    rw[Ab _ (by omega) (by omega)]
    exact⟨⟨rfl,rfl,rfl,k+1,by omega,by omega,hd.symm⟩,by dsimp only;omega⟩
 ·rw[Oi 48 p _ k (by omega)]at h2
  rw[<-h2]at hk;exact hk
theorem wrapU32 (x:Int) (h1:0<=x) (h2:x<=4294967295):IntKind.wrap .u32 x=x:=by
 unfold IntKind.wrap
 simp only[IntKind.signed,IntKind.bits]
 simp
 omega
theorem Ly (x:Int) (h1: -2147483648<=x) (h2:x<=2147483647):IntKind.wrap .i32 x=x:=by
 unfold IntKind.wrap
 simp only[IntKind.signed,IntKind.bits]
 simp
 omega
theorem ME (n:Nat):IntKind.wrap .u8 (n:Int)=((n%256:Nat):Int):=by rw[CY];simp
theorem or8N (a b m:Nat) (hb:b<2^m) (h:a*2^m+b<2^8) (x y:Int) (hx:x=((a*2^m:Nat):Int)) (hy:y=(b:Int)):Ak .or .u8 x y=((a*2^m+b:Nat):Int):=by
 have hb':b<2^8:=by omega
 rw[hx,hy,or_u8 _ _ (by omega) hb',Nat.mul_comm a,Nat.two_pow_add_eq_or_of_lt hb]
theorem low6 (x:Nat):Ak .and .u8 (u8.wrap (x:Int)) (63:Int)=((x%64:Nat):Int):=by
 rw[ME,show(63:Int)=((63:Nat):Int)from rfl,and_u8 _ _ (by omega) (by omega),show(63:Nat)=2^6-1 from rfl,Nat.and_two_pow_sub_one_eq_mod]
 congr 1;omega
theorem Nb (x:Nat):Ak .or .u8 (128:Int) (Ak .and .u8 (u8.wrap (x:Int)) (63:Int))=(((UInt8.ofNat (128+x%64)).toNat:Nat):Int):=by
 rw[low6,or8N 2 (x%64) 6 (by omega) (by omega) (128:Int) _ rfl rfl]
 simp
 omega
theorem Oz (a b m:Nat) (hb:b<2^m) (h:a*2^m+b<2^8) (x:Int) (hx:x=((a*2^m:Nat):Int)):Ak .or .u8 x (u8.wrap (b:Int))=(((UInt8.ofNat (a*2^m+b)).toNat:Nat):Int):=by
 have hb':b<256:=by omega
 rw[ME,Nat.mod_eq_of_lt hb',or8N a b m hb h _ _ hx rfl,UInt8.toNat_ofNat',Nat.mod_eq_of_lt (show a*2^m+b<2^8 from h)]
theorem G8 (r:Nat):1<=(CC r).length/\(CC r).length<=4:=by
 unfold CC
 repeat' split
 all_goals simp
theorem Jr {R:Int} {r:Nat} {st0 st:St} {v:TV} {l:B8} {K:TV->St->Prop} (hR:R=(r:Int)) (hc:Az r) (e:Ax st0 st) (h:HJ st0.nt st v l) (hby:l.length<=140737488355320)
  (hk:∀v' st',Ax st0 st'->HJ st0.nt st' v' (l++CC r)->K v' st'):CallT PR Bv [v,.int .i32 R] [.one (.tv)] st K:=by
 have hr2:r<=1114111:=hc.1
 have hu:IntKind.u32.wrap R=R:=wrapU32 _ (by omega) (by omega)
 have hel:=G8 r
 have shr:∀m,m<=32->Int.fdiv R (2^(min m (IntKind.bits .i32)))=((r/2^m:Nat):Int):=fun m hm=>by
  rw[hR,show min m (IntKind.bits .i32)=m from Nat.min_eq_left hm,show(2:Int)^m=((2^m:Nat):Int) by simp,Int.fdiv_eq_ediv_of_nonneg _ (Int.natCast_nonneg _)]
  rfl
 have s6:=shr 6 (by decide)
 have s12:=shr 12 (by decide)
 have s18:=shr 18 (by decide)
 have cR:Ak .or .u8 (128:Int) (Ak .and .u8 (u8.wrap R) (63:Int))=(((UInt8.ofNat (128+r%64)).toNat:Nat):Int):=by rw[hR];exact Nb r
 have i6:Int.toNat (6:Int)=6:=rfl
 have i12:Int.toNat (12:Int)=12:=rfl
 have i18:Int.toNat (18:Int)=18:=rfl
 refine Gm v R st K ?_
 rw[hu]
 refine Aa (fun h1=>?_) fun h1=>?_
 ·have hE:CC r=[UInt8.ofNat r]:=by unfold CC;rw[if_pos (by omega)]
  rw[hE]at hk hel
  exact FR e h rfl (by simp only[AE,List.map,FH];rw[hR,CY]) (by simp;omega) fun v' st' e' _ ho=>hk v' st' e' ho
 ·refine Dt v R st _ ?_
  rw[hu]
  refine Aa (fun h2=>?_) fun h2=>?_
  ·have hE:CC r=[UInt8.ofNat (192+r/64),UInt8.ofNat (128+r%64)]:=by unfold CC;rw[if_neg (by omega),if_pos (by omega)]
   rw[hE]at hk
   refine FR e h rfl ?_ (by simp;omega) fun v' st' e' _ ho=>hk v' st' e' ho
   simp only[AE,List.map,FH]
   rw[cR,i6,s6,Oz 6 (r/2^6) 5 (by omega) (by omega) (192:Int) rfl]
  ·have t3:r<65536->B0 5 1 1 v 3 [(.int .u8 (Ak .or .u8 (224:Int) (u8.wrap (Int.fdiv R (2^(min (Int.toNat (12:Int)) (IntKind.bits .i32))))))),(.int .u8 (Ak .or .u8 (128:Int) (Ak .and .u8 (u8.wrap (Int.fdiv R (2^(min (Int.toNat (6:Int)) (IntKind.bits .i32))))) (63:Int)))),(.int .u8 (Ak .or .u8 (128:Int) (Ak .and .u8 (u8.wrap R) (63:Int))))] st K:=by
    intro h3
    have hE:CC r=[UInt8.ofNat (224+r/4096),UInt8.ofNat (128+r/64%64),UInt8.ofNat (128+r%64)]:=by unfold CC;rw[if_neg (by omega),if_neg (by omega),if_pos (by omega)]
    rw[hE]at hk
    refine FR e h rfl ?_ (by simp;omega) fun v' st' e' _ ho=>hk v' st' e' ho
    simp only[AE,List.map,FH]
    rw[cR,i6,i12,s6,s12,Oz 14 (r/2^12) 4 (by omega) (by omega) (224:Int) rfl,Nb]
   have t4:¬r<65536->B0 5 1 1 v 4 [(.int .u8 (Ak .or .u8 (240:Int) (u8.wrap (Int.fdiv R (2^(min (Int.toNat (18:Int)) (IntKind.bits .i32))))))),(.int .u8 (Ak .or .u8 (128:Int) (Ak .and .u8 (u8.wrap (Int.fdiv R (2^(min (Int.toNat (12:Int)) (IntKind.bits .i32))))) (63:Int)))),(.int .u8 (Ak .or .u8 (128:Int) (Ak .and .u8 (u8.wrap (Int.fdiv R (2^(min (Int.toNat (6:Int)) (IntKind.bits .i32))))) (63:Int)))),(.int .u8 (Ak .or .u8 (128:Int) (Ak .and .u8 (u8.wrap R) (63:Int))))] st K:=by
    intro h3
    have hE:CC r=[UInt8.ofNat (240+r/262144),UInt8.ofNat (128+r/4096%64),UInt8.ofNat (128+r/64%64),UInt8.ofNat (128+r%64)]:=by unfold CC;rw[if_neg (by omega),if_neg (by omega),if_neg (by omega)]
    rw[hE]at hk
    refine FR e h rfl ?_ (by simp;omega) fun v' st' e' _ ho=>hk v' st' e' ho
    simp only[AE,List.map,FH]
    rw[cR,i6,i12,i18,s6,s12,s18,Oz 30 (r/2^18) 3 (by omega) (by omega) (240:Int) rfl,Nb,Nb]
   unfold Az at hc
   refine Aa (fun h3=>Aa (fun _=>t3 (by omega)) fun h4=>absurd h3 h4) fun h3=>Aa (fun h4=>Aa (fun h5=>t3 (by omega)) fun h5=>Aa (fun h6=>Aa (fun _=>t4 (by omega)) fun h7=>by omega) fun h6=>by omega) fun h4=>by omega
def IN (c:Nat):Option Nat:=if 48<=c/\c<=57 then some (c-48)else if 97<=c/\c<=102 then some (c-87)else if 65<=c/\c<=70 then some (c-55)else none
theorem Kd {c d:Nat} (h:IN c=some d):d<16:=by
 unfold IN at h
 repeat' split at h
 all_goals first | (cases h;done) | (simp only[Option.some.injEq]at h;omega)
def Ci:Nat->B8->Nat->Except Int Nat
 | 0,_,acc=> .ok acc
 | k+1,[],acc=> .error 4
 | k+1,c::cs,acc=>match IN c.toNat with
  | none=> .error 3
  | some d=>Ci k cs (acc*16+d)
def eN:Except Int Nat->Int | .ok n=>n | .error _=>0
def eE {α:Type}:Except Int α->Int | .ok _=>0 | .error e=>e
def L9 (n:Nat):Int:=match IN n with | none=> -1 | some d=>if 97<=n∨n<=57 then(d:Int)else d+6
theorem OH:∀n,n<256->Lib.indexByte N0 (UInt8.ofNat n)=L9 n:=by decide+kernel
theorem idx_hex (c:UInt8):Lib.indexByte N0 c=L9 c.toNat:=by
 have:=OH c.toNat c.toNat_lt
 rwa [UInt8.ofNat_toNat]at this
theorem L8 (n:Nat):(IN n=none/\L9 n= -1)∨∃d,IN n=some d/\d<16/\(L9 n=d∨(L9 n=d+6/\10<=d)):=by
 unfold L9
 cases hd:IN n with
 | none=>exact .inl ⟨rfl,rfl⟩
 | some d=>
  right
  refine⟨d,rfl,Kd hd,?_⟩
  simp only
  by_cases hc:97<=n∨n<=57
  ·rw[if_pos hc];exact .inl rfl
  ·rw[if_neg hc]
   right
   refine⟨rfl,?_⟩
   unfold IN at hd
   rw[if_neg (by omega),if_neg (by omega)]at hd
   split at hd
   ·simp only[Option.some.injEq]at hd;omega
   ·cases hd
theorem hex_ok {s:B8} {I:Int} {i:Nat} {st:St} {K:Int->Int->St->Prop} (hI:I=(i:Int)) (hl:s.length<=2000000) (hi:i<=s.length) (hk:K (eN (Ci 4 (s.drop i) 0)) (eE (Ci 4 (s.drop i) 0)) st):
  CallT PR Bl [.str s,.int .i64 I] [.one (.int .i64),.one (.int .i64)] st K:=by
 refine H1 s I st K ⟨fun n k s' i' st'=>s=s'/\I=i'/\st=st'/\∃j a:Nat,k=((i+j:Nat):Int)/\n=(a:Int)/\j<=4/\i+j<=s.length/\a<16^j/\Ci (4-j) (s.drop (i+j)) a=Ci 4 (s.drop i) 0,fun _ k _ i' _=>(i'+4-k).toNat,⟨rfl,rfl,rfl,0,0,by omega,rfl,by omega,by omega,by omega,rfl⟩,?_⟩
 rintro _ _ _ _ _ ⟨rfl,rfl,rfl,j,a,rfl,rfl,h1,h2,h3,h4⟩
 rw[Ab (I+4) (by omega) (by omega)]
 have h16:16^j<=16^4:=Nat.pow_le_pow_right (by decide) h1
 refine Aa (fun g1=>Aa (fun g2=>?_) fun g2=>⟨⟨by omega,by omega⟩,EJ ?_⟩) fun g1=>?_
 ·have:s.drop (i+j)=[]:=List.drop_of_length_le (by omega)
  rw[this,show 4-j=(3-j)+1 by omega]at h4
  rw[<-h4]at hk;exact hk
 ·rw[Ek s (i+j) 0 (by omega),show 4-j=(3-j)+1 by omega]at h4
  simp only[Ci]at h4
  rw[show Int.toNat ((i+j:Nat):Int)=i+j from rfl,Int.toNat_natCast,show((s.getD (i+j) 0).toNat).toUInt8=s.getD (i+j) 0 by simp,idx_hex]
  have hix:=L8 (s.getD (i+j) 0).toNat
  generalize L9 (s.getD (i+j) 0).toNat=X at*
  have mes:(I+4-(i64.wrap (((i+j:Nat):Int)+(1:Int)))).toNat<(I+4-((i+j:Nat):Int)).toNat:=by
   rw[Ab _ (by omega) (by omega)];omega
  rcases hix with⟨hd,hX⟩ | ⟨d,hd,hd16,hX⟩
  ·rw[hd]at h4
   simp only at h4
   refine Aa (fun _=>?_) fun g3=>by omega
   rw[<-h4]at hk;exact hk
  ·rw[hd]at h4
   simp only at h4
   have hstep:∀x:Int,x=(d:Int)->(i64.wrap ((i64.wrap ((a:Int)*(16:Int)))+x))=((a*16+d:Nat):Int):=fun x hx=>by
    rw[hx,Ab ((a:Int)*16) (by omega) (by omega),Ab _ (by omega) (by omega)];omega
   have fin:∀x:Int,x=(d:Int)->(s=s/\I=I/\st=st/\∃j' a':Nat,(i64.wrap (((i+j:Nat):Int)+(1:Int)))=((i+j':Nat):Int)/\(i64.wrap ((i64.wrap ((a:Int)*(16:Int)))+x))=(a':Int)/\j'<=4/\i+j'<=s.length/\a'<16^j'/\Ci (4-j') (s.drop (i+j')) a'=Ci 4 (s.drop i) 0):=fun x hx=>by
    refine⟨rfl,rfl,rfl,j+1,a*16+d,by rw[Ab _ (by omega) (by omega)];omega,hstep x hx,by omega,by omega,by rw[Nat.pow_succ];omega,?_⟩
    rw[show 4-(j+1)=3-j by omega,<-Nat.add_assoc];exact h4
   refine Aa (fun g3=>by omega) fun _=>Aa (fun g4=>⟨fin _ (by rw[Ab _ (by omega) (by omega)];omega),mes⟩) fun g4=>⟨fin _ (by omega),mes⟩
 ·have:j=4:=by omega
  subst this
  rw[<-h4]at hk;exact hk
def NA (c:Nat):Int:=match IN c with | none=> -1 | some d=>d
theorem KC {C:Int} {c:UInt8} {st:St} {K:Int->St->Prop} (hC:C=(c.toNat:Int)) (hk:K (NA c.toNat) st):CallT PR Bq [.int .u8 C] [.one (.int .i64)] st K:=by
 have hlt:=c.toNat_lt
 refine FY C st K (Ll ?_)
 unfold NA IN at hk
 unfold D2
 have w:∀x:Int,0<=x->x<=255->i64.wrap (u8.wrap x)=x:=fun x h1 h2=>by rw[Gl x h1 h2,Ab x (by omega) (by omega)]
 have z:∀(a b:Int),a=b->K b st->K a st:=fun a b h hk=>h▸hk
 refine Aa (fun h1=>?_) fun h1=>Aa (fun h2=>Aa (fun h3=>?_) fun h3=>Aa (fun h4=>Aa (fun h5=>by omega) fun h5=>?_) fun h4=>?_) fun h2=>Aa (fun h4=>Aa (fun h5=>?_) fun h5=>?_) fun h4=>?_
 ·rw[if_pos (by omega)]at hk
  exact z _ _ (by rw[w _ (by omega) (by omega)];simp only;omega) hk
 ·rw[if_neg (by omega),if_pos (by omega)]at hk
  exact z _ _ (by rw[w _ (by omega) (by omega),Ab _ (by omega) (by omega)];simp only;omega) hk
 ·rw[if_neg (by omega),if_neg (by omega),if_neg (by omega)]at hk;exact hk
 ·omega
 ·rw[if_neg (by omega),if_neg (by omega),if_pos (by omega)]at hk
  exact z _ _ (by rw[w _ (by omega) (by omega),Ab _ (by omega) (by omega)];simp only;omega) hk
 ·rw[if_neg (by omega),if_neg (by omega),if_neg (by omega)]at hk;exact hk
 ·rw[if_neg (by omega),if_neg (by omega),if_neg (by omega)]at hk;exact hk
theorem four_ok {s:B8} {I:Int} {i:Nat} {st:St} {K:Int->Int->St->Prop} (hI:I=(i:Int)) (hl:s.length<=2000000) (hi:i<=s.length) (hk:K (eN (Ci 4 (s.drop i) 0)) (eE (Ci 4 (s.drop i) 0)) st):
  CallT PR AY [.str s,.int .i64 I] [.one (.int .i64),.one (.int .i64)] st K:=by
 refine Fj s I st K ⟨fun n k s' i' st'=>s=s'/\I=i'/\st=st'/\∃j a:Nat,k=((i+j:Nat):Int)/\n=(a:Int)/\j<=4/\i+j<=s.length/\a<16^j/\Ci (4-j) (s.drop (i+j)) a=Ci 4 (s.drop i) 0,fun _ k _ i' _=>(i'+4-k).toNat,⟨rfl,rfl,rfl,0,0,by omega,rfl,by omega,by omega,by omega,rfl⟩,?_⟩
 rintro _ _ _ _ _ ⟨rfl,rfl,rfl,j,a,rfl,rfl,h1,h2,h3,h4⟩
 rw[Ab (I+4) (by omega) (by omega)]
 have h16:16^j<=16^4:=Nat.pow_le_pow_right (by decide) h1
 refine Aa (fun g1=>Aa (fun g2=>?_) fun g2=>⟨⟨by omega,by omega⟩,KC rfl ?_⟩) fun g1=>?_
 ·have:s.drop (i+j)=[]:=List.drop_of_length_le (by omega)
  rw[this,show 4-j=(3-j)+1 by omega]at h4
  rw[<-h4]at hk;exact hk
 ·rw[Ek s (i+j) 0 (by omega),show 4-j=(3-j)+1 by omega]at h4
  simp only[Ci]at h4
  rw[show Int.toNat ((i+j:Nat):Int)=i+j from rfl]
  generalize hc:s.getD (i+j) 0=c at*
  cases hd:IN c.toNat with
  | none=>
   have hI0:NA c.toNat= -1:=by unfold NA;rw[hd]
   rw[hd]at h4
   simp only at h4
   rw[hI0]
   refine Aa (fun _=>?_) fun g3=>by omega
   rw[<-h4]at hk;exact hk
  | some d=>
   have hI0:NA c.toNat=(d:Int):=by unfold NA;rw[hd]
   rw[hd]at h4
   simp only at h4
   have hd16:=Kd hd
   rw[hI0]
   refine Aa (fun g3=>by omega) fun _=>⟨⟨by omega,by omega⟩,KC rfl ?_⟩
   rw[hI0]
   have hstep:(i64.wrap ((i64.wrap ((a:Int)*(16:Int)))+(d:Int)))=((a*16+d:Nat):Int):=by
    rw[Ab ((a:Int)*16) (by omega) (by omega),Ab _ (by omega) (by omega)];omega
   rw[hstep,Ab (((i+j:Nat):Int)+1) (by omega) (by omega)]
   refine⟨⟨rfl,rfl,rfl,j+1,a*16+d,by omega,rfl,by omega,by omega,by rw[Nat.pow_succ];omega,?_⟩,by dsimp only;omega⟩
   rw[show 4-(j+1)=3-j by omega,<-Nat.add_assoc];exact h4
 ·have:j=4:=by omega
  subst this
  rw[<-h4]at hk;exact hk
end Go.TVF
